/- The abstract executor, part 8: structs, cuts, conversions. -/
import Derived.Test.YtcfphoffpbncmaaAXA7
set_option linter.unusedVariables false
set_option linter.unusedSimpArgs false
namespace Go.AX
section
variable {P : Program} {E : Env} {w : World} {β : Bs} {st : St} {a : Act}
theorem abuild_run (hS : SRep w β st a) (pl : List (Nat × Nat)) : ∀ (l : List (Nat × Operand)) (cs : List CV) (cells : Array Value), repL (CV.rep w β st.hp) cs cells.toList → ∀ {K : List CV → Prop}, abuild pl st l cs K →
    ∃ cs' cells', K cs' ∧ repL (CV.rep w β st.hp) cs' cells'.toList ∧ Instr.fill (pl.toArray[·]?) cells (l.map fun p => (p.1, a.eval p.2)) = some cells'
  | [], cs, cells, hr, K, h => ⟨cs, cells, h, hr, rfl⟩
  | (f, x) :: l, cs, cells, hr, K, h => by
    unfold abuild at h
    split at h
    · rename_i off n sv hp hev
      split at h
      · rename_i hc
        have hx := ev_rep hS x
        rw [hev] at hx
        obtain ⟨c1, c2, c3⟩ := sv_cells hx hc.2.2
        have hl := repL.len _ _ hr
        simp at hl
        obtain ⟨cs', cells', k1, k2, k3⟩ := abuild_run hS pl l _ (cells.toList.take off ++ (a.eval x).cells.toList ++ cells.toList.drop (off + n)).toArray (by
          rw [List.toList_toArray]
          exact repL.append _ _ _ _ (repL.append _ _ _ _ (repL.take _ _ _ hr) c1) (repL.drop _ _ _ hr)) h
        refine ⟨cs', cells', k1, k2, ?_⟩
        rw [List.map_cons, fill_step _ _ _ _ _ off n (by simpa using hp) (show (a.eval x).cells.size = n by omega) (by omega)]
        exact k3
      · exact h.elim
    · exact h.elim
theorem build_run (hE : EnvOk P E) (hS : SRep w β st a) {t : TypeId} {z : List Value} {pl : List (Nat × Nat)} (hz : E.zero t = some z) (hp : E.strct t = some pl) {parts : Array (Nat × Operand)} {K : List CV → Prop}
    (h : abuild pl st parts.toList (z.map CV.v) K) : ∃ cs v, K cs ∧ (SV.agg cs).rep w β st.hp v ∧ (Instr.build t (parts.map fun (i, x) => (i, a.eval x))).run P w = .ok v w := by
  obtain ⟨i, zv, hi, hzv, hzc, hone⟩ := hE.zero t z hz
  obtain ⟨fs, hu, hm⟩ := hE.strct t pl hp
  obtain ⟨cs, cells, k1, k2, k3⟩ := abuild_run hS pl parts.toList (z.map CV.v) zv.cells (by rw [hzc]; exact repL_consts z hone _) h
  refine ⟨cs, .agg cells, k1, ⟨cells.toList, by simp, k2⟩, ?_⟩
  refine run_build w t _ cells ?_
  unfold Program.built
  rw [hi, hu]
  simp only [hzv, hm]
  have : (parts.map fun (x : Nat × Operand) => (x.1, a.eval x.2)).toList = parts.toList.map fun p => (p.1, a.eval p.2) := by simp
  first
    | exact k3
    | (rw [this]; exact k3)
theorem optI_run (hS : SRep w β st a) {d n : Int} {x : Option Operand} (h : optI st d x = some n) : (x = none ∧ n = d) ∨ ∃ k y, x = some y ∧ a.eval y = .int k n := by
  unfold optI at h
  split at h
  · injection h with h; exact .inl ⟨rfl, h.symm⟩
  · split at h
    · rename_i hev
      injection h with h
      subst h
      exact .inr ⟨_, _, rfl, ev_v hS hev⟩
    · cases h
theorem run_bound {v : Value} {k : IntKind} {n : Int} {y : Nat} {code : BoundsCode} (hv : v = .int k n) (h0 : 0 ≤ n) (h1 : n ≤ y) : (Instr.sliceBound v y code).run P w = .ok n.toNat w := by
  subst hv
  unfold Instr.sliceBound
  simp [asIntOf, h0, h1]
/-- A cut of a slice: run. -/
theorem run_cut {t e : TypeId} {i : TypeInfo} (hu : P.underlying t = some (.slice e)) (hinf : P.info? e = some i) (A : Option Addr) (len cap : Nat) (hlc : len ≤ cap) {lo hi : Option Value} {l h : Int}
    (hl : (lo = none ∧ l = 0) ∨ ∃ k, lo = some (.int k l)) (hh : (hi = none ∧ h = len) ∨ ∃ k, hi = some (.int k h)) (hb : 0 ≤ l ∧ l ≤ h ∧ h ≤ len) :
    (Instr.sliceAt t (.slice A len cap) lo hi none).run P w = .ok (.slice (if cap = l.toNat then A else A.map (·.add (l.toNat * i.size))) (h.toNat - l.toNat) (cap - l.toNat)) w := by
  unfold Instr.sliceAt
  simp only [Sem.run_bind, run_underlying hu, Result.andThen_ok]
  unfold Instr.slice
  simp only [Sem.run_bind, run_underlying hu, Result.andThen_ok]
  have hbounds : (Instr.sliceBounds true len cap lo hi none).run P w = .ok (l.toNat, h.toNat, cap) w := by
    unfold Instr.sliceBounds
    rcases hh with ⟨rfl, rfl⟩ | ⟨k, rfl⟩
    · rcases hl with ⟨rfl, rfl⟩ | ⟨k, rfl⟩
      · simp
      · simp [run_bound (P := P) (w := w) (code := .sliceB) (rfl : (Value.int k l) = _) hb.1 (show l ≤ (len : Int) by omega)]
    · have e1 := run_bound (P := P) (w := w) (code := .sliceAcap) (rfl : (Value.int k h) = _) (show 0 ≤ h by omega) (show h ≤ (cap : Int) by omega)
      rcases hl with ⟨rfl, rfl⟩ | ⟨k', rfl⟩
      · simp [e1]
      · simp [e1, run_bound (P := P) (w := w) (code := .sliceB) (rfl : (Value.int k' l) = _) hb.1 (show l ≤ (h.toNat : Int) by omega)]
  simp only [hbounds, Result.andThen_ok, run_sizeOf hinf]
  rfl
theorem cut_rep {bo ok : Nat → Prop} {r : Row} {xs : List r.den} {A : Option Addr} {c : Nat} (h : bsRep w bo ok r xs (.slice A xs.length c)) {l k : Int} (hb : 0 ≤ l ∧ l ≤ k ∧ k ≤ xs.length) {n : Nat} (hn : n = r.size) :
    bsRep w bo ok r ((xs.take k.toNat).drop l.toNat) (.slice (if c = l.toNat then A else A.map (·.add (l.toNat * n))) (k.toNat - l.toNat) (c - l.toNat)) := by
  obtain ⟨A', c', hv, hl, hx⟩ := h
  injection hv with h1 h2 h3
  subst h1 h3
  have hlen : ((xs.take k.toNat).drop l.toNat).length = k.toNat - l.toNat := by simp; omega
  refine ⟨_, _, by rw [hlen], by rw [hlen]; omega, ?_⟩
  by_cases he : (xs.take k.toNat).drop l.toNat = []
  · exact .inl he
  · right
    have hpos : 0 < k.toNat - l.toNat := by
      rw [← hlen]
      exact List.length_pos_iff.2 he
    rcases hx with rfl | ⟨b, o, rfl, hok, cells, e, fz, hg, hall⟩
    · exact absurd (by simp) he
    · refine ⟨b, o + l.toNat * n, ?_, hok, cells, e, fz, hg, fun i x hi => ?_⟩
      · rw [if_neg (by omega)]
        simp [Addr.add_lit]
      · rw [List.getElem?_drop, List.getElem?_take] at hi
        split at hi
        · have := hall _ x hi
          rw [hn]
          have e1 : o + l.toNat * r.size + i * r.size = o + (l.toNat + i) * r.size := by rw [Nat.add_mul]; omega
          rw [e1]
          exact this
        · cases hi
theorem acut_run (hE : EnvOk P E) (hS : SRep w β st a) {t e : TypeId} {r0 : Row} {bytes : Nat} (ht : E.slice t = some (e, r0, bytes)) {y : CV} {v : Value} (hy : y.rep w β st.hp v) (hsz : (∀ e' r (xs : List r.den), (froz st.hp y).1 = .sl e' r xs → r.size = r0.size) ∧ (∀ r (xs : List r.den), (froz st.hp y).1 = .bs r xs → r.size = r0.size)) {lo hi : Option Operand} {K : AV → List Obj → Prop}
    (h : acut st.hp y lo hi st K) : ∃ u av hp', K av hp' ∧ HRep w β hp' ∧ Evo w β st.hp w β hp' ∧ av.rep w β hp' u ∧ (Instr.sliceAt t v (lo.map a.eval) (hi.map a.eval) none).run P w = .ok u w := by
  obtain ⟨hu, i, z, hi', hisz, hby, hz, hzs, hb0⟩ := hE.slice t e r0 bytes ht
  obtain ⟨f1, f2, f3⟩ := froz_rep hS.hp hy
  unfold acut at h
  split at h
  · rename_i e' r xs hp' hf
    have hs := hsz.1 e' r xs (by rw [hf])
    rw [hf] at f1 f2 f3
    split at h
    · rename_i l k hl hk
      obtain ⟨A, c, hv, hlc, hx⟩ := f3
      subst hv
      have hl' := optI_run hS hl
      have hk' := optI_run hS hk
      refine ⟨_, _, hp', h.2, f2, f1, cut_rep (n := i.size) ⟨A, c, rfl, hlc, hx⟩ h.1 (by rw [hisz, hs]), ?_⟩
      refine run_cut hu hi' A xs.length c hlc ?_ ?_ h.1
      · rcases hl' with ⟨rfl, rfl⟩ | ⟨k, y, rfl, h1⟩
        · exact .inl ⟨rfl, rfl⟩
        · exact .inr ⟨k, by simp [h1]⟩
      · rcases hk' with ⟨rfl, rfl⟩ | ⟨k, y, rfl, h1⟩
        · exact .inl ⟨rfl, rfl⟩
        · exact .inr ⟨k, by simp [h1]⟩
    · exact h.elim
  · rename_i r xs hp' hf
    have hs := hsz.2 r xs (by rw [hf])
    rw [hf] at f1 f2 f3
    split at h
    · rename_i l k hl hk
      obtain ⟨A, c, hv, hlc, hx⟩ := f3
      subst hv
      have hl' := optI_run hS hl
      have hk' := optI_run hS hk
      refine ⟨_, _, hp', h.2, f2, f1, cut_rep (n := i.size) ⟨A, c, rfl, hlc, hx⟩ h.1 (by rw [hisz, hs]), ?_⟩
      refine run_cut hu hi' A xs.length c hlc ?_ ?_ h.1
      · rcases hl' with ⟨rfl, rfl⟩ | ⟨k, y, rfl, h1⟩
        · exact .inl ⟨rfl, rfl⟩
        · exact .inr ⟨k, by simp [h1]⟩
      · rcases hk' with ⟨rfl, rfl⟩ | ⟨k, y, rfl, h1⟩
        · exact .inl ⟨rfl, rfl⟩
        · exact .inr ⟨k, by simp [h1]⟩
    · exact h.elim
  · exact h.elim
theorem strOf_run {s d e : TypeId} (hs : P.underlying s = some (.slice e)) (he : P.underlying e = some (.int .u8)) (hd : P.underlying d = some .string) {ok : Nat → Prop} {xs : List Int} {v : Value} (h : Rd w ok (.one (.int .u8)) xs v) :
    (convert s d v).run P w = .ok (.string (strOfNums xs)) w := by
  obtain ⟨A, c, rfl, hl, hx⟩ := h
  rcases hx with rfl | ⟨b, o, rfl, cells, e', fz, hg, hall⟩
  · cases A with
    | none =>
      rw [run_convert_bytes_nil w s e hs he _ _ d hd]
      rfl
    | some ad =>
      rw [run_convert_bytes_string w s d e _ _ _ hs he hd]
      show (Conv.bytesToString (.slice (some ad) 0 c)).run P w = _
      rw [run_bytesToString w ad 0 c [] (by simp [loadCells, loadCellsFrom])]
      rfl
  · refine run_convert_bytes_arg w s e hs he b o xs.length c xs rfl (fun i hi => ?_) d hd
    have := hall i _ (List.getElem?_eq_getElem hi)
    unfold Row.rep at this
    obtain ⟨u, h1, h2⟩ := this
    unfold Ty.rep at h2
    have h3 : ((cells.toList.drop (o + i * 1)).take 1)[0]? = some u := by
      have h1 : (cells.toList.drop (o + i * 1)).take 1 = [u] := h1
      rw [h1]; rfl
    rw [List.getElem?_take, if_pos (by omega), List.getElem?_drop] at h3
    simp only [World.cell?, hg]
    have e1 : o + i * 1 + 0 = o + i := by omega
    rw [e1] at h3
    have e2 : xs.getD i 0 = xs[i] := by simp [List.getD, List.getElem?_eq_getElem hi]
    rw [e2, ← h2]
    simpa using h3

/-- '[]byte("..")': the row bears a mark, and is only read from then on. -/
theorem mark_run {s e : TypeId} (hu : P.underlying s = some (.slice e)) (he : P.underlying e = some (.int .u8)) (hH : HRep w β st.hp) {id : Nat} {v : Value} (hr : (CV.own id).rep w β st.hp v) {e' : TypeId} {r : Row} {xs : List r.den} (hg : hget st.hp id = .row e' r xs) (hne : 0 < xs.length) :
    ∃ w', (convert s s v).run P w = .ok v w' ∧ HRep w' β (hset st.hp id (.fro e' r xs)) ∧ Evo w β st.hp w' β (hset st.hp id (.fro e' r xs)) ∧ (CV.sl e' r xs).rep w' β (hset st.hp id (.fro e' r xs)) v := by
  obtain ⟨rfl, hro⟩ := own_row hH hr hg
  have hid := hr.1
  rcases hro with ⟨_, rfl⟩ | ⟨g, cap, cells, h0, hgg, hs, hl, hm, hall⟩
  · exact absurd hne (by simp)
  · have hrun : (convert s s (ownVal (β id) xs.length)).run P w = .ok (ownVal (β id) xs.length) (w.freeze ⟨g, cells.size, none⟩ 1) := by
      rw [h0]
      simp [ownVal, convert, run_underlying hu, run_underlying he, markStringish, World.shape?, hgg]
    have hold : ∀ b, b ≠ g → (w.freeze ⟨g, cells.size, none⟩ 1).heap[b]? = w.heap[b]? := fun b hb => by
      simp only [World.freeze, Nat.one_ne_zero, if_false, Array.getElem?_modify]
      rw [if_neg (fun e => hb e.symm)]
    have hnew : (w.freeze ⟨g, cells.size, none⟩ 1).heap[g]? = some (.cells cells e' (cells.size, cells.size + 1)) := by
      simp [World.freeze, Array.getElem?_modify, hgg]
    have hsize : (w.freeze ⟨g, cells.size, none⟩ 1).heap.size = w.heap.size := by simp [World.freeze]
    have hd : ¬ live (hset st.hp id (.fro e' r xs)) id := by unfold live; rw [hget_hset_self _ _ _ hid]; exact fun h => h
    have hlv : ∀ j, live (hset st.hp id (.fro e' r xs)) j → j ≠ id ∧ live st.hp j := fun j hl' => by
      have hne : j ≠ id := fun e => hd (e ▸ hl')
      refine ⟨hne, ?_⟩
      unfold live at hl' ⊢
      rwa [hget_hset_ne _ _ _ _ hne] at hl'
    have hng : ∀ j jj c, fp st.hp j jj → j ≠ id → β.f j jj = some (g, c) → False := fun j jj c hl' hne hb => hne (hH.diss j id jj 0 g c cap hl' (live_fp (live_row hg)) hb h0).1
    have hfv : ∀ j jj, fp (hset st.hp id (.fro e' r xs)) j jj → j ≠ id ∧ fp st.hp j jj := fun j jj hf => by
      have hne : j ≠ id := fun e => by
        subst e
        exact hd (fp_live hf)
      exact ⟨hne, (fp_get (hget_hset_ne _ _ _ _ hne)).1 hf⟩
    have key : Stays w (w.freeze ⟨g, cells.size, none⟩ 1) (imm w β st.hp) (imm (w.freeze ⟨g, cells.size, none⟩ 1) β (hset st.hp id (.fro e' r xs))) → slRep (w.freeze ⟨g, cells.size, none⟩ 1) (imm (w.freeze ⟨g, cells.size, none⟩ 1) β (hset st.hp id (.fro e' r xs))) r xs (ownVal (β id) xs.length) := by
      intro hst
      rw [h0]
      refine ⟨some ⟨g, 0, none⟩, cap, rfl, hl, .inr ⟨g, 0, rfl, ⟨by rw [hsize]; exact (Array.getElem?_eq_some_iff.1 hgg).1, ?_, hH.no id g cap (live_row hg) h0⟩, cells, e', _, hnew, fun i x hi => by rw [Nat.zero_add]; exact Row.rep_mono hst r x _ (hall i x hi)⟩⟩
      rintro ⟨j, jj, c, hl', hb⟩
      obtain ⟨a1, a2⟩ := hfv j jj hl'
      exact hng j jj c a2 a1 hb
    obtain ⟨h1, h2⟩ := hH.step (w' := w.freeze ⟨g, cells.size, none⟩ 1) (β' := β) (hp' := hset st.hp id (.fro e' r xs)) (fun _ => False) rfl rfl rfl (by rw [hsize]; exact Nat.le_refl _) (by rw [hset_len]; exact Nat.le_refl _) rfl
      (fun b _ hm => hold b fun e => hm ⟨id, 0, cap, live_fp (live_row hg), e ▸ h0⟩)
      (fun j _ hl' => by
        obtain ⟨a1, a2⟩ := hlv j hl'
        exact ⟨hget_hset_ne _ _ _ _ a1, rfl, fun jj g' c hf hb => hold g' fun e => hng j jj c hf a1 (e ▸ hb)⟩)
      (fun _ _ _ _ hn => hn.elim) (fun _ _ _ _ _ _ _ hn => hn.elim)
      (fun j hj => by
        by_cases e : j = id
        · subst e
          refine .inr fun hst => ?_
          rw [hget_hset_self _ _ _ hj, hg]
          exact key hst
        · exact .inl ⟨hget_hset_ne _ _ _ _ e, rfl⟩)
    exact ⟨_, hrun, h2 (fun _ hn => hn.elim), h1, key h1.stays⟩
end
end Go.AX
