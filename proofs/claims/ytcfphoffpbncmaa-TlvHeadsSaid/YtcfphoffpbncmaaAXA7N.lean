/- The abstract executor, part 7b: rows whose elements have rows of their own, made by a literal; rows of zeros; cuts at a row's end. -/
import Derived.Test.YtcfphoffpbncmaaAXA8
import Derived.Test.YtcfphoffpbncmaaAXA6N
set_option linter.unusedVariables false
set_option linter.unusedSimpArgs false
namespace Go.AX
section
variable {P : Program} {E : Env} {w : World} {β : Bs} {st : St} {a : Act}
def ncells (pk : Option IntKind) (y : Int) : List Value := match pk with
  | some k => [.int k y, .slice none 0 0]
  | none => [.slice none 0 0]
theorem ncells_len (pk : Option IntKind) (y : Int) : (ncells pk y).length = nsz pk := by cases pk <;> rfl
/-- A row of such elements whose own rows are nil. -/
theorem nestO.nils {ok : Nat → Prop} {g cap : Nat} {cells : Array Value} {e : TypeId} {pk : Option IntKind} {eb : TypeId} {r : Row} {ys : List Int} (hg : w.heap[g]? = some (.cells cells e (0, 0))) (hs : cells.size = cap * nsz pk) (hl : ys.length ≤ cap) (hm : cap ≤ maxLen)
    (hall : ∀ (k : Nat) (y : Int), ys[k]? = some y → ∀ s, s < nsz pk → cells[k * nsz pk + s]? = (ncells pk y)[s]?) : nestO w ok (fp1 (some (g, cap))) e pk eb r (ys.map fun y => (y, [])) none := by
  refine ⟨g, cap, cells, rfl, hg, hs, by simpa using hl, hm, (fun q hq => nomatch hq), fun i x hx => ?_⟩
  rw [List.getElem?_map] at hx
  cases hy : ys[i]? with
  | none => rw [hy] at hx; cases hx
  | some y =>
    rw [hy] at hx
    injection hx with hx
    subst hx
    have h := hall i y hy
    refine ⟨fun k hk => ?_, .slice none 0 0, ?_, (fun q hq => nomatch hq), fun _ => ⟨rfl, .inl ⟨rfl, rfl⟩⟩⟩
    · subst hk
      have := h 0 (nsz_pos _)
      rw [Nat.add_zero] at this
      rw [this]
      rfl
    · rw [h _ (nbo_lt pk)]
      cases pk <;> rfl
theorem anparts_run (hS : SRep w β st a) {pk : Option IntKind} : ∀ (l : List (Nat × Operand)) {K : List Int → Prop}, anparts pk st l K →
    ∃ ys, K ys ∧ ys.length = l.length ∧ repL (fun (y : Int) (p : Nat × Value) => p.2.cells.toList = ncells pk y) ys (l.map fun p => (p.1, a.eval p.2))
  | [], K, h => ⟨[], h, rfl, trivial⟩
  | (i, x) :: l, K, h => by
    unfold anparts at h
    split at h
    · rename_i k k' n hev
      split at h
      · rename_i hk
        subst hk
        obtain ⟨ys, h1, h2, h3⟩ := anparts_run hS l h
        refine ⟨_, h1, by simp [h2], ?_, h3⟩
        have hr := ev_rep hS x
        rw [hev] at hr
        obtain ⟨m, hv, hm⟩ := hr
        match m, hm with
        | [u, v], hm =>
          have e1 : u = _ := hm.1.1
          have e2 : v = _ := hm.2.1.1
          subst e1 e2
          show (a.eval x).cells.toList = _
          rw [hv]
          rfl
      · exact h.elim
    · rename_i hev
      obtain ⟨ys, h1, h2, h3⟩ := anparts_run hS l h
      refine ⟨_, h1, by simp [h2], ?_, h3⟩
      have := ev_v hS hev
      show (a.eval x).cells.toList = _
      rw [this]
      rfl
    · exact h.elim
theorem iotas_spec : ∀ (l : List (Nat × Operand)) (j : Nat), iotas j l = true → ∀ (k : Nat) (p : Nat × Operand), l[k]? = some p → p.1 = j + k
  | [], _, _, k, p, hk => by simp at hk
  | (i, x) :: l, j, h, k, p, hk => by
    simp only [iotas, Bool.and_eq_true, beq_iff_eq] at h
    cases k with
    | zero => simp at hk; subst hk; exact h.1
    | succ k => have := iotas_spec l (j + 1) h.2 k p (by simpa using hk); omega
theorem repL.getr {α β : Type} {R : α → β → Prop} : ∀ (l : List α) (m : List β), repL R l m → ∀ (j : Nat) (b : β), m[j]? = some b → ∃ a : α, l[j]? = some a ∧ R a b
  | [], [], _, j, a, h => by simp at h
  | x :: l, y :: m, hr, 0, a, h => ⟨x, rfl, by simp at h; subst h; exact hr.1⟩
  | x :: l, y :: m, hr, j + 1, a, h => by
    simp at h ⊢
    exact repL.getr l m hr.2 j a h
  | [], _ :: _, hr, _, _, _ => hr.elim
  | _ :: _, [], hr, _, _, _ => hr.elim
theorem nbuild_run (hE : EnvOk P E) (hS : SRep w β st a) {t : TypeId} {pk : Option IntKind} {eb : TypeId} {r : Row} (hn : E.nest t = some (pk, eb, r)) {e : TypeId} {r0 : Row} {bytes len : Nat} (ht : E.slice t = some (e, r0, bytes)) {parts : Array (Nat × Operand)} {K : AV → List Obj → Prop}
    (h : anparts pk st parts.toList fun ys => if iotas 0 parts.toList = true ∧ ys.length = len ∧ len * nsz pk ≤ 16777216 ∧ 0 < len then K (.cv (.own st.hp.length)) (st.hp ++ [.nest e pk eb r (ys.map fun y => (y, [])) none]) else False) :
    ∃ v av w' β' hp', K av hp' ∧ HRep w' β' hp' ∧ Evo w β st.hp w' β' hp' ∧ av.rep w' β' hp' v ∧ (Instr.buildSlice t len (parts.map fun (i, x) => (i, a.eval x))).run P w = .ok v w' := by
  obtain ⟨hu, i, z, hi, hsz, hby, hz, hzs, hb0⟩ := hE.slice t e r0 bytes ht
  obtain ⟨e2, hu2, i2, z2, hi2, hsz2, _⟩ := hE.nest t pk eb r hn
  rw [hu] at hu2
  injection hu2 with hu2
  injection hu2 with hu2
  subst hu2
  rw [hi] at hi2
  injection hi2 with hi2
  subst hi2
  obtain ⟨ys, h1, h2, h3⟩ := anparts_run hS parts.toList h
  split at h1
  · rename_i hc
    obtain ⟨hio, hyl, hlen, hl0⟩ := hc
    have hpl : parts.toList.length = len := by omega
    have hsp := nsz_pos pk
    have h0 : len * nsz pk ≠ 0 := by
      have : 0 < len * nsz pk := Nat.mul_pos hl0 hsp
      omega
    have r2 : ∀ p ∈ parts.toList.map fun p => (p.1, a.eval p.2), p.2.cells.size = nsz pk := fun p hp => by
      obtain ⟨k, hk⟩ := List.mem_iff_getElem?.1 hp
      obtain ⟨y, _, hy⟩ := repL.getr _ _ h3 k p hk
      rw [← Array.length_toList, hy, ncells_len]
    have hfill := fill_all (nsz pk) (parts.toList.map fun p => (p.1, a.eval p.2)) 0 ((Array.range (len * nsz pk)).map fun i => z.cells[i % z.cells.size]!) (fun k p hk => by
      rw [List.getElem?_map] at hk
      cases hq : parts.toList[k]? with
      | none => rw [hq] at hk; cases hk
      | some q =>
        rw [hq] at hk
        injection hk with hk
        subst hk
        exact iotas_spec _ 0 hio k q hq) r2 (by simp only [List.length_map, hpl]; simp)
    have hls : ∀ l ∈ (parts.toList.map fun p => (p.1, a.eval p.2)).map (fun p => p.2.cells.toList), l.length = nsz pk := by
      intro l hl'
      obtain ⟨p, hp, rfl⟩ := List.mem_map.1 hl'
      rw [Array.length_toList]
      exact r2 p hp
    have hflen := flat_len (nsz pk) _ hls
    simp only [List.length_map, hpl] at hflen
    have hcells : (List.take (0 * nsz pk) (((Array.range (len * nsz pk)).map fun i => z.cells[i % z.cells.size]!).toList) ++ ((parts.toList.map fun p => (p.1, a.eval p.2)).map fun p => p.2.cells.toList).flatten ++
        List.drop ((0 + (parts.toList.map fun p => (p.1, a.eval p.2)).length) * nsz pk) (((Array.range (len * nsz pk)).map fun i => z.cells[i % z.cells.size]!).toList)).toArray = (((parts.toList.map fun p => (p.1, a.eval p.2)).map fun p => p.2.cells.toList).flatten).toArray := by
      rw [Nat.zero_mul, List.take_zero, List.nil_append, Nat.zero_add, List.length_map, hpl, List.drop_eq_nil_of_le (by simp), List.append_nil]
    rw [hcells] at hfill
    have hrun : (Instr.buildSlice t len (parts.map fun (i, x) => (i, a.eval x))).run P w = .ok (.slice (some ⟨w.heap.size, 0, none⟩) len len) (w.alloc (.cells (((parts.toList.map fun p => (p.1, a.eval p.2)).map fun p => p.2.cells.toList).flatten).toArray e)) := by
      unfold Instr.buildSlice
      have hm : (parts.map fun (x : Nat × Operand) => (x.1, a.eval x.2)).toList = parts.toList.map fun p => (p.1, a.eval p.2) := by simp
      simp only [Sem.run_bind, run_underlying hu, Result.andThen_ok, run_sizeOf hi, hsz2]
      rw [if_neg (by omega)]
      simp only [h0, if_false]
      simp only [Sem.run_bind, run_zeroValue hi hz, Result.andThen_ok, Sem.run_pure]
      rw [hm, hfill]
      simp [newRow]
    obtain ⟨e1, e2⟩ := hS.hp.new (w' := w.alloc (.cells (((parts.toList.map fun p => (p.1, a.eval p.2)).map fun p => p.2.cells.toList).flatten).toArray e)) (.nest e pk eb r (ys.map fun y => (y, [])) none) (some (w.heap.size, len)) rfl rfl rfl (by simp) (fun b hb => alloc_old w _ b hb) (fun g c hg => by injection hg with hg; injection hg with hg hg'; omega)
    refine ⟨_, _, _, _, _, h1, e2 ?_, e1, ⟨by simp, ?_⟩, hrun⟩
    · unfold ObjRep
      rw [hget_append_new, bnewF_at]
      refine nestO.nils (cells := (((parts.toList.map fun p => (p.1, a.eval p.2)).map fun p => p.2.cells.toList).flatten).toArray) (alloc_at w _) (by simp only [List.size_toArray]; exact hflen) (by omega) (by
        have : len ≤ len * nsz pk := Nat.le_mul_of_pos_right _ hsp
        simp only [maxLen]
        omega) fun k y hk s hs => ?_
      obtain ⟨p, hp, hpy⟩ := repL.get _ _ h3 k y hk
      have := flat_get (nsz pk) _ hls k p.2.cells.toList (by simp only [List.getElem?_map] at hp ⊢; rw [hp]; rfl)
      rw [← hpy, ← this, List.getElem?_take_of_lt hs, List.getElem?_drop, List.getElem?_toArray]
    · rw [hget_append_new, bnew_at]
      show _ = ownVal _ _
      rw [List.length_map, hyl]
      rfl
  · exact h1.elim
theorem made_get {z : Array Value} {n q : Nat} (h0 : 0 < z.size) (h : q < n) : (madeCells z n)[q]? = z[q % z.size]? := by
  have hm := Nat.mod_lt q h0
  simp [madeCells, h, hm]
theorem make_run (hE : EnvOk P E) (hH : HRep w β st.hp) {t e : TypeId} {r0 : Row} {bytes : Nat} (ht : E.slice t = some (e, r0, bytes)) {n m : Int} (hb : 0 ≤ n ∧ n ≤ m ∧ m * bytes ≤ 140737488355328 ∧ m * r0.size ≤ 16777216) {K : AV → List Obj → Prop}
    (h : match E.nest t with
      | some (pk, eb, r) => K (.cv (.own st.hp.length)) (st.hp ++ [.nest e pk eb r (List.replicate n.toNat (0, [])) none])
      | none => match E.zero e with
        | some z => match r0.ofCvs (z.map CV.v) with
          | some z => K (.cv (.own st.hp.length)) (st.hp ++ [.row e r0 (List.replicate n.toNat z)])
          | none => False
        | none => False) :
    ∃ v av w' β' hp', K av hp' ∧ HRep w' β' hp' ∧ Evo w β st.hp w' β' hp' ∧ av.rep w' β' hp' v ∧ (Instr.makeSlice t (.int .i64 n) (.int .i64 m)).run P w = .ok v w' := by
  obtain ⟨hu, i, z, hi, hsz, hby, hz, hzs, hb0⟩ := hE.slice t e r0 bytes ht
  obtain ⟨hb1, hb2, hb3, hb4⟩ := hb
  have hrp := r0.size_pos
  have hm16 : m ≤ 16777216 := by
    have : m * 1 ≤ m * r0.size := Int.mul_le_mul_of_nonneg_left (by omega) (by omega)
    omega
  have hrun := run_makeSlice (P := P) w t e i z hu hi hz .i64 .i64 n m hb1 hb2 (by
    rw [hsz]
    have : ((m.toNat * r0.size : Nat) : Int) = m * r0.size := by rw [Int.natCast_mul]; congr 1; omega
    omega) (by rw [hby, Int.mul_comm]; omega) (by omega)
  have hcs : (madeCells z.cells (m.toNat * i.size)).size = m.toNat * r0.size := by rw [size_madeCells, hsz]
  have hget : ∀ k s, k < m.toNat → s < r0.size → (madeCells z.cells (m.toNat * i.size))[k * r0.size + s]? = z.cells[s]? := fun k s hk hs => by
    have hle : (k + 1) * r0.size ≤ m.toNat * r0.size := Nat.mul_le_mul_right _ hk
    rw [Nat.add_mul] at hle
    rw [made_get (by rw [hzs]; exact hrp) (by rw [hsz]; omega), hzs]
    congr 1
    rw [Nat.add_comm, Nat.add_mul_mod_self_right, Nat.mod_eq_of_lt hs]
  split at h
  · rename_i pk eb r hn
    obtain ⟨e2, hu2, i2, z2, hi2, hsz2, hz2, hzc⟩ := hE.nest t pk eb r hn
    rw [hu] at hu2
    injection hu2 with hu2
    injection hu2 with hu2
    subst hu2
    rw [hi] at hi2
    injection hi2 with hi2
    subst hi2
    rw [hz] at hz2
    injection hz2 with hz2
    subst hz2
    have hrs : r0.size = nsz pk := hsz.symm.trans hsz2
    have hrep : (List.replicate n.toNat (0, []) : List (Int × List r.den)) = (List.replicate n.toNat (0 : Int)).map fun y => (y, []) := by simp
    rw [hrep] at h
    obtain ⟨e1, e2⟩ := hH.new (w' := w.alloc (.cells (madeCells z.cells (m.toNat * i.size)) e)) (.nest e pk eb r ((List.replicate n.toNat (0 : Int)).map fun y => (y, [])) none) (some (w.heap.size, m.toNat)) rfl rfl rfl (by simp) (fun b hb => alloc_old w _ b hb) (fun g c hg => by injection hg with hg; injection hg with hg hg'; omega)
    refine ⟨_, _, _, _, _, h, e2 ?_, e1, ⟨by simp, ?_⟩, hrun⟩
    · unfold ObjRep
      rw [hget_append_new, bnewF_at]
      refine nestO.nils (alloc_at w _) (by rw [hcs, hrs]) (by simp; omega) (by simp only [maxLen]; omega) fun k y hk s hs => ?_
      have hkl := (List.getElem?_eq_some_iff.1 hk).1
      simp at hkl
      have hy : y = 0 := by
        rw [List.getElem?_replicate] at hk
        split at hk
        · injection hk with hk; exact hk.symm
        · cases hk
      subst hy
      have := hget k s (by omega) (by omega)
      rw [hrs] at this
      rw [this, ← Array.getElem?_toList, hzc]
      cases pk <;> rfl
    · rw [hget_append_new, bnew_at]
      show _ = ownVal _ _
      simp [ownVal]
  · split at h
    · rename_i zl hzl
      obtain ⟨i3, zv, hi3, hzv, hzc, hone⟩ := hE.zero e zl hzl
      rw [hi] at hi3
      injection hi3 with hi3
      subst hi3
      rw [hz] at hzv
      injection hzv with hzv
      subst hzv
      split at h
      · rename_i z0 hz0
        obtain ⟨e1, e2⟩ := hH.new (w' := w.alloc (.cells (madeCells z.cells (m.toNat * i.size)) e)) (.row e r0 (List.replicate n.toNat z0)) (some (w.heap.size, m.toNat)) rfl rfl rfl (by simp) (fun b hb => alloc_old w _ b hb) (fun g c hg => by injection hg with hg; injection hg with hg hg'; omega)
        refine ⟨_, _, _, _, _, h, e2 ?_, e1, ⟨by simp, ?_⟩, hrun⟩
        · unfold ObjRep
          rw [hget_append_new, bnew_at]
          refine .inr ⟨_, _, _, rfl, alloc_at w _, hcs, by simp; omega, by simp only [maxLen]; omega, fun k x hk => ?_⟩
          have hkl := (List.getElem?_eq_some_iff.1 hk).1
          simp at hkl
          have hx : x = z0 := by
            rw [List.getElem?_replicate] at hk
            split at hk
            · injection hk with hk; exact hk.symm
            · cases hk
          subst hx
          have hzr := r0.ofCvs_rep (w := w.alloc (.cells (madeCells z.cells (m.toNat * i.size)) e)) (β := bnewF β st.hp.length (fp1 (some (w.heap.size, m.toNat)))) (hp := st.hp ++ [.row e r0 (List.replicate n.toNat x)]) _ _ _ hz0 (repL_consts zl hone _)
          have : ((madeCells z.cells (m.toNat * i.size)).toList.drop (k * r0.size)).take r0.size = zl := by
            apply List.ext_getElem?
            intro s
            by_cases hs : s < r0.size
            · rw [List.getElem?_take_of_lt hs, List.getElem?_drop, Array.getElem?_toList, hget k s (by omega) hs, ← hzc, Array.getElem?_toList]
            · rw [List.getElem?_eq_none (by simp; omega), List.getElem?_eq_none (by rw [← hzc, Array.length_toList, hzs]; omega)]
          rw [this]
          exact hzr
        · rw [hget_append_new, bnew_at]
          show _ = ownVal _ _
          simp [ownVal]
      · exact h.elim
    · exact h.elim
/-- A cut at the end of a row that the call made. -/
theorem acutOwn_run (hE : EnvOk P E) (hS : SRep w β st a) {t e : TypeId} {r0 : Row} {bytes : Nat} (ht : E.slice t = some (e, r0, bytes)) {id : Nat} {v : Value} (hy : (CV.own id).rep w β st.hp v) (hsz : osz st.hp id = r0.size) {hi : Option Operand} {K : AV → List Obj → Prop}
    (h : acutOwn st.hp id hi st K) : ∃ u av β' hp', K av hp' ∧ HRep w β' hp' ∧ Evo w β st.hp w β' hp' ∧ av.rep w β' hp' u ∧ (Instr.sliceAt t v none (hi.map a.eval) none).run P w = .ok u w := by
  obtain ⟨hu, i, z, hi', hisz, hby, hz, hzs, hb0⟩ := hE.slice t e r0 bytes ht
  have hid := hy.1
  have hcut : ∀ (o : Option (Nat × Nat)) (n : Nat) (k : Int), v = ownVal o n → (∀ g c, o = some (g, c) → n ≤ c) → (o = none → n = 0) → optI st n hi = some k → 0 ≤ k ∧ k ≤ n → (Instr.sliceAt t v none (hi.map a.eval) none).run P w = .ok (ownVal o k.toNat) w := by
    intro o n k hv hc hn hk hb
    have hk' := optI_run hS hk
    have hh : (hi.map a.eval = none ∧ k = n) ∨ ∃ kk, hi.map a.eval = some (.int kk k) := by
      rcases hk' with ⟨rfl, rfl⟩ | ⟨k, y, rfl, h1⟩
      · exact .inl ⟨rfl, rfl⟩
      · exact .inr ⟨k, by simp [h1]⟩
    cases o with
    | none =>
      have := hn rfl
      subst this
      have hk0 : k = 0 := by omega
      subst hk0
      have := run_cut (P := P) (w := w) hu hi' none 0 0 (Nat.le_refl _) (lo := none) (hi := hi.map a.eval) (l := 0) (h := 0) (.inl ⟨rfl, rfl⟩) hh ⟨by omega, by omega, by omega⟩
      rw [hv]
      simpa [ownVal] using this
    | some p =>
      obtain ⟨g, c⟩ := p
      have hnc := hc g c rfl
      have := run_cut (P := P) (w := w) hu hi' (some ⟨g, 0, none⟩) n c hnc (lo := none) (hi := hi.map a.eval) (l := 0) (h := k) (.inl ⟨rfl, rfl⟩) hh ⟨by omega, by omega, by omega⟩
      rw [hv]
      simp only [ownVal]
      rw [this]
      congr 1
      simp [Addr.add_lit]
  unfold acutOwn at h
  split at h
  · rename_i e' r xs hg
    split at h
    · rename_i k hk
      obtain ⟨hb, h⟩ := h
      obtain ⟨hv, hro⟩ := own_row hS.hp hy hg
      have hrun := hcut (β id) xs.length k hv (fun g c he => by
        rcases hro with ⟨h0, _⟩ | ⟨g', cap, cells, h0, _, _, hl, _⟩
        · rw [h0] at he; cases he
        · rw [h0] at he; injection he with he; injection he with he1 he2; omega) (fun he => by
        rcases hro with ⟨_, rfl⟩ | ⟨g', cap, cells, h0, _⟩
        · rfl
        · rw [h0] at he; cases he) hk hb
      have hl : (xs.take k.toNat).length = k.toNat := by simp; omega
      obtain ⟨e1, e2⟩ := hS.hp.swap (w' := w) (.row e' r (xs.take k.toNat)) (β id) (live_row hg) (fun e cs h => by rw [hg] at h; cases h) rfl rfl rfl (Nat.le_refl _) (fun _ _ _ => rfl) (fun g c he => .inr ⟨c, he⟩)
      have hg0 : hget (hset st.hp id Obj.gone ++ [Obj.row e' r (xs.take k.toNat)]) st.hp.length = .row e' r (xs.take k.toNat) := by
        have := hget_append_new (hset st.hp id .gone) (Obj.row e' r (xs.take k.toNat))
        rwa [hset_len] at this
      refine ⟨_, _, _, _, h, e2 ?_, e1, ⟨by simp [hset_len], ?_⟩, hrun⟩
      · unfold ObjRep
        rw [hg0, bnew_at]
        rcases hro with ⟨h0, rfl⟩ | ⟨g, cap, cells, h0, q1, q2, q3, q4, q5⟩
        · exact .inl ⟨h0, by simp⟩
        · refine .inr ⟨g, cap, cells, h0, q1, q2, by simp; omega, q4, fun j x hx => ?_⟩
          rw [List.getElem?_take] at hx
          split at hx
          · exact Row.rep_mono e1.stays _ _ _ (q5 j x hx)
          · cases hx
      · rw [hg0, bnew_at]
        show _ = ownVal _ _
        rw [hl]
    · exact h.elim
  · rename_i e' pk eb r xs ov hg
    split at h
    · rename_i k hk
      obtain ⟨hb, hov, h⟩ := h
      have hv := hy.2
      rw [hg] at hv
      have hv : v = ownVal (β.f id 0) xs.length := hv
      have hO := hS.hp.obj id hid
      unfold ObjRep at hO
      rw [hg] at hO
      obtain ⟨g, cap, cells, c0, c1, c2, c3, c4, _, hall⟩ := hO
      have hrun := hcut (β.f id 0) xs.length k hv (fun g' c he => by
        rw [c0] at he; injection he with he; injection he with he1 he2; omega) (fun he => by rw [c0] at he; cases he) hk hb
      have hl : (xs.take k.toNat).length = k.toNat := by simp; omega
      have hfp : ∀ j, j ≤ k.toNat → fp st.hp id j := fun j hj => by
        unfold fp fpO
        rw [hg]
        refine ⟨by omega, fun p hp => ?_⟩
        subst hp
        have hov : k.toNat ≤ p.1 := hov
        omega
      obtain ⟨e1, e2⟩ := hS.hp.swapF (w' := w) (.nest e' pk eb r (xs.take k.toNat) none) (β.f id) (live_nest hg) (fun e cs h => by rw [hg] at h; cases h) rfl rfl rfl (Nat.le_refl _) (fun _ _ _ => rfl) (fun j g c hj he => .inr ⟨j, c, hfp j (by have := hj.1; omega), he⟩)
        (fun j j' g c c' hj hj' he he' => (hS.hp.diss id id j j' g c c' (hfp j (by have := hj.1; omega)) (hfp j' (by have := hj'.1; omega)) he he').2)
      have hg0 : hget (hset st.hp id Obj.gone ++ [Obj.nest e' pk eb r (xs.take k.toNat) none]) st.hp.length = .nest e' pk eb r (xs.take k.toNat) none := by
        have := hget_append_new (hset st.hp id .gone) (Obj.nest e' pk eb r (xs.take k.toNat) none)
        rwa [hset_len] at this
      refine ⟨_, _, _, _, h, e2 ?_, e1, ⟨by simp [hset_len], ?_⟩, hrun⟩
      · unfold ObjRep
        rw [hg0, bnewF_at]
        refine ⟨g, cap, cells, c0, c1, c2, by omega, c4, (fun q hq => nomatch hq), fun j x hx => ?_⟩
        rw [List.getElem?_take] at hx
        split at hx
        · rename_i hjk
          obtain ⟨a1, u, a2, a3, a4⟩ := hall j x hx
          refine ⟨a1, u, a2, (fun q hq => nomatch hq), fun _ => ?_⟩
          obtain ⟨b1, b2⟩ := a4 (fun q hq => by
            cases ov with
            | none => cases hq
            | some p =>
              injection hq with hq
              subst hq
              have hov : k.toNat ≤ p.1 := hov
              dsimp only
              omega)
          exact ⟨b1, b2.mono e1.stays (fun _ _ _ => rfl)⟩
        · cases hx
      · rw [hg0]
        show _ = ownVal ((bnewF β st.hp.length (β.f id)).f st.hp.length 0) _
        rw [bnewF_at, hl]
    · exact h.elim
  · exact h.elim
end
end Go.AX
