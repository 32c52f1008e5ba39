/- The abstract executor, part 9d: a call of a function that writes to what it is handed: what stands behind it. -/
import Derived.Test.YtcfphoffpbncmaaAXA9M
set_option linter.unusedVariables false
set_option linter.unusedSimpArgs false
namespace Go.AX
open Go.RowKit
section
variable {P : Program} {E : Env} {w : World} {β : Bs} {st : St} {a : Act}
theorem hset_lt_app {l m : List Obj} {id : Nat} {o : Obj} (h : id < l.length) : hset (l ++ m) id o = hset l id o ++ m := by
  induction l generalizing id with
  | nil => simp at h
  | cons x l ih =>
    cases id with
    | zero => rfl
    | succ n => simp [hset, ih (by simpa using h)]
structure AftAt (w' : World) (A' : Acc) (hp0 : List Obj) (n : Nat) (oA : List Fp) (hpF : List Obj) (id : Nat) (v : Value) : Prop where
  at_ : ∃ pos o, pos < oA.length ∧ hget hpF (n + pos) = .gone ∧ oA[pos]? = some (fp1 o) ∧
    ((∃ e cs g c, hget hpF id = .box e cs ∧ o = some (g, c) ∧ v = .pointer (some ⟨g, 0, none⟩) ∧
        ∀ β' : Bs, AStays w' w' A' (accOf w' β' hpF) → (∀ k, k < oA.length → β'.f (n + k) = oA.getD k nF) → (∃ c', β' id = some (g, c')) → ObjRep w' β' hpF id) ∨
     (∃ e r, ∃ (xs xs0 : List r.den), hget hpF id = .row e r xs ∧ hget hp0 id = .row e r xs0 ∧ v = ownVal o xs.length ∧ rowObj w' A'.ok o e r xs))
theorem after_run {hp0 : List Obj} {w' : World} {A' : Acc} : ∀ {aft : List TV} {io : List Nat} {vals : List Value} {oA : List Fp} {hp : List Obj} {K : List Obj → Prop}, after hp0 hp io aft K → TV.cons w' A' aft vals oA → io.Nodup → (∀ id, id ∈ io → id < hp.length) →
    ∃ hpF, K hpF ∧ hpF.length = hp.length + oA.length ∧ (∀ id, id < hp.length → id ∉ io → hget hpF id = hget hp id) ∧
      (∀ β' : Bs, AStays w' w' A' (accOf w' β' hpF) → (∀ k, k < oA.length → β'.f (hp.length + k) = oA.getD k nF) → ∀ k, k < oA.length → live hpF (hp.length + k) → ObjRep w' β' hpF (hp.length + k)) ∧
      repL (AftAt w' A' hp0 hp.length oA hpF) io vals
  | [], [], [], _, hp, K, h, hc, _, _ => by
    have hc : _ = [] := hc
    subst hc
    exact ⟨hp, h, rfl, fun _ _ _ => rfl, fun _ _ _ k hk => by simp at hk, trivial⟩
  | .box e ts :: aft, id :: io, v :: vals, _, hp, K, h, ⟨o1, o2, ho, ⟨l, g, c, oi, hv, hgg, hcs, hone, hoi⟩, hc2⟩, hnd, hlt => by
    subst ho hoi
    unfold after at h
    rw [T0.insts_eq] at h
    dsimp only at h
    have hl := T0.cons_len2 hcs
    have hid := hlt id (by simp)
    have hlen : (hset (hp ++ T0.objsL ts ++ [.gone]) id (.box e (T0.cvsAt hp.length ts))).length = hp.length + oi.length + 1 := by simp [hset_len, hl]; omega
    have hnd' := List.nodup_cons.1 hnd
    obtain ⟨hpF, h1, h2, h3, h4, h5⟩ := after_run h hc2 hnd'.2 (fun k hk => by rw [hlen]; have := hlt k (by simp [hk]); omega)
    rw [hlen] at h2 h3 h4 h5
    have hin : ∀ k, k < oi.length → hget hpF (hp.length + k) = hget (T0.objsL ts) k := fun k hk => by
      rw [h3 _ (by omega) (fun hm => by have := hlt _ (List.mem_cons_of_mem _ hm); omega), hget_hset_ne _ _ _ _ (by omega), hget_append_lt _ _ _ (by simp; omega), hget_append_ge]
    have hgone : hget hpF (hp.length + oi.length) = .gone := by
      rw [h3 _ (by omega) (fun hm => by have := hlt _ (List.mem_cons_of_mem _ hm); omega), hget_hset_ne _ _ _ _ (by omega)]
      have := hget_append_new (hp ++ T0.objsL ts) .gone
      rwa [List.length_append, hl] at this
    have hidF : hget hpF id = .box e (T0.cvsAt hp.length ts) := by
      rw [h3 _ (by omega) hnd'.1, hget_hset_self _ _ _ (by simp; omega)]
    have hoL : ((oi ++ [fp1 (some (g, c))]) ++ o2).length = oi.length + 1 + o2.length := by simp; omega
    have hins : ∀ β' : Bs, AStays w' w' A' (accOf w' β' hpF) → (∀ k, k < (oi ++ [fp1 (some (g, c))] ++ o2).length → β'.f (hp.length + k) = (oi ++ [fp1 (some (g, c))] ++ o2).getD k nF) →
        repL (CV.rep w' β' hpF) (T0.cvsAt hp.length ts) l ∧ ∀ k, k < (T0.objsL ts).length → ObjRep w' β' hpF (hp.length + k) := fun β' hA hb =>
      T0.insts_rep (hp := hpF) hA hcs (by omega) (fun k hk => hin k (by omega)) (fun k hk => by rw [hb k (by rw [hoL]; omega), List.append_assoc, getD_app_l hk])
    have hb2 : ∀ β' : Bs, (∀ k, k < (oi ++ [fp1 (some (g, c))] ++ o2).length → β'.f (hp.length + k) = (oi ++ [fp1 (some (g, c))] ++ o2).getD k nF) → ∀ k, k < o2.length → β'.f (hp.length + oi.length + 1 + k) = o2.getD k nF := fun β' hb k hk => by
      have := hb (oi.length + 1 + k) (by rw [hoL]; omega)
      rw [show hp.length + oi.length + 1 + k = hp.length + (oi.length + 1 + k) by omega, this]
      have := getD_app_r (o1 := oi ++ [fp1 (some (g, c))]) (o2 := o2) (k := k)
      rw [List.length_append] at this
      exact this
    refine ⟨hpF, h1, by rw [h2, hoL]; omega, fun k hk hn => ?_, fun β' hA hb k hk hlv => ?_, ⟨⟨oi.length, some (g, c), by rw [hoL]; omega, hgone, by simp, .inl ⟨e, _, g, c, hidF, rfl, hv, fun β' hA hb hbi => ?_⟩⟩, ?_⟩⟩
    · have hn1 : k ≠ id := fun e => hn (by simp [e])
      rw [h3 _ (by omega) (fun hm => hn (by simp [hm])), hget_hset_ne _ _ _ _ hn1, hget_append_lt _ _ _ (by simp; omega), hget_append_lt _ _ _ hk]
    · rw [hoL] at hk
      by_cases hk1 : k < oi.length
      · exact (hins β' hA hb).2 k (by omega)
      · by_cases hk2 : k = oi.length
        · subst hk2
          unfold live at hlv
          rw [hgone] at hlv
          exact hlv.elim
        · have := h4 β' hA (hb2 β' hb) (k - (oi.length + 1)) (by omega)
          rw [show hp.length + oi.length + 1 + (k - (oi.length + 1)) = hp.length + k by omega] at this
          exact this hlv
    · obtain ⟨c', hbi⟩ := hbi
      unfold ObjRep
      rw [hidF]
      exact ⟨g, c', l.toArray, hbi, hgg, by simpa using (hins β' hA hb).1, fun v hv => hone v (by simpa using hv)⟩
    · refine repL.imp (fun k u hu => ?_) _ _ h5
      obtain ⟨pos, o, p1, p2, p3, p4⟩ := hu.at_
      refine ⟨oi.length + 1 + pos, o, by rw [hoL]; omega, by rw [show hp.length + (oi.length + 1 + pos) = hp.length + oi.length + 1 + pos by omega]; exact p2, ?_, ?_⟩
      · rw [List.getElem?_append_right (by simp)]
        rw [← p3]
        congr 1
        simp
      · rcases p4 with ⟨e', cs', g', c', q1, q2, q3, q4⟩ | q
        · exact .inl ⟨e', cs', g', c', q1, q2, q3, fun β' hA hb hbi => q4 β' hA (hb2 β' hb) hbi⟩
        · exact .inr q
  | .c (.own e r xs) :: aft, id :: io, v :: vals, _, hp, K, h, ⟨o1, o2, ho, ⟨o, hoi, hv, hro⟩, hc2⟩, hnd, hlt => by
    subst ho hoi
    unfold after at h
    split at h
    · rename_i e0 r0 xs0 hg0
      split at h
      · rename_i he0
        subst he0
        split at h
        · rename_i zs hcr
          obtain ⟨rfl, _⟩ := castRow_spec hcr
          have hid := hlt id (by simp)
          have hlen : (hset (hp ++ [.gone]) id (.row e0 r0 xs)).length = hp.length + 1 := by simp [hset_len]
          have hnd' := List.nodup_cons.1 hnd
          obtain ⟨hpF, h1, h2, h3, h4, h5⟩ := after_run h hc2 hnd'.2 (fun k hk => by rw [hlen]; have := hlt k (by simp [hk]); omega)
          rw [hlen] at h2 h3 h4 h5
          have hgone : hget hpF (hp.length + 0) = .gone := by
            rw [Nat.add_zero, h3 _ (by omega) (fun hm => by have := hlt _ (List.mem_cons_of_mem _ hm); omega), hget_hset_ne _ _ _ _ (by omega)]
            exact hget_append_new hp .gone
          have hidF : hget hpF id = .row e0 r0 xs := by
            rw [h3 _ (by omega) hnd'.1, hget_hset_self _ _ _ (by simp; omega)]
          have hb2 : ∀ β' : Bs, (∀ k, k < ([fp1 o] ++ o2).length → β'.f (hp.length + k) = ([fp1 o] ++ o2).getD k nF) → ∀ k, k < o2.length → β'.f (hp.length + 1 + k) = o2.getD k nF := fun β' hb k hk => by
            have := hb (1 + k) (by simp; omega)
            rw [show hp.length + 1 + k = hp.length + (1 + k) by omega, this]
            exact getD_app_r (o1 := [fp1 o]) (o2 := o2) (k := k)
          refine ⟨hpF, h1, by rw [h2]; simp; omega, fun k hk hn => ?_, fun β' hA hb k hk hlv => ?_, ⟨⟨0, o, by simp, hgone, rfl, .inr ⟨e0, r0, xs, xs0, hidF, hg0, hv, hro⟩⟩, ?_⟩⟩
          · have hn1 : k ≠ id := fun e => hn (by simp [e])
            rw [h3 _ (by omega) (fun hm => hn (by simp [hm])), hget_hset_ne _ _ _ _ hn1, hget_append_lt _ _ _ hk]
          · cases k with
            | zero =>
              unfold live at hlv
              rw [hgone] at hlv
              exact hlv.elim
            | succ k =>
              have := h4 β' hA (hb2 β' hb) k (by simp at hk; omega)
              rw [show hp.length + 1 + k = hp.length + (k + 1) by omega] at this
              exact this hlv
          · refine repL.imp (fun k u hu => ?_) _ _ h5
            obtain ⟨pos, o', p1, p2, p3, p4⟩ := hu.at_
            refine ⟨1 + pos, o', by simp; omega, by rw [show hp.length + (1 + pos) = hp.length + 1 + pos by omega]; exact p2, ?_, ?_⟩
            · rw [List.getElem?_append_right (by simp)]
              rw [← p3]
              congr 1
              simp
            · rcases p4 with ⟨e', cs', g', c', q1, q2, q3, q4⟩ | q
              · exact .inl ⟨e', cs', g', c', q1, q2, q3, fun β' hA hb hbi => q4 β' hA (hb2 β' hb) hbi⟩
              · exact .inr q
        · exact h.elim
      · exact h.elim
    · exact h.elim
  | [], [], _ :: _, _, _, _, _, hc, _, _ => hc.elim
  | _ :: _, _, [], _, _, _, _, hc, _, _ => hc.elim
  | [], _ :: _, _, _, _, _, h, _, _, _ => h.elim
  | .box .. :: _, [], _, _, _, _, h, _, _, _ => h.elim
  | .c _ :: _, [], _, _, _, _, h, _, _, _ => by unfold after at h; exact h.elim
  | .agg _ :: _, [], _, _, _, _, h, _, _, _ => by unfold after at h; exact h.elim
  | .agg _ :: _, _ :: _, _, _, _, _, h, _, _, _ => by unfold after at h; exact h.elim
  | .c (.v _) :: _, _ :: _, _, _, _, _, h, _, _, _ => by unfold after at h; exact h.elim
  | .c (.sl ..) :: _, _ :: _, _, _, _, _, h, _, _, _ => by unfold after at h; exact h.elim
  | .c (.rptr ..) :: _, _ :: _, _, _, _, _, h, _, _, _ => by unfold after at h; exact h.elim
  | .c (.clo ..) :: _, _ :: _, _, _, _, _, h, _, _, _ => by unfold after at h; exact h.elim
  | .c (.bs ..) :: _, _ :: _, _, _, _, _, h, _, _, _ => by unfold after at h; exact h.elim
  | .c (.er ..) :: _, _ :: _, _, _, _, _, h, _, _, _ => by unfold after at h; exact h.elim
  | .c (.nest ..) :: _, _ :: _, _, _, _, _, h, _, _, _ => by unfold after at h; exact h.elim
theorem kill_len : ∀ (l : List Nat) (hp : List Obj), (kill hp l).length = hp.length
  | [], _ => rfl
  | id :: l, hp => by
    unfold kill
    rw [kill_len l, hset_len]
theorem kill_out : ∀ (l : List Nat) (hp : List Obj) (k : Nat), k ∉ l → hget (kill hp l) k = hget hp k
  | [], _, _, _ => rfl
  | id :: l, hp, k, h => by
    unfold kill
    rw [kill_out l _ k (fun e => h (by simp [e])), hget_hset_ne _ _ _ _ (fun e => h (by simp [e]))]
theorem kill_in : ∀ (l : List Nat) (hp : List Obj) (k : Nat), k ∈ l → hget (kill hp l) k = .gone
  | id :: l, hp, k, h => by
    unfold kill
    by_cases hk : k ∈ l
    · exact kill_in l _ k hk
    · rw [kill_out l _ k hk]
      have : k = id := by
        rcases List.mem_cons.1 h with h | h
        · exact h
        · exact absurd h hk
      subst this
      rcases Nat.lt_or_ge k hp.length with hl | hl
      · exact hget_hset_self _ _ _ hl
      · exact hget_ge _ _ (by rw [hset_len]; exact hl)
theorem TV.cons_split {A : Acc} : ∀ {l1 l2 : List TV} {m1 m2 : List Value} {os : List Fp}, TV.cons w A (l1 ++ l2) (m1 ++ m2) os → m1.length = l1.length → ∃ o1 o2, os = o1 ++ o2 ∧ TV.cons w A l1 m1 o1 ∧ TV.cons w A l2 m2 o2
  | [], l2, [], m2, os, h, _ => ⟨[], os, rfl, rfl, h⟩
  | t :: l1, l2, u :: m1, m2, _, ⟨o1, o2, ho, h1, h2⟩, hl => by
    obtain ⟨o3, o4, rfl, h3, h4⟩ := TV.cons_split h2 (by simpa using hl)
    exact ⟨o1 ++ o3, o4, by rw [ho, List.append_assoc], ⟨o1, o3, rfl, h1, h3⟩, h4⟩
  | [], _, _ :: _, _, _, _, hl => by simp at hl
  | _ :: _, _, [], _, _, _, hl => by simp at hl
theorem repL.both {α β γ : Type} {R : α → β → Prop} {S : α → β → Prop} : ∀ (l : List α) (m : List β), repL R l m → repL S l m → repL (fun a b => R a b ∧ S a b) l m
  | [], [], _, _ => trivial
  | _ :: l, _ :: m, h, k => ⟨⟨h.1, k.1⟩, repL.both (γ := γ) l m h.2 k.2⟩
  | [], _ :: _, h, _ => h.elim
  | _ :: _, [], h, _ => h.elim
theorem ownVal_inj {o o' : Option (Nat × Nat)} {n n' : Nat} (h : ownVal o n = ownVal o' n') : o = o' ∧ (o ≠ none → n = n') := by
  cases o with
  | none => cases o' with
    | none => exact ⟨rfl, fun h => absurd rfl h⟩
    | some p => simp [ownVal] at h
  | some p => cases o' with
    | none => simp [ownVal] at h
    | some q =>
      obtain ⟨p1, p2⟩ := p
      obtain ⟨q1, q2⟩ := q
      simp [ownVal] at h
      exact ⟨by rw [h.1, h.2.2], fun _ => h.2.1⟩
set_option maxHeartbeats 1000000 in
/-- A call of a function that writes to what it is handed. -/
theorem icall_run (hS : SRep w β st a) {f : Nat} {I : ISpec} (hI : ISpecOk P f I) {l : List Operand} {K : AV → List Obj → Prop} (h : icall I st l K) :
    CallP P f (l.map a.eval).toArray w fun v w' => ∃ av β' hp', K av hp' ∧ HRep w' β' hp' ∧ Evo w β st.hp w' β' hp' ∧ av.rep w' β' hp' v := by
  unfold icall at h
  split at h
  · rename_i ts used io hia
    obtain ⟨hlent, hpre, hres⟩ := h
    obtain ⟨labs, hcov, hio, hnd, hioL, htl, hcon⟩ := iargs_spec hS hia
    have hH := hS.hp
    have hcon := hcon used hlent ⟨imm w β st.hp, fun b => b < w.heap.size ∧ ¬ InOs (Lab.bs labs β) b⟩
      ⟨Stays.sub fun b hb => hb, Stays.sub fun b hb => ⟨hb.1, fun hi => by
        obtain ⟨id, jj, c, _, _, a3, a4⟩ := hcov.mut hi
        exact hb.2 ⟨id, jj, c, a3, a4⟩⟩⟩
      (fun id g c hn hl hb => ⟨hH.lt hl hb, fun hi => by
        obtain ⟨id', jj, c', a1, a2, a3, a4⟩ := hcov.mut hi
        have := (hH.diss id' id jj 0 g c' c a3 (live_fp hl) a4 hb).1
        subst this
        exact hn a1⟩)
    have hinlt : ∀ g, InOs (Lab.bs labs β) g → g < w.heap.size := fun g hi => by
      obtain ⟨id, jj, c, _, _, a3, a4⟩ := hcov.mut hi
      exact hH.ltj a3 a4
    have hcall := hI ts (l.map a.eval) w ⟨imm w β st.hp, fun b => b < w.heap.size ∧ ¬ InOs (Lab.bs labs β) b⟩ (Lab.bs labs β) (fun b hb => ⟨hb.1, fun hi => by
        obtain ⟨id, jj, c, _, _, a3, a4⟩ := hcov.mut hi
        exact hb.2.1 ⟨id, jj, c, a3, a4⟩⟩) (fun b hb => hb) hinlt (hcov.apart hH) hcon hpre htl
    have fin : ∀ v w', (∃ us os', v = retVal us ∧ TV.cons w' (.of (okRes w (fun b => imm w β st.hp b ∨ InOs (Lab.bs labs β) b) w' os')) ((I.S ts).2.1 ++ (I.S ts).2.2) (us ++ ioVals I.md (l.map a.eval)) os' ∧ us.length = (I.S ts).2.1.length ∧ Apart os' ∧ (∀ g, InOs os' g → w.heap.size ≤ g ∨ InOs (Lab.bs labs β) g) ∧ BelowX (InOs (Lab.bs labs β)) w w') →
        ∃ av β' hp', K av hp' ∧ HRep w' β' hp' ∧ Evo w β st.hp w' β' hp' ∧ av.rep w' β' hp' v := by
      rintro v w' ⟨us, os', rfl, hc, hul, hap, hfr, hB⟩
      obtain ⟨oR, oA, rfl, hcR, hcA⟩ := TV.cons_split hc hul
      have hlR := TV.cons_len2 (n := st.hp.length) hcR
      unfold iresK at hres
      rw [TV.insts_eq, kill_len] at hres
      -- what is handed back
      obtain ⟨av, hav, hK⟩ : ∃ av : AV, (∀ {β' : Bs} {hpF : List Obj}, repL (SV.rep w' β' hpF) (TV.svsAt st.hp.length (I.S ts).2.1) us → av.rep w' β' hpF (retVal us)) ∧ after st.hp (kill st.hp used ++ TV.objsL st.hp.length (I.S ts).2.1) io (I.S ts).2.2 (K av) := by
        have hsl : ∀ {β' : Bs} {hpF : List Obj}, repL (SV.rep w' β' hpF) (TV.svsAt st.hp.length (I.S ts).2.1) us → True := fun _ => trivial
        split at hres
        · rename_i x hp1 heq
          injection heq with h1 h2
          subst h2
          refine ⟨.s x, fun hr => ?_, hres⟩
          rw [h1] at hr
          match us, hr with
          | [u], hr => exact hr.1
        · rename_i xs hp1 hne heq
          injection heq with h1 h2
          subst h2
          refine ⟨.tup xs, fun hr => ?_, hres⟩
          rw [h1] at hr
          refine ⟨us, ?_, hr⟩
          match us, xs, hr with
          | [], _, _ => rfl
          | [u], [x], _ => exact (hne x rfl).elim
          | _ :: _ :: _, _, _ => rfl
      have hklen : (kill st.hp used ++ TV.objsL st.hp.length (I.S ts).2.1).length = st.hp.length + oR.length := by rw [List.length_append, kill_len, hlR]
      have hiolt : ∀ id, id ∈ io → id < st.hp.length := fun id hid => by
        obtain ⟨q, hq⟩ := List.mem_iff_getElem?.1 hid
        obtain ⟨v, _, hv⟩ := repL.get _ _ hioL q id hq
        exact hv.1
      obtain ⟨hpF, hKF, hFl, hFo, hFn, hFa⟩ := after_run hK hcA hnd (fun id hid => by rw [hklen]; have := hiolt id hid; omega)
      rw [hklen] at hFl hFo hFn hFa
      let β' := bext β st.hp.length (oR ++ oA)
      have hbn : ∀ id, st.hp.length ≤ id → β'.f id = (oR ++ oA).getD (id - st.hp.length) nF := fun id h => if_neg (by omega)
      have hbo : ∀ id, id < st.hp.length → β'.f id = β.f id := fun id h => if_pos h
      have hold : ∀ id, id < st.hp.length → id ∉ io → hget hpF id = if id ∈ used then .gone else hget st.hp id := fun id hid hn => by
        rw [hFo id (by omega) hn, hget_append_lt _ _ _ (by rw [kill_len]; exact hid)]
        split
        · rename_i hm; exact kill_in _ _ _ hm
        · rename_i hm; exact kill_out _ _ _ hm
      have hlen : hpF.length = st.hp.length + (oR ++ oA).length := by rw [hFl, List.length_append]; omega
      -- the arguments that were written to
      have hboth := repL.both (γ := Unit) _ _ hioL hFa
      have hat : ∀ id, id ∈ io → id < st.hp.length ∧ id ∈ used ∧ (∀ j, fp hpF id j → j = 0) ∧ live st.hp id ∧ (∃ pos o, pos < oA.length ∧ hget hpF (st.hp.length + oR.length + pos) = .gone ∧ oA[pos]? = some (fp1 o) ∧ ∀ g c, β id = some (g, c) → ∃ c', o = some (g, c')) ∧
          (∀ ok, ObjEvo True w' ok (β id) (β id) (hget st.hp id) (hget hpF id)) ∧ (AStays w' w' (.of (okRes w (fun b => imm w β st.hp b ∨ InOs (Lab.bs labs β) b) w' (oR ++ oA))) (accOf w' β' hpF) → ObjRep w' β' hpF id) := by
        intro id hid
        obtain ⟨q, hq⟩ := List.mem_iff_getElem?.1 hid
        obtain ⟨u, _, ⟨hlt, h1⟩, ⟨pos, o, p1, p2, p3, p4⟩⟩ := repL.get _ _ hboth q id hq
        rcases h1 with ⟨e, cs, g, c, q1, q2, q3⟩ | ⟨e, r, xs, q1, q2, q3⟩
        · rcases p4 with ⟨e', cs', g', c', r1, r2, r3, r4⟩ | ⟨e', r', ys, ys0, r1, r2, r3, r4⟩
          · rw [q3] at r3
            have hgg : g' = g := by
              injection r3 with r3
              injection r3 with r3
              injection r3 with r3
              exact r3.symm
            subst hgg
            refine ⟨hlt, (hio id hid).1, fun j hj => ?_, live_box q1, ⟨pos, o, p1, p2, p3, fun g2 c2 hb => ?_⟩, fun ok => ?_, fun hA => ?_⟩
            · unfold fp at hj
              rw [r1] at hj
              exact hj
            · rw [q2] at hb
              injection hb with hb
              injection hb with hb
              subst hb
              exact ⟨c', r2⟩
            · rw [q1, r1]
              exact rfl
            · refine r4 β' hA (fun k hk => ?_) ⟨c, ?_⟩
              · rw [hbn _ (by omega), show st.hp.length + oR.length + k - st.hp.length = oR.length + k by omega, getD_app_r]
              · show β'.f id 0 = _
                rw [hbo id hlt]
                exact q2
          · rw [q1] at r2
            cases r2
        · rcases p4 with ⟨e', cs', g', c', r1, r2, r3, r4⟩ | ⟨e', r', ys, ys0, r1, r2, r3, r4⟩
          · rw [q2] at r3
            cases hb : β.main id with
            | none => rw [hb] at r3; cases r3
            | some p => rw [hb] at r3; cases r3
          · rw [q1] at r2
            injection r2 with e1 e2 e3
            subst e1 e2
            have e3 := eq_of_heq e3
            subst e3
            rw [q2] at r3
            obtain ⟨i1, i2⟩ := ownVal_inj r3
            subst i1
            have hlen : ys.length = xs.length := by
              by_cases hz : β.main id = none
              · rcases q3 with ⟨_, rfl⟩ | ⟨g, cap, cells, h0, _⟩
                · rcases r4 with ⟨_, rfl⟩ | ⟨g, cap, cells, h0, _⟩
                  · rfl
                  · rw [hz] at h0; cases h0
                · rw [hz] at h0; cases h0
              · exact (i2 hz).symm
            refine ⟨hlt, (hio id hid).1, fun j hj => ?_, live_row q1, ⟨pos, β.main id, p1, p2, p3, fun g2 c2 hb => ⟨c2, hb⟩⟩, fun ok => ?_, fun hA => ?_⟩
            · unfold fp at hj
              rw [r1] at hj
              exact hj
            · rw [q1, r1]
              exact ⟨rfl, rfl, rfl, hlen⟩
            · unfold ObjRep
              rw [r1]
              show rowObj w' _ (β'.f id 0) _ _ _
              rw [hbo id hlt]
              exact r4.mono hA.1 (fun _ _ _ => rfl)
      have hdead : ∀ id, id < st.hp.length → id ∈ used → id ∉ io → ¬ live hpF id := fun id hid hu hn hl => by
        unfold live at hl
        rw [hold id hid hn, if_pos hu] at hl
        exact hl
      have hlv : ∀ id, id ∉ io → id < st.hp.length → live hpF id → id ∉ used ∧ hget hpF id = hget st.hp id := fun id hn hid hl => by
        have hu : id ∉ used := fun hu => hdead id hid hu hn hl
        exact ⟨hu, by rw [hold id hid hn, if_neg hu]⟩
      have hmutOs : ∀ g, InOs (Lab.bs labs β) g → mutb β st.hp g := fun g hi => by
        obtain ⟨id, jj, c, _, _, a3, a4⟩ := hcov.mut hi
        exact ⟨id, jj, c, a3, a4⟩
      have hkeepB : ∀ id j g c, id ∉ used → fp st.hp id j → β.f id j = some (g, c) → w'.heap[g]? = w.heap[g]? := fun id j g c hn hf hb => hB.block g (hH.ltj hf hb) fun hi => by
        obtain ⟨id', jj, c', a1, _, a3, a4⟩ := hcov.mut hi
        have := (hH.diss id id' j jj g c c' hf a3 hb a4).1
        subst this
        exact hn a1
      have hnewOs : ∀ id j g c, st.hp.length ≤ id → β'.f id j = some (g, c) → (oR ++ oA)[id - st.hp.length]? = some ((oR ++ oA).getD (id - st.hp.length) nF) ∧ (oR ++ oA).getD (id - st.hp.length) nF j = some (g, c) := fun id j g c hid hb => by
        rw [hbn id hid] at hb
        exact ⟨getD_nF hb, hb⟩
      -- one that was written to, and a new one
      have hsep : ∀ id id' j j' g c c', id ∈ io → st.hp.length ≤ id' → fp hpF id j → fp hpF id' j' → β'.f id j = some (g, c) → β'.f id' j' = some (g, c') → False := by
        intro id id' j j' g c c' hid hid' hf hf' hb hb'
        obtain ⟨a1, a2, a3, a4, ⟨pos, o, p1, p2, p3, p4⟩, _⟩ := hat id hid
        have hj := a3 j hf
        subst hj
        rw [hbo id a1] at hb
        obtain ⟨c2, hc2⟩ := p4 g c hb
        obtain ⟨q1, q2⟩ := hnewOs id' j' g c' hid' hb'
        have hpos : (oR ++ oA)[oR.length + pos]? = some (fp1 o) := by
          rw [List.getElem?_append_right (by omega), Nat.add_sub_cancel_left]
          exact p3
        have := (hap _ _ _ _ 0 j' g c2 c' hpos q1 (by rw [hc2]; rfl) q2).1
        have hidd : id' = st.hp.length + oR.length + pos := by omega
        subst hidd
        have := fp_live hf'
        unfold live at this
        rw [p2] at this
        exact this
      obtain ⟨e1, e2⟩ := hH.step (w' := w') (β' := β') (hp' := hpF) (fun id => id ∈ io ∨ st.hp.length ≤ id) hB.os hB.tape hB.output hB.size (by rw [hlen]; omega) rfl
        (fun b hb hm => hB.block b hb fun hi => hm (hmutOs b hi))
        (fun id hn hl => by
          have hid : id < st.hp.length := by
            rcases Nat.lt_or_ge id st.hp.length with h | h
            · exact h
            · exact absurd (.inr h) hn
          obtain ⟨k1, k2⟩ := hlv id (fun h => hn (.inl h)) hid hl
          exact ⟨k2, hbo id hid, fun j g c hf hb => hkeepB id j g c k1 hf hb⟩)
        (fun id j g c hn hf hb => by
          by_cases hid : st.hp.length ≤ id
          · obtain ⟨q1, q2⟩ := hnewOs id j g c hid hb
            rcases hfr g (InOs.of_get q1 q2) with h | h
            · exact .inl h
            · obtain ⟨id0, jj, c0, b1, _, b3, b4⟩ := hcov.mut h
              exact .inr ⟨id0, jj, c0, b3, b4, fun hn0 => hdead id0 (live_lt (fp_live b3)) b1 (fun h => hn0 (.inl h))⟩
          · have hio' : id ∈ io := hn.resolve_right hid
            obtain ⟨a1, a2, a3, a4, _⟩ := hat id hio'
            have hj := a3 j hf
            subst hj
            rw [hbo id a1] at hb
            exact .inr ⟨id, 0, c, live_fp a4, hb, fun hn0 => absurd hn hn0⟩)
        (fun id id' j j' g c c' hn hn' hf hf' hb hb' => by
          by_cases hid : st.hp.length ≤ id
          · by_cases hid' : st.hp.length ≤ id'
            · obtain ⟨q1, q2⟩ := hnewOs id j g c hid hb
              obtain ⟨r1, r2⟩ := hnewOs id' j' g c' hid' hb'
              have := hap _ _ _ _ j j' g c c' q1 r1 q2 r2
              exact ⟨by omega, this.2⟩
            · exact (hsep id' id j' j g c' c (hn'.resolve_right hid') hid hf' hf hb' hb).elim
          · by_cases hid' : st.hp.length ≤ id'
            · exact (hsep id id' j j' g c c' (hn.resolve_right hid) hid' hf hf' hb hb').elim
            · obtain ⟨a1, a2, a3, a4, _⟩ := hat id (hn.resolve_right hid)
              obtain ⟨b1, b2, b3, b4, _⟩ := hat id' (hn'.resolve_right hid')
              have hj := a3 j hf
              have hj' := b3 j' hf'
              subst hj hj'
              rw [hbo id a1] at hb
              rw [hbo id' b1] at hb'
              exact hH.diss id id' 0 0 g c c' (live_fp a4) (live_fp b4) hb hb')
        (fun id hid => by
          by_cases hio' : id ∈ io
          · obtain ⟨a1, a2, a3, a4, a5, a6, _⟩ := hat id hio'
            refine .inr fun _ => ?_
            have : β' id = β id := congrFun (hbo id hid) 0
            rw [this]
            exact a6 _
          · by_cases hu : id ∈ used
            · refine .inr fun _ => ?_
              rw [hold id hid hio', if_pos hu]
              have hz := (hcov.nz id hu).resolve_left (fun h => by cases h)
              revert hz
              cases hget st.hp id with
              | zbox e cs => exact fun hz => absurd rfl (hz e cs)
              | _ => exact fun _ => trivial
            · exact .inl ⟨by rw [hold id hid hio', if_neg hu], hbo id hid⟩)
      have hst : ∀ b, okRes w (fun b => imm w β st.hp b ∨ InOs (Lab.bs labs β) b) w' (oR ++ oA) b → imm w' β' hpF b := by
        rintro b ⟨h1, h2, h3⟩
        refine ⟨h2, ?_, ?_⟩
        · rintro ⟨id, j, c, hl, hb⟩
          by_cases hid : st.hp.length ≤ id
          · obtain ⟨q1, q2⟩ := hnewOs id j b c hid hb
            exact h3 (InOs.of_get q1 q2)
          · have hid : id < st.hp.length := by omega
            rw [hbo id hid] at hb
            have hf : fp st.hp id j := by
              by_cases hio' : id ∈ io
              · obtain ⟨a1, a2, a3, a4, _⟩ := hat id hio'
                rw [a3 j hl]
                exact live_fp a4
              · exact (fp_get (hlv id hio' hid (fp_live hl)).2).1 hl
            rcases h1 with (h1 | h1) | h1
            · exact h1.2.1 ⟨id, j, c, hf, hb⟩
            · obtain ⟨id0, jj, c0, b1, _, b3, b4⟩ := hcov.mut h1
              have hid0 := (hH.diss id0 id jj j b c0 c b3 hf b4 hb).1
              subst hid0
              by_cases hio' : id0 ∈ io
              · obtain ⟨a1, a2, a3, a4, ⟨pos, o, p1, p2, p3, p4⟩, _⟩ := hat id0 hio'
                have hj := a3 j hl
                subst hj
                obtain ⟨c2, hc2⟩ := p4 b c hb
                refine h3 (InOs.right (InOs.of_get p3 (j := 0) (c := c2) ?_))
                rw [hc2]
                rfl
              · exact hdead id0 hid b1 hio' (fp_live hl)
            · have := hH.ltj hf hb
              omega
        · intro ho'
          rcases h1 with (h1 | h1) | h1
          · exact h1.2.2 ho'
          · obtain ⟨id0, jj, c0, b1, _, b3, b4⟩ := hcov.mut h1
            exact hH.nos id0 jj b c0 b3 b4 ho'
          · have := hH.old b ho'
            omega
      have hAS : AStays w' w' (.of (okRes w (fun b => imm w β st.hp b ∨ InOs (Lab.bs labs β) b) w' (oR ++ oA))) (accOf w' β' hpF) := ⟨Stays.sub hst, Stays.sub fun b hb => imm_nomut (hst b hb)⟩
      have hbk : ∀ k, k < oR.length → β'.f (st.hp.length + k) = oR.getD k nF := fun k hk => by
        rw [hbn _ (by omega), Nat.add_sub_cancel_left, getD_app_l hk]
      have hbkA : ∀ k, k < oA.length → β'.f (st.hp.length + oR.length + k) = oA.getD k nF := fun k hk => by
        rw [hbn _ (by omega), show st.hp.length + oR.length + k - st.hp.length = oR.length + k by omega, getD_app_r]
      obtain ⟨r1, r2⟩ := TV.insts_rep (hp := hpF) hAS hcR (n := st.hp.length) (by rw [hlR, hFl]; omega) (fun k hk => by
        rw [hFo _ (by omega) (fun hm => by have := hiolt _ hm; omega)]
        have := hget_append_ge (kill st.hp used) (TV.objsL st.hp.length (I.S ts).2.1) k
        rwa [kill_len] at this) hbk
      refine ⟨av, β', hpF, hKF, e2 fun id hn hidl => ?_, e1, hav r1⟩
      by_cases hid : st.hp.length ≤ id
      · by_cases hk : id - st.hp.length < oR.length
        · have := r2 (id - st.hp.length) (by omega)
          rwa [show st.hp.length + (id - st.hp.length) = id by omega] at this
        · by_cases hl : live hpF id
          · have := hFn β' hAS hbkA (id - st.hp.length - oR.length) (by rw [hFl] at hidl; omega)
            rw [show st.hp.length + oR.length + (id - st.hp.length - oR.length) = id by omega] at this
            exact this hl
          · unfold ObjRep
            unfold live at hl
            split
            · rename_i e1; rw [e1] at hl; exact absurd trivial hl
            · rename_i e1; rw [e1] at hl; exact absurd trivial hl
            · rename_i e1; rw [e1] at hl; exact absurd trivial hl
            · rename_i e1; rw [e1] at hl; exact absurd trivial hl
            · trivial
      · obtain ⟨a1, a2, a3, a4, a5, a6, a7⟩ := hat id (hn.resolve_right hid)
        exact a7 hAS
    rcases hcall with ⟨h1, h2⟩ | ⟨v, w', h1, h2⟩
    · exact .inl ⟨h1, h2.mono fun e w' ⟨v, he, hT⟩ => ⟨v, he, fin v w' hT⟩⟩
    · exact .inr ⟨v, w', h1, fin v w' h2⟩
  · exact h.elim
end
end Go.AX
