/- The abstract executor, part 9c: a call of a function that writes to what it is handed. -/
import Derived.Test.YtcfphoffpbncmaaAXA9L
set_option linter.unusedVariables false
set_option linter.unusedSimpArgs false
namespace Go.AX
open Go.RowKit
section
variable {P : Program} {E : Env} {w : World} {β : Bs} {st : St} {a : Act}
theorem digs_spec {hp : List Obj} (hH : HRep w β hp) : ∀ {l : List CV} {used used' : List Nat} {ts : List T0} {us : List Value}, digs hp used l = some (ts, used') → repL (CV.rep w β hp) l us →
    ∃ labs, CovR hp used used' labs [] ∧ ∀ A, AStays w w (accOf w β hp) A → T0.cons w A ts us (Lab.bs labs β)
  | [], used, used', ts, [], h, _ => by
    injection h with h
    injection h with h1 h2
    subst h1 h2
    exact ⟨[], .refl _ _, fun A _ => rfl⟩
  | y :: l, used, used', ts, u :: us, h, hr => by
    unfold digs at h
    split at h
    · rename_i t u1 h1
      split at h
      · rename_i m u2 h2
        injection h with h
        injection h with e1 e2
        subst e1 e2
        obtain ⟨l1, c1, k1⟩ := dig0_spec hH h1 hr.1
        obtain ⟨l2, c2, k2⟩ := digs_spec hH h2 hr.2
        exact ⟨l1 ++ l2, c1.comp c2, fun A hA => ⟨_, _, Lab.bs_append _ _ _, k1 A hA, k2 A hA⟩⟩
      · cases h
    · cases h
  | [], _, _, _, _ :: _, _, hr => hr.elim
  | _ :: _, _, _, _, [], _, hr => hr.elim
theorem digs_sub {hp : List Obj} (hH : HRep w β hp) {l : List CV} {used used' : List Nat} {ts : List T0} {us : List Value} (h : digs hp used l = some (ts, used')) (hr : repL (CV.rep w β hp) l us) : ∀ id, id ∈ used → id ∈ used' := by
  obtain ⟨labs, c, _⟩ := digs_spec hH h hr
  exact c.sub
/-- What is known of an argument that the call may write to: where it lies. -/
def IoAt (w : World) (β : Bs) (hp : List Obj) (id : Nat) (v : Value) : Prop :=
  id < hp.length ∧ ((∃ e cs g c, hget hp id = .box e cs ∧ β id = some (g, c) ∧ v = .pointer (some ⟨g, 0, none⟩)) ∨ ∃ e r, ∃ xs : List r.den, hget hp id = .row e r xs ∧ v = ownVal (β id) xs.length ∧ rowObj w (imm w β hp) (β id) e r xs)
def ioL (w : World) (β : Bs) (hp : List Obj) : List Nat → List Value → Prop := repL (IoAt w β hp)
theorem iarg_spec {hp : List Obj} (hH : HRep w β hp) {used used' io : List Nat} {d : Md} {x : AV} {v : Value} {t : TV} (h : iarg hp used d x = some (t, used', io)) (hr : x.rep w β hp v) :
    ∃ labs, CovR hp used used' labs [] ∧ (∀ id, id ∈ io → id ∈ used' ∧ id ∉ used) ∧ io.Nodup ∧ ioL w β hp io (ioVals [d] [v]) ∧
      ∀ A, AStays w w (accOf w β hp) A → (∀ id g c, d.io = false → x = .s (.c (.own id)) → live hp id → β id = some (g, c) → A.bo g) → t.con w A v (Lab.bs labs β) := by
  have no : ∀ labs, CovR hp used used labs [] → io = [] → used' = used → ioVals [d] [v] = [] → (∀ A, AStays w w (accOf w β hp) A → (∀ id g c, d.io = false → x = .s (.c (.own id)) → live hp id → β id = some (g, c) → A.bo g) → t.con w A v (Lab.bs labs β)) →
      ∃ labs, CovR hp used used' labs [] ∧ (∀ id, id ∈ io → id ∈ used' ∧ id ∉ used) ∧ io.Nodup ∧ ioL w β hp io (ioVals [d] [v]) ∧
      ∀ A, AStays w w (accOf w β hp) A → (∀ id g c, d.io = false → x = .s (.c (.own id)) → live hp id → β id = some (g, c) → A.bo g) → t.con w A v (Lab.bs labs β) := by
    intro labs hc h1 h2 h3 h4
    subst h1 h2
    rw [h3]
    exact ⟨labs, hc, fun id hid => by simp at hid, List.nodup_nil, trivial, h4⟩
  unfold iarg at h
  split at h
  · rename_i y
    split at h
    · rename_i t0 ht
      injection h with h
      injection h with h1 h2
      injection h2 with h2 h3
      subst h1 h2 h3
      exact no [] (.refl _ _) rfl rfl rfl fun A hA _ => T0.con_mono hA (fun _ hi => hi.nil.elim) (asArg0_con ht hr)
    · cases h
  · rename_i ys
    split at h
    · rename_i t0 ht
      injection h with h
      injection h with h1 h2
      injection h2 with h2 h3
      subst h1 h2 h3
      obtain ⟨l, hv, hl⟩ := hr
      exact no [] (.refl _ _) rfl rfl rfl fun A hA _ => ⟨l, hv, T0.cons_mono hA _ _ _ (fun _ hi => hi.nil.elim) (asArgs0_con _ _ _ ht hl)⟩
    · cases h
  · injection h with h
    injection h with h1 h2
    injection h2 with h2 h3
    subst h1 h2 h3
    refine no [] (.refl _ _) rfl rfl rfl fun A hA _ => ⟨?_, rfl⟩
    rw [hr.1]
    exact bsRep.nil
  · rename_i r y hne
    split at h
    · rename_i e r' xs hs
      split at h
      · rename_i xs' hc
        obtain ⟨rfl, rfl⟩ := castRow_spec hc
        injection h with h
        injection h with h1 h2
        injection h2 with h2 h3
        subst h1 h2 h3
        refine no [] (.refl _ _) rfl rfl rfl fun A hA hbo => ⟨?_, rfl⟩
        unfold sliceOf at hs
        split at hs
        · injection hs with hs
          cases hs
          exact bsRep.mono (Stays.sub fun b hb => (hA.2 b (imm_nomut hb)).1) hA.1 (slRep.bs hr)
        · rename_i id
          split at hs
          · rename_i hg
            injection hs with hs
            cases hs
            obtain ⟨o1, o2⟩ := own_row hH hr hg
            rw [o1]
            rcases o2 with ⟨h0, rfl⟩ | ⟨g, cap, cells, h0, q1, q2, q3, q4, q5⟩
            · rw [h0]
              exact bsRep.nil
            · rw [h0]
              refine ⟨some ⟨g, 0, none⟩, cap, rfl, q3, .inr ⟨g, 0, rfl, hbo id g cap rfl rfl (live_row hg) h0, cells, _, _, q1, fun i x hi => ?_⟩⟩
              rw [Nat.zero_add]
              exact Row.rep_mono hA.1 _ _ _ (q5 i x hi)
          · rename_i hg
            injection hs with hs
            cases hs
            have := hr.2
            rw [hg] at this
            exact bsRep.mono (Stays.sub fun b hb => (hA.2 b (imm_nomut hb)).1) hA.1 (slRep.bs this)
          · cases hs
        · injection hs with hs
          cases hs
          exact bsRep.mono hA.2 hA.1 hr
        · cases hs
      · cases h
    · cases h
  · injection h with h
    injection h with h1 h2
    injection h2 with h2 h3
    subst h1 h2 h3
    refine no [] (.refl _ _) rfl rfl rfl fun A hA _ => ⟨?_, rfl⟩
    rw [hr.1]
    exact bsRep.nil
  · split at h
    · rename_i hc
      obtain ⟨rfl, rfl⟩ := castRow_spec hc
      injection h with h
      injection h with h1 h2
      injection h2 with h2 h3
      subst h1 h2 h3
      exact no [] (.refl _ _) rfl rfl rfl fun A hA _ => ⟨slRep.mono hA.1 hr, rfl⟩
    · cases h
  · rename_i id
    split at h
    · rename_i e cs hg
      split at h
      · cases h
      · rename_i hu
        split at h
        · rename_i ts u2 hd
          injection h with h
          injection h with h1 h2
          injection h2 with h2 h3
          subst h1 h2 h3
          have hid := hr.1
          have h2 := hr.2
          rw [hg] at h2
          obtain ⟨g, c, hb, hv⟩ := h2
          have hO := hH.obj id hid
          unfold ObjRep at hO
          rw [hg] at hO
          obtain ⟨g', c', cells, hb', hgg, hcs, hone⟩ := hO
          rw [hb] at hb'
          injection hb' with hb'
          injection hb' with e1 e2
          subst e1
          obtain ⟨labs, k1, k2⟩ := digs_spec hH hd hcs
          have hu' : id ∉ used := by simpa using hu
          refine ⟨labs ++ [lab1 id], ?_, fun k hk => ?_, by simp, ⟨⟨hid, .inl ⟨e, cs, g, c, hg, hb, hv⟩⟩, trivial⟩, fun A hA _ => ?_⟩
          · have c1 : CovR hp used (id :: used) [lab1 id] [] := .own hu' (lz_box hg)
            have cc := c1.comp k1
            refine ⟨fun L hL j k jj e => cc.mem L ?_ j k jj e, fun k hk => by simp at hk, cc.sub, fun i i' L L' j j' p hi hi' e e' => ?_, fun _ _ _ _ _ _ => by simp, cc.nz⟩
            · simp only [List.mem_append, List.mem_singleton] at hL ⊢
              exact hL.symm
            · have key : ∀ (i : Nat) (L : Lb), (labs ++ [lab1 id])[i]? = some L → (([lab1 id] ++ labs)[if i < labs.length then i + 1 else 0]? = some L) := fun i L h => by
                rw [List.getElem?_append] at h
                split at h
                · rename_i hl
                  rw [if_pos hl]
                  simpa using h
                · rename_i hl
                  rw [if_neg hl]
                  have : i - labs.length = 0 := by
                    have := (List.getElem?_eq_some_iff.1 h).1
                    simp at this
                    omega
                  rw [this] at h
                  simpa using h
              have hbnd : ∀ (i : Nat) (L : Lb), (labs ++ [lab1 id])[i]? = some L → i < labs.length + 1 := fun i L h => by
                have := (List.getElem?_eq_some_iff.1 h).1
                simpa using this
              have b1 := hbnd i L hi
              have b2 := hbnd i' L' hi'
              have := cc.inj _ _ L L' j j' p (key i L hi) (key i' L' hi') e e'
              refine ⟨?_, this.2⟩
              have := this.1
              split at this <;> split at this <;> omega
          · simp at hk
            subst hk
            exact ⟨k1.sub _ (by simp), hu'⟩
          · refine ⟨cells.toList, g, c, Lab.bs labs β, hv, by simpa using hgg, k2 A hA, hone, ?_⟩
            rw [Lab.bs_append]
            show _ ++ [Lb.fp (lab1 id) β] = _
            rw [lab1_fp, hb]
        · cases h
    · cases h
  · rename_i r id
    split at h
    · rename_i e r' xs hg
      split at h
      · cases h
      · rename_i hu
        split at h
        · rename_i xs' hc
          obtain ⟨rfl, rfl⟩ := castRow_spec hc
          injection h with h
          injection h with h1 h2
          injection h2 with h2 h3
          subst h1 h2 h3
          obtain ⟨o1, o2⟩ := own_row hH hr hg
          have hu' : id ∉ used := by simpa using hu
          exact ⟨[lab1 id], .own hu' (lz_row hg), fun k hk => by simp at hk; subst hk; exact ⟨by simp, hu'⟩, by simp, ⟨⟨hr.1, .inr ⟨e, _, xs, hg, o1, o2⟩⟩, trivial⟩, fun A hA _ => own_con hH hr hg hA⟩
        · cases h
    · cases h
  · cases h
theorem ioVals_cons (d : Md) (ds : List Md) (v : Value) (vs : List Value) : ioVals (d :: ds) (v :: vs) = ioVals [d] [v] ++ ioVals ds vs := by
  show (match d.io with
    | true => v :: ioVals ds vs
    | false => ioVals ds vs) = (match d.io with
    | true => v :: ioVals [] []
    | false => ioVals [] []) ++ ioVals ds vs
  cases d.io <;> rfl
theorem iargs_spec (hS : SRep w β st a) : ∀ {md : List Md} {l : List Operand} {used used' io : List Nat} {ts : List TV}, iargs st used md l = some (ts, used', io) →
    ∃ labs, CovR st.hp used used' labs [] ∧ (∀ id, id ∈ io → id ∈ used' ∧ id ∉ used) ∧ io.Nodup ∧ ioL w β st.hp io (ioVals md (l.map a.eval)) ∧ ts.length = md.length ∧
      ∀ U, lentOk st U md l = true → ∀ A, AStays w w (accOf w β st.hp) A → (∀ id g c, id ∉ U → live st.hp id → β id = some (g, c) → A.bo g) → TV.cons w A ts (l.map a.eval) (Lab.bs labs β)
  | [], [], used, used', io, ts, h => by
    injection h with h
    injection h with h1 h2
    injection h2 with h2 h3
    subst h1 h2 h3
    exact ⟨[], .refl _ _, fun id hid => by simp at hid, List.nodup_nil, trivial, rfl, fun U _ A _ _ => rfl⟩
  | d :: ds, x :: l, used, used', io, ts, h => by
    unfold iargs at h
    split at h
    · rename_i t u1 i1 h1
      split at h
      · rename_i m u2 i2 h2
        injection h with h
        injection h with e1 e2
        injection e2 with e2 e3
        subst e1 e2 e3
        obtain ⟨l1, c1, a1, n1, o1, k1⟩ := iarg_spec hS.hp h1 (ev_rep hS x)
        obtain ⟨l2, c2, a2, n2, o2, q2, k2⟩ := iargs_spec hS h2
        refine ⟨l1 ++ l2, c1.comp c2, fun id hid => ?_, List.nodup_append.2 ⟨n1, n2, fun y hy z hz e => ?_⟩, ?_, by simp [q2], fun u3 hl3 A hA hb => ?_⟩
        · rcases List.mem_append.1 hid with hid | hid
          · exact ⟨c2.sub _ (a1 id hid).1, (a1 id hid).2⟩
          · exact ⟨(a2 id hid).1, fun hu => (a2 id hid).2 (c1.sub _ hu)⟩
        · subst e
          exact (a2 _ hz).2 (a1 _ hy).1
        · rw [List.map_cons, ioVals_cons]
          exact repL.append _ _ _ _ o1 o2
        · have hl3' : lentOk st u3 ds l = true := by
            unfold lentOk at hl3
            split at hl3
            · rename_i e1 e2
              injection e1 with _ e1
              injection e2 with _ e2
              subst e1 e2
              simp only [Bool.and_eq_true] at hl3
              exact hl3.2
            · rename_i e1 e2
              injection e1 with _ e1
              injection e2 with _ e2
              subst e1 e2
              exact hl3
            · rename_i hne
              exact absurd rfl (hne _ _ _ _ rfl)
          refine ⟨_, _, Lab.bs_append _ _ _, k1 A hA (fun id g c hd hx hlv hbb => ?_), k2 u3 hl3' A hA hb⟩
          -- a row that is lent
          have hdb : ∃ r, d = .bor r := by
            unfold iarg at h1
            cases d with
            | bor r => exact ⟨r, rfl⟩
            | raw => rw [hx] at h1; simp [asArg0] at h1
            | ret r => rw [hx] at h1; simp at h1
            | box => cases hd
            | «mut» r => cases hd
          obtain ⟨r, rfl⟩ := hdb
          have hni : id ∉ u3 := by
            unfold lentOk at hl3
            simp only [Bool.and_eq_true, hx] at hl3
            simpa using hl3.1
          exact hb id g c hni hlv hbb
      · cases h
    · cases h
  | [], _ :: _, _, _, _, _, h => by cases h
  | _ :: _, [], _, _, _, _, h => by cases h
end
end Go.AX
