/- The abstract executor, part 12: what slots hold, told as trees; trees laid into a new state. -/
import Derived.Test.YtcfphoffpbncmaaAXA11
set_option linter.unusedVariables false
set_option linter.unusedSimpArgs false
namespace Go.AX
open Go.RowKit
section
variable {P : Program} {E : Env} {w : World} {β : Bs} {st : St} {a : Act}
abbrev Lab := List (Option Nat)
def Lab.bs (l : Lab) (β : Bs) : List (Option (Nat × Nat)) := l.map fun o => o.bind β.f
theorem Lab.bs_append (l m : Lab) (β : Bs) : Lab.bs (l ++ m) β = Lab.bs l β ++ Lab.bs m β := by simp [Lab.bs]
structure CovR (hp : List Obj) (used used' : List Nat) (labs : Lab) (f : List Nat) : Prop where
  mem : ∀ id, some id ∈ labs ∨ id ∈ f → id ∈ used' ∧ id ∉ used ∧ live hp id
  sub : ∀ id, id ∈ used → id ∈ used'
  inj : ∀ (i j : Nat) (id : Nat), labs[i]? = some (some id) → labs[j]? = some (some id) → i = j
  sep : ∀ id, some id ∈ labs → id ∉ f
theorem CovR.refl (hp : List Obj) (used : List Nat) : CovR hp used used [] [] := ⟨fun id h => by simp at h, fun _ h => h, fun i j id h => by simp at h, fun id h => by simp at h⟩
theorem CovR.nil (hp : List Obj) (used : List Nat) : CovR hp used used [none] [] := ⟨fun id h => by simp at h, fun _ h => h, fun i j id h => by cases i <;> simp at h, fun id h => by simp at h⟩
theorem CovR.own {hp : List Obj} {used : List Nat} {id : Nat} (h : id ∉ used) (hl : live hp id) : CovR hp used (id :: used) [some id] [] :=
  ⟨fun j hj => by simp at hj; subst hj; exact ⟨by simp, h, hl⟩, fun _ h => by simp [h], fun i j k hi hj => by cases i <;> cases j <;> simp at hi hj <;> rfl, fun _ _ => by simp⟩
theorem CovR.fro {hp : List Obj} {used : List Nat} {id : Nat} (h : id ∉ used) (hl : live hp id) : CovR hp used (id :: used) [] [id] :=
  ⟨fun j hj => by simp at hj; subst hj; exact ⟨by simp, h, hl⟩, fun _ h => by simp [h], fun i j k hi hj => by simp at hi, fun _ h => by simp at h⟩
theorem CovR.comp {hp : List Obj} {u0 u1 u2 : List Nat} {l1 l2 : Lab} {f1 f2 : List Nat} (h : CovR hp u0 u1 l1 f1) (k : CovR hp u1 u2 l2 f2) : CovR hp u0 u2 (l1 ++ l2) (f1 ++ f2) where
  mem := fun id hm => by
    have : (some id ∈ l1 ∨ id ∈ f1) ∨ (some id ∈ l2 ∨ id ∈ f2) := by
      simp only [List.mem_append] at hm
      rcases hm with (a | a) | (a | a)
      · exact .inl (.inl a)
      · exact .inr (.inl a)
      · exact .inl (.inr a)
      · exact .inr (.inr a)
    rcases this with a | a
    · have := h.mem id a
      exact ⟨k.sub _ this.1, this.2⟩
    · have := k.mem id a
      exact ⟨this.1, fun hu => this.2.1 (h.sub _ hu), this.2.2⟩
  sub := fun id hm => k.sub _ (h.sub _ hm)
  inj := fun i j id hi hj => by
    rw [List.getElem?_append] at hi hj
    split at hi <;> split at hj
    · exact h.inj i j id hi hj
    · exact absurd (h.mem id (.inl (List.mem_of_getElem? hi))).1 (k.mem id (.inl (List.mem_of_getElem? hj))).2.1
    · exact absurd (h.mem id (.inl (List.mem_of_getElem? hj))).1 (k.mem id (.inl (List.mem_of_getElem? hi))).2.1
    · have := k.inj _ _ id hi hj
      omega
  sep := fun id hm hf => by
    simp only [List.mem_append] at hm hf
    rcases hm with a | a <;> rcases hf with b | b
    · exact h.sep id a b
    · exact (k.mem id (.inr b)).2.1 (h.mem id (.inl a)).1
    · exact (k.mem id (.inl a)).2.1 (h.mem id (.inr b)).1
    · exact k.sep id a b
/-- What may be read if the blocks of f may. -/
def OkFor (w : World) (β : Bs) (hp : List Obj) (f : List Nat) (ok : Nat → Prop) : Prop := Stays w w (imm w β hp) ok ∧ ∀ id, id ∈ f → ∀ g c, β id = some (g, c) → ok g
theorem OkFor.left {f1 f2 : List Nat} {hp : List Obj} {ok : Nat → Prop} (h : OkFor w β hp (f1 ++ f2) ok) : OkFor w β hp f1 ok := ⟨h.1, fun id hm => h.2 id (by simp [hm])⟩
theorem OkFor.right {f1 f2 : List Nat} {hp : List Obj} {ok : Nat → Prop} (h : OkFor w β hp (f1 ++ f2) ok) : OkFor w β hp f2 ok := ⟨h.1, fun id hm => h.2 id (by simp [hm])⟩
theorem rowEq_spec {r' r : Row} {xs' : List r'.den} {xs : List r.den} (h : rowEq r' xs' r xs) : ∃ e : r' = r, e ▸ xs' = xs := by
  unfold rowEq at h
  split at h
  · rename_i ys hys
    obtain ⟨rfl, rfl⟩ := castRow_spec hys
    exact ⟨rfl, h⟩
  · exact h.elim
theorem slRep_own {ok ok' : Nat → Prop} (hst : Stays w w ok ok') {o : Option (Nat × Nat)} {e : TypeId} {r : Row} {xs : List r.den} (h : rowObj w ok o e r xs) (hg : ∀ g c, o = some (g, c) → ok' g) : slRep w ok' r xs (ownVal o xs.length) := by
  rcases h with ⟨rfl, rfl⟩ | ⟨g, cap, cells, rfl, hc, hs, hl, hm, hall⟩
  · exact ⟨none, 0, rfl, Nat.le_refl _, .inl rfl⟩
  · refine ⟨some ⟨g, 0, none⟩, cap, rfl, hl, .inr ⟨g, 0, rfl, hg g cap rfl, cells, e, _, hc, fun i x hi => ?_⟩⟩
    rw [Nat.zero_add]
    exact Row.rep_mono hst r x _ (hall i x hi)
theorem T0.cov_spec {hp : List Obj} (hH : HRep w β hp) {used : List Nat} {t : T0} {y : CV} {u : Value} {K : List Nat → Prop} (h : t.cov hp used y K) (hr : y.rep w β hp u) :
    ∃ used' labs f, K used' ∧ CovR hp used used' labs f ∧ ∀ ok, OkFor w β hp f ok → t.con w ok u (labs.bs β) := by
  have hnil : ∀ {ok : Nat → Prop} {r : Row}, slRep w ok r [] (Value.slice none 0 0) := ⟨none, 0, rfl, Nat.le_refl _, .inl rfl⟩
  cases t with
  | v x =>
    obtain ⟨h1, h2⟩ := h
    split at h1
    · rename_i z
      have h1 := valEq_eq h1
      subst h1
      exact ⟨used, [], [], h2, .refl _ _, fun ok _ => ⟨hr, rfl⟩⟩
    · exact h1.elim
  | sl e r xs =>
    unfold T0.cov at h
    dsimp only at h
    split at h
    · obtain ⟨h1, h2⟩ := h
      obtain ⟨rfl, rfl⟩ := rowEq_spec h1
      exact ⟨used, [], [], h2, .refl _ _, fun ok hok => ⟨slRep.mono hok.1 hr, rfl⟩⟩
    · rename_i id
      split at h
      · rename_i e' r' ys hg
        split at h
        · exact h.elim
        · rename_i hu
          obtain ⟨h1, h2⟩ := h
          obtain ⟨rfl, rfl⟩ := rowEq_spec h1
          obtain ⟨o1, o2⟩ := own_row hH hr hg
          refine ⟨_, [], [id], h2, .fro (by simpa using hu) (live_row hg), fun ok hok => ⟨?_, rfl⟩⟩
          rw [o1]
          exact slRep_own hok.1 o2 fun g c hb => hok.2 id (by simp) g c hb
      · rename_i e' r' ys hg
        obtain ⟨h1, h2⟩ := h
        obtain ⟨rfl, rfl⟩ := rowEq_spec h1
        have := hr.2
        rw [hg] at this
        exact ⟨used, [], [], h2, .refl _ _, fun ok hok => ⟨slRep.mono hok.1 this, rfl⟩⟩
      · exact h.elim
    · obtain ⟨rfl, h2⟩ := h
      refine ⟨used, [], [], h2, .refl _ _, fun ok hok => ⟨?_, rfl⟩⟩
      rw [hr.1]
      exact hnil
    · exact h.elim
  | own e r xs =>
    unfold T0.cov at h
    dsimp only at h
    split at h
    · rename_i id
      split at h
      · rename_i e' r' ys hg
        split at h
        · exact h.elim
        · rename_i hu
          obtain ⟨h1, h2⟩ := h
          obtain ⟨rfl, rfl⟩ := rowEq_spec h1
          obtain ⟨o1, o2⟩ := own_row hH hr hg
          simp only [not_or, Decidable.not_not] at hu
          obtain ⟨hu1, rfl⟩ := hu
          refine ⟨_, [some id], [], h2, .own (by simpa using hu1) (live_row hg), fun ok hok => ⟨β id, rfl, o1, o2.mono hok.1 (fun _ _ _ => rfl)⟩⟩
      · exact h.elim
    · obtain ⟨rfl, h2⟩ := h
      exact ⟨used, [none], [], h2, .nil _ _, fun ok hok => ⟨none, rfl, hr.1, .inl ⟨rfl, rfl⟩⟩⟩
    · exact h.elim
  | rptr r xs i off =>
    unfold T0.cov at h
    dsimp only at h
    split at h
    · obtain ⟨h1, h3, h4, h2⟩ := h
      obtain ⟨rfl, rfl⟩ := rowEq_spec h1
      subst h3 h4
      obtain ⟨h0, b, o, hv, hrow⟩ := hr
      exact ⟨used, [], [], h2, .refl _ _, fun ok hok => ⟨⟨h0, b, o, hv, hrow.mono hok.1⟩, rfl⟩⟩
    · rename_i id off'
      split at h
      · rename_i e' cs hg
        split at h
        · exact h.elim
        · rename_i hu
          split at h
          · rename_i z hz
            obtain ⟨h1, h3, h4, h2⟩ := h
            subst h1 h3 h4
            have h5 := hH.obj id hr.1
            unfold ObjRep at h5
            rw [hg] at h5
            obtain ⟨g, c, cells, hb, hc, hcs, _⟩ := h5
            have h6 := hr.2
            rw [hg] at h6
            obtain ⟨g', c', hb', hv⟩ := h6
            rw [hb] at hb'
            injection hb' with hb'
            injection hb' with e1 e2
            subst e1
            have hrep := r.ofCvs_rep _ _ _ hz hcs
            have hlen := r.rep_len _ _ hrep
            refine ⟨_, [], [id], h2, .fro (by simpa using hu) (live_box hg), fun ok hok => ⟨⟨⟨by omega, by simp⟩, g, 0, by simpa using hv, hok.2 id (by simp) g c hb, cells, _, _, hc, fun i x hi => ?_⟩, rfl⟩⟩
            cases i with
            | zero =>
              simp at hi
              subst hi
              rw [Nat.zero_add, Nat.zero_mul, List.drop_zero, List.take_of_length_le (by omega)]
              exact Row.rep_mono hok.1 r _ _ hrep
            | succ i => simp at hi
          · exact h.elim
      · exact h.elim
    · exact h.elim
  | clo f r x =>
    unfold T0.cov at h
    dsimp only at h
    split at h
    · obtain ⟨rfl, h1, h2⟩ := h
      obtain ⟨rfl, h3⟩ := rowEq_spec h1
      simp at h3
      subst h3
      obtain ⟨b, o, hv, hrow⟩ := hr
      exact ⟨used, [], [], h2, .refl _ _, fun ok hok => ⟨⟨b, o, hv, hrow.mono hok.1⟩, rfl⟩⟩
    · exact h.elim
theorem T0.covs_spec {hp : List Obj} (hH : HRep w β hp) : ∀ {used : List Nat} {l : List T0} {ys : List CV} {us : List Value} {K : List Nat → Prop}, T0.covs hp used l ys K → repL (CV.rep w β hp) ys us →
    ∃ used' labs f, K used' ∧ CovR hp used used' labs f ∧ ∀ ok, OkFor w β hp f ok → T0.cons w ok l us (Lab.bs labs β)
  | used, [], [], [], K, h, _ => ⟨used, [], [], h, .refl _ _, fun _ _ => rfl⟩
  | used, t :: l, y :: ys, u :: us, K, h, hr => by
    obtain ⟨u1, l1, f1, h1, h2, h3⟩ := T0.cov_spec hH (t := t) (y := y) h hr.1
    obtain ⟨u2, l2, f2, k1, k2, k3⟩ := T0.covs_spec hH h1 hr.2
    exact ⟨u2, l1 ++ l2, f1 ++ f2, k1, h2.comp k2, fun ok hok => ⟨_, _, Lab.bs_append _ _ _, h3 ok hok.left, k3 ok hok.right⟩⟩
  | _, [], _ :: _, _, _, h, _ => h.elim
  | _, _ :: _, [], _, _, h, _ => h.elim
  | _, [], [], _ :: _, _, _, hr => hr.elim
  | _, _ :: _, _ :: _, [], _, _, hr => hr.elim
theorem TV.cov_spec {hp : List Obj} (hH : HRep w β hp) {used : List Nat} {t : TV} {y : SV} {u : Value} {K : List Nat → Prop} (h : t.cov hp used y K) (hr : y.rep w β hp u) :
    ∃ used' labs f, K used' ∧ CovR hp used used' labs f ∧ ∀ ok, OkFor w β hp f ok → t.con w ok u (Lab.bs labs β) := by
  cases t with
  | c t => cases y with
    | c y => exact T0.cov_spec hH h hr
    | agg ys => exact h.elim
  | agg ts => cases y with
    | c y => exact h.elim
    | agg ys =>
      obtain ⟨l, hu, hl⟩ := hr
      obtain ⟨u1, l1, f1, h1, h2, h3⟩ := T0.covs_spec hH h hl
      exact ⟨u1, l1, f1, h1, h2, fun ok hok => ⟨l, hu, h3 ok hok⟩⟩
def schCons (w : World) (ok : Nat → Prop) (a : Act) (n : Nat) : List (Nat × TV) → List (Option (Nat × Nat)) → Prop
  | [], os => os = []
  | (t, x) :: l, os => t < n ∧ ∃ o1 o2, os = o1 ++ o2 ∧ x.con w ok (a.tmps.getD t undef) o1 ∧ schCons w ok a n l o2
theorem TV.cov_any {hp : List Obj} {used : List Nat} {t : TV} {K : List Nat → Prop} (h : t.cov hp used (.c .any) K) : False := by
  cases t with
  | c t => cases t with
    | v x => exact h.1
    | sl e r xs => exact h
    | own e r xs => exact h
    | rptr r xs i off => exact h
    | clo f r x => exact h
  | agg ts => exact h
theorem covAll_spec (hS : SRep w β st a) : ∀ {used : List Nat} {l : List (Nat × TV)}, covAll st used l →
    ∃ used' labs f, CovR st.hp used used' labs f ∧ ∀ ok, OkFor w β st.hp f ok → schCons w ok a st.n l (Lab.bs labs β)
  | used, [], h => ⟨used, [], [], .refl _ _, fun _ _ => rfl⟩
  | used, (t, x) :: l, h => by
    unfold covAll at h
    have hr := get_rep hS t
    split at h
    · rename_i y hg
      rw [hg] at hr
      have htn : t < st.n := by
        apply Classical.byContradiction
        intro hn
        have : st.get t = .cv .any := by unfold St.get; rw [if_neg hn]
        rw [this] at hg
        injection hg with hg
        subst hg
        exact TV.cov_any h
      obtain ⟨u1, l1, f1, h1, h2, h3⟩ := TV.cov_spec hS.hp h hr
      obtain ⟨u2, l2, f2, k2, k3⟩ := covAll_spec hS h1
      exact ⟨u2, l1 ++ l2, f1 ++ f2, h2.comp k2, fun ok hok => ⟨htn, _, _, Lab.bs_append _ _ _, h3 ok hok.left, k3 ok hok.right⟩⟩
    · exact h.elim
/-- The blocks that stay to be appended to; all else that was told may be read. -/
def okOf (w : World) (β : Bs) (os : List (Option (Nat × Nat))) (b : Nat) : Prop := b < w.heap.size ∧ ¬ β.out b ∧ ∀ c, some (b, c) ∉ os
theorem Lab.mem_bs {labs : Lab} {β : Bs} {g c : Nat} (h : some (g, c) ∈ Lab.bs labs β) : ∃ id, some id ∈ labs ∧ β id = some (g, c) := by
  simp only [Lab.bs, List.mem_map] at h
  obtain ⟨o, ho, hb⟩ := h
  cases o with
  | none => cases hb
  | some id => exact ⟨id, ho, hb⟩
theorem CovR.okFor {hp : List Obj} (hH : HRep w β hp) {used used' : List Nat} {labs : Lab} {f : List Nat} (h : CovR hp used used' labs f) :
    OkFor w β hp f (okOf w β (Lab.bs labs β)) ∧ Apart (Lab.bs labs β) := by
  refine ⟨⟨fun b hb => ⟨⟨hb.1, hb.2.2, fun c hm => ?_⟩, fun c e fz hc => ⟨fz, hc⟩⟩, fun id hid g c hb => ?_⟩, fun i j g c c' hi hj => ?_⟩
  · obtain ⟨id, h1, h2⟩ := Lab.mem_bs hm
    exact hb.2.1 ⟨id, c, (h.mem id (.inl h1)).2.2, h2⟩
  · have hl := (h.mem id (.inr hid)).2.2
    refine ⟨hH.lt hl hb, hH.no _ _ _ hl hb, fun c' hm => ?_⟩
    obtain ⟨id', h1, h2⟩ := Lab.mem_bs hm
    have := hH.dis id' id g c' c (h.mem id' (.inl h1)).2.2 hl h2 hb
    subst this
    exact h.sep _ h1 hid
  · simp only [Lab.bs, List.getElem?_map, Option.map_eq_some_iff] at hi hj
    obtain ⟨x, hx, hx'⟩ := hi
    obtain ⟨y, hy, hy'⟩ := hj
    cases x with
    | none => cases hx'
    | some id =>
      cases y with
      | none => cases hy'
      | some id' =>
        have := hH.dis id id' g c c' (h.mem id (.inl (List.mem_of_getElem? hx))).2.2 (h.mem id' (.inl (List.mem_of_getElem? hy))).2.2 hx' hy'
        subst this
        exact h.inj _ _ _ hx hy
def bof (os : List (Option (Nat × Nat))) (out : Nat → Prop) : Bs := ⟨fun id => os.getD id none, out⟩
theorem bof_get {os : List (Option (Nat × Nat))} {out : Nat → Prop} {k g c : Nat} (h : bof os out k = some (g, c)) : os[k]? = some (some (g, c)) := by
  have h : os.getD k none = some (g, c) := h
  rw [List.getD_eq_getElem?_getD] at h
  cases hq : os[k]? with
  | none => rw [hq] at h; cases h
  | some x => rw [hq] at h; simp at h; rw [h]
def schObjs (l : List (Nat × TV)) : List Obj := TV.objsL (l.map (·.2))
theorem schCons_objs {ok : Nat → Prop} {n : Nat} : ∀ (l : List (Nat × TV)) (os : List (Option (Nat × Nat))), schCons w ok a n l os → ObjsAt w ok (schObjs l) os
  | [], _, h => by rw [h]; exact trivial
  | (t, x) :: l, _, ⟨_, o1, o2, rfl, h1, h2⟩ => by
    show ObjsAt w ok (x.objs ++ schObjs l) _
    exact repL.append _ _ _ _ (TV.con_objs h1) (schCons_objs l o2 h2)
theorem instAll_rep {ok : Nat → Prop} : ∀ (l : List (Nat × TV)) (os : List (Option (Nat × Nat))) (st : St), schCons w ok a st.n l os → Stays w w ok (imm w β (st.hp ++ schObjs l)) → (∀ k, k < os.length → β (st.hp.length + k) = os.getD k none) →
    (∀ t, t < st.n → (st.sl t).rep w β (st.hp ++ schObjs l) (a.tmps.getD t undef)) →
    (instAll l st).hp = st.hp ++ schObjs l ∧ (instAll l st).n = st.n ∧ ∀ t, t < st.n → ((instAll l st).sl t).rep w β (st.hp ++ schObjs l) (a.tmps.getD t undef)
  | [], os, st, h, hst, hb, hr => ⟨by simp [instAll, schObjs, TV.objsL], rfl, hr⟩
  | (t, x) :: l, os, st, ⟨htn, o1, o2, ho, h1, h2⟩, hst, hb, hr => by
    subst ho
    have hl := TV.con_len h1
    have e1 : st.hp ++ schObjs ((t, x) :: l) = st.hp ++ x.objs ++ schObjs l := by simp [schObjs, TV.objsL]
    rw [e1] at hst hr ⊢
    have hi := TV.inst_rep h1 hst (fun k hk => by rw [hb k (by simp; omega)]; simp [List.getD_eq_getElem?_getD, List.getElem?_append_left hk])
    have hhp := TV.inst_hp st.hp x
    unfold instAll
    generalize hx : x.inst st.hp = p at hi hhp
    obtain ⟨v, hp⟩ := p
    dsimp only at hi hhp ⊢
    subst hhp
    refine instAll_rep l o2 { n := st.n, sl := upd st.sl t (.s v), hp := st.hp ++ x.objs } h2 hst (fun k hk => ?_) (fun s hs => ?_)
    · have := hb (o1.length + k) (by simp; omega)
      show β ((st.hp ++ x.objs).length + k) = _
      rw [List.length_append, hl, Nat.add_assoc, this]
      simp [List.getD_eq_getElem?_getD, List.getElem?_append_right]
    · show ((if s = t then AV.s v else st.sl s) : AV).rep w β _ _
      split
      · subst s
        exact hi
      · exact hr s hs
/-- Trees laid into a new state. -/
theorem sch_state {ok : Nat → Prop} {n : Nat} {l : List (Nat × TV)} {os : List (Option (Nat × Nat))} {out : Nat → Prop} (h : schCons w ok a n l os) (hs : a.tmps.size = n) (hd : a.defers = [])
    (hok : ∀ b, ok b → b < w.heap.size ∧ ¬ out b ∧ ∀ c, some (b, c) ∉ os) (ha : Apart os) (hno : ∀ g c, some (g, c) ∈ os → ¬ out g) (hout : ∀ b, out b → b < w.heap.size) :
    SRep w (bof os out) (instAll l (emptySt n)) a ∧ (instAll l (emptySt n)).n = n ∧ ∀ b, mutb (bof os out) (instAll l (emptySt n)).hp b → ∃ c, some (b, c) ∈ os := by
  have hst : Stays w w ok (imm w (bof os out) (schObjs l)) := fun b hb => by
    obtain ⟨h1, h2, h3⟩ := hok b hb
    exact ⟨⟨h1, fun ⟨id, c, _, hm⟩ => h3 c (List.mem_of_getElem? (bof_get hm)), h2⟩, fun c e fz hc => ⟨fz, hc⟩⟩
  obtain ⟨h1, h2, h3⟩ := instAll_rep (β := bof os out) l os (emptySt n) h (by simpa [emptySt] using hst) (fun k _ => by simp [emptySt]; rfl) (fun t _ => trivial)
  have hhp : (instAll l (emptySt n)).hp = schObjs l := by simpa [emptySt] using h1
  refine ⟨⟨⟨fun id hid => ?_, fun id id' g c c' _ _ hb hb' => ha _ _ g c c' (bof_get hb) (bof_get hb'), fun id g c _ hb => hno g c (List.mem_of_getElem? (bof_get hb)), hout⟩, ?_, fun t ht => ?_, hd⟩, ?_, fun b hm => ?_⟩
  · rw [hhp] at hid ⊢
    obtain ⟨e, r, xs, k1, k2⟩ := objs_get _ os (schCons_objs l os h) id hid
    unfold ObjRep
    rw [k1]
    exact k2.mono hst (fun _ _ _ => rfl)
  · rw [h2, hs]
    rfl
  · rw [h2] at ht
    have := h3 t ht
    rw [hhp]
    simpa [emptySt] using this
  · exact h2
  · obtain ⟨id, c, _, hb⟩ := hm
    exact ⟨c, List.mem_of_getElem? (bof_get hb)⟩
end
end Go.AX
