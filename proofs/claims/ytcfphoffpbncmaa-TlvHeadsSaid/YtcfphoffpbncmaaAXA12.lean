/- The abstract executor, part 12: what slots hold, told as trees; trees laid into a new state. -/
import Derived.Test.YtcfphoffpbncmaaAXA11
set_option linter.unusedVariables false
set_option linter.unusedSimpArgs false
namespace Go.AX
open Go.RowKit
section
variable {P : Program} {E : Env} {w : World} {β : Bs} {st : St} {a : Act}
theorem rowEq_spec {r' r : Row} {xs' : List r'.den} {xs : List r.den} (h : rowEq r' xs' r xs) : ∃ e : r' = r, e ▸ xs' = xs := by
  unfold rowEq at h
  split at h
  · rename_i ys hys
    obtain ⟨rfl, rfl⟩ := castRow_spec hys
    exact ⟨rfl, h⟩
  · exact h.elim
theorem nestEq_spec {r' r : Row} {xs' : List (Int × List r'.den)} {xs : List (Int × List r.den)} (h : nestEq r' xs' r xs) : ∃ e : r' = r, e ▸ xs' = xs := by
  unfold nestEq at h
  split at h
  · split at h
    · rename_i hk
      subst hk
      exact ⟨rfl, h⟩
    · exact h.elim
  · exact h.elim
theorem slRep_own {ok ok' : Nat → Prop} (hst : Stays w w ok ok') {o : Option (Nat × Nat)} {e : TypeId} {r : Row} {xs : List r.den} (h : rowObj w ok o e r xs) (hg : ∀ g c, o = some (g, c) → ok' g) : slRep w ok' r xs (ownVal o xs.length) := by
  rcases h with ⟨rfl, rfl⟩ | ⟨g, cap, cells, rfl, hc, hs, hl, hm, hall⟩
  · exact ⟨none, 0, rfl, Nat.le_refl _, .inl rfl⟩
  · refine ⟨some ⟨g, 0, none⟩, cap, rfl, hl, .inr ⟨g, 0, rfl, hg g cap rfl, cells, e, _, hc, fun i x hi => ?_⟩⟩
    rw [Nat.zero_add]
    exact Row.rep_mono hst r x _ (hall i x hi)
theorem bsRep_own {bo ok ok' : Nat → Prop} (hst : Stays w w ok ok') {o : Option (Nat × Nat)} {e : TypeId} {r : Row} {xs : List r.den} (h : rowObj w ok o e r xs) (hg : ∀ g c, o = some (g, c) → bo g) : bsRep w bo ok' r xs (ownVal o xs.length) := by
  rcases h with ⟨rfl, rfl⟩ | ⟨g, cap, cells, rfl, hc, hs, hl, hm, hall⟩
  · exact bsRep.nil
  · refine ⟨some ⟨g, 0, none⟩, cap, rfl, hl, .inr ⟨g, 0, rfl, hg g cap rfl, cells, e, _, hc, fun i x hi => ?_⟩⟩
    rw [Nat.zero_add]
    exact Row.rep_mono hst r x _ (hall i x hi)
theorem T0.cov_spec {hp : List Obj} (hH : HRep w β hp) {used : List Nat} {t : T0} {y : CV} {u : Value} {K : List Nat → Prop} (h : t.cov hp used y K) (hr : y.rep w β hp u) :
    ∃ used' labs f, K used' ∧ CovR hp used used' labs f ∧ ∀ A, OkFor w β hp f A → t.con w A u (Lab.bs labs β) := by
  have hnil : ∀ {ok : Nat → Prop} {r : Row}, slRep w ok r [] (Value.slice none 0 0) := ⟨none, 0, rfl, Nat.le_refl _, .inl rfl⟩
  cases t with
  | v x =>
    obtain ⟨h1, h2⟩ := h
    split at h1
    · rename_i z
      have h1 := valEq_eq h1
      subst h1
      exact ⟨used, [], [], h2, .refl _ _, fun A _ => ⟨hr, rfl⟩⟩
    · exact h1.elim
  | sl e r xs =>
    unfold T0.cov at h
    dsimp only at h
    split at h
    · obtain ⟨h1, h2⟩ := h
      obtain ⟨rfl, rfl⟩ := rowEq_spec h1
      exact ⟨used, [], [], h2, .refl _ _, fun A hok => ⟨slRep.mono hok.1.1 hr, rfl⟩⟩
    · rename_i id
      split at h
      · rename_i e' r' ys hg
        split at h
        · exact h.elim
        · rename_i hu
          obtain ⟨h1, h2⟩ := h
          obtain ⟨rfl, rfl⟩ := rowEq_spec h1
          obtain ⟨o1, o2⟩ := own_row hH hr hg
          refine ⟨_, [], [id], h2, .fro (by simpa using hu) (lz_row hg), fun A hok => ⟨?_, rfl⟩⟩
          rw [o1]
          exact slRep_own hok.1.1 o2 fun g c hb => (hok.2 id (by simp) g c hb).1
      · rename_i e' r' ys hg
        obtain ⟨h1, h2⟩ := h
        obtain ⟨rfl, rfl⟩ := rowEq_spec h1
        have := hr.2
        rw [hg] at this
        exact ⟨used, [], [], h2, .refl _ _, fun A hok => ⟨slRep.mono hok.1.1 this, rfl⟩⟩
      · exact h.elim
    · obtain ⟨rfl, h2⟩ := h
      refine ⟨used, [], [], h2, .refl _ _, fun A hok => ⟨?_, rfl⟩⟩
      rw [hr.1]
      exact hnil
    · exact h.elim
  | own e r xs =>
    unfold T0.cov at h
    dsimp only at h
    split at h
    · rename_i id
      split at h
      · rename_i e' r' ys hg
        split at h
        · exact h.elim
        · rename_i hu
          obtain ⟨h1, h2⟩ := h
          obtain ⟨rfl, rfl⟩ := rowEq_spec h1
          simp only [not_or, Decidable.not_not] at hu
          obtain ⟨hu1, rfl⟩ := hu
          exact ⟨_, [lab1 id], [], h2, .own (by simpa using hu1) (lz_row hg), fun A hok => own_con hH hr hg hok.1⟩
      · exact h.elim
    · obtain ⟨rfl, h2⟩ := h
      refine ⟨used, [lab0], [], h2, .nil _ _, fun A hok => ⟨none, ?_, hr.1, .inl ⟨rfl, rfl⟩⟩⟩
      show [Lb.fp lab0 β] = _
      rw [lab0_fp]
    · exact h.elim
  | rptr r xs i off =>
    unfold T0.cov at h
    dsimp only at h
    split at h
    · obtain ⟨h1, h3, h4, h2⟩ := h
      obtain ⟨rfl, rfl⟩ := rowEq_spec h1
      subst h3 h4
      obtain ⟨h0, b, o, hv, hrow⟩ := hr
      exact ⟨used, [], [], h2, .refl _ _, fun A hok => ⟨⟨h0, b, o, hv, hrow.mono hok.1.2 hok.1.1⟩, rfl⟩⟩
    · rename_i id off'
      split at h
      · rename_i e' cs hg
        split at h
        · exact h.elim
        · rename_i hu
          split at h
          · rename_i z hz
            obtain ⟨h1, h3, h4, h2⟩ := h
            subst h1 h3 h4
            have h5 := hH.obj id hr.1
            unfold ObjRep at h5
            rw [hg] at h5
            obtain ⟨g, c, cells, hb, hc, hcs, _⟩ := h5
            have h6 := hr.2
            rw [hg] at h6
            obtain ⟨g', c', hb', hv⟩ := h6
            rw [hb] at hb'
            injection hb' with hb'
            injection hb' with e1 e2
            subst e1
            have hrep := r.ofCvs_rep _ _ _ hz hcs
            have hlen := r.rep_len _ _ hrep
            refine ⟨_, [], [id], h2, .fro (by simpa using hu) (lz_box hg), fun A hok => ⟨⟨⟨by omega, by simp⟩, g, 0, by simpa using hv, (hok.2 id (by simp) g c hb).2, cells, _, _, hc, fun i x hi => ?_⟩, rfl⟩⟩
            cases i with
            | zero =>
              simp at hi
              subst hi
              rw [Nat.zero_add, Nat.zero_mul, List.drop_zero, List.take_of_length_le (by omega)]
              exact Row.rep_mono hok.1.1 r _ _ hrep
            | succ i => simp at hi
          · exact h.elim
      · exact h.elim
    · exact h.elim
  | clo f r x =>
    unfold T0.cov at h
    dsimp only at h
    split at h
    · obtain ⟨rfl, h1, h2⟩ := h
      obtain ⟨rfl, h3⟩ := rowEq_spec h1
      simp at h3
      subst h3
      obtain ⟨b, o, hv, hrow⟩ := hr
      exact ⟨used, [], [], h2, .refl _ _, fun A hok => ⟨⟨b, o, hv, hrow.mono hok.1.2 hok.1.1⟩, rfl⟩⟩
    · exact h.elim
  | bs r xs =>
    unfold T0.cov at h
    dsimp only at h
    have hsb : ∀ {A : Acc}, OkFor w β hp [] A → ∀ {r : Row} {xs : List r.den} {u : Value}, slRep w (imm w β hp) r xs u → bsRep w A.bo A.ok r xs u := fun hok _ _ _ h => bsRep.mono (Stays.sub fun b hb => (hok.1.2 b (imm_nomut hb)).1) hok.1.1 h
    split at h
    · obtain ⟨rfl, h2⟩ := h
      refine ⟨used, [], [], h2, .refl _ _, fun A hok => ⟨?_, rfl⟩⟩
      rw [hr.1]
      exact bsRep.nil
    · obtain ⟨h1, h2⟩ := h
      obtain ⟨rfl, rfl⟩ := rowEq_spec h1
      exact ⟨used, [], [], h2, .refl _ _, fun A hok => ⟨bsRep.mono hok.1.2 hok.1.1 hr, rfl⟩⟩
    · obtain ⟨h1, h2⟩ := h
      obtain ⟨rfl, rfl⟩ := rowEq_spec h1
      exact ⟨used, [], [], h2, .refl _ _, fun A hok => ⟨hsb hok hr, rfl⟩⟩
    · rename_i id
      split at h
      · rename_i e' r' ys hg
        split at h
        · exact h.elim
        · rename_i hu
          obtain ⟨h1, h2⟩ := h
          obtain ⟨rfl, rfl⟩ := rowEq_spec h1
          obtain ⟨o1, o2⟩ := own_row hH hr hg
          refine ⟨_, [], [id], h2, .fro (by simpa using hu) (lz_row hg), fun A hok => ⟨?_, rfl⟩⟩
          rw [o1]
          exact bsRep_own hok.1.1 o2 fun g c hb => (hok.2 id (by simp) g c hb).2
      · rename_i e' r' ys hg
        obtain ⟨h1, h2⟩ := h
        obtain ⟨rfl, rfl⟩ := rowEq_spec h1
        have := hr.2
        rw [hg] at this
        exact ⟨used, [], [], h2, .refl _ _, fun A hok => ⟨hsb hok this, rfl⟩⟩
      · exact h.elim
    · exact h.elim
  | er t c =>
    unfold T0.cov at h
    dsimp only at h
    split at h
    · split at h
      · rename_i he
        obtain ⟨rfl, h2⟩ := h
        subst he
        exact ⟨used, [], [], h2, .refl _ _, fun A _ => ⟨hr, rfl⟩⟩
      · exact h.elim
    · obtain ⟨rfl, h2⟩ := h
      exact ⟨used, [], [], h2, .refl _ _, fun A _ => ⟨hr.1, rfl⟩⟩
    · split at h
      · rename_i he
        obtain ⟨rfl, h3, h2⟩ := h
        subst he
        refine ⟨used, [], [], h2, .refl _ _, fun A _ => ⟨?_, rfl⟩⟩
        rw [hr.1]
        unfold errV
        rw [if_neg h3]
      · exact h.elim
    · exact h.elim
  | nest e pk eb r xs =>
    unfold T0.cov at h
    dsimp only at h
    split at h
    · rename_i id
      split at h
      · rename_i e' pk' eb' r' ys hg
        split at h
        · exact h.elim
        · rename_i hu
          obtain ⟨h1, h2⟩ := h
          obtain ⟨rfl, rfl⟩ := nestEq_spec h1
          simp only [not_or, Decidable.not_not] at hu
          obtain ⟨hu1, rfl, rfl, rfl⟩ := hu
          exact ⟨_, [labN id ys.length], [], h2, .nest (by simpa using hu1) (lz_nest hg) (fun j hj => nest_fp hg hj (fun p hp => by cases hp)), fun A hok => nest_con hH hr hg hok.1⟩
      · rename_i e' pk' eb' r' ys i m hg
        split at h
        · rename_i eb2 r2 zs hm
          split at h
          · exact h.elim
          · rename_i hu
            simp only [not_or, Decidable.not_not] at hu
            obtain ⟨rfl, hu1, hu2, hne, rfl, rfl, rfl⟩ := hu
            split at h
            · rename_i zs' hc
              obtain ⟨rfl, rfl⟩ := castRow_spec hc
              obtain ⟨hi, h1, h2⟩ := h
              obtain ⟨rfl, rfl⟩ := nestEq_spec h1
              exact ⟨_, [labO id ys.length i m], [], h2, .nestO (by simpa using hu1) (by simpa using hu2) hne (lz_nest hg) (fun j hj hn => nest_fp hg hj (fun p hp => by injection hp with hp; subst hp; exact hn)) (lz_row hm), fun A hok => nestO_con hH hr hg hm hi hok.1⟩
            · exact h.elim
        · exact h.elim
      · exact h.elim
    · exact h.elim
theorem T0.covs_spec {hp : List Obj} (hH : HRep w β hp) : ∀ {used : List Nat} {l : List T0} {ys : List CV} {us : List Value} {K : List Nat → Prop}, T0.covs hp used l ys K → repL (CV.rep w β hp) ys us →
    ∃ used' labs f, K used' ∧ CovR hp used used' labs f ∧ ∀ A, OkFor w β hp f A → T0.cons w A l us (Lab.bs labs β)
  | used, [], [], [], K, h, _ => ⟨used, [], [], h, .refl _ _, fun _ _ => rfl⟩
  | used, t :: l, y :: ys, u :: us, K, h, hr => by
    obtain ⟨u1, l1, f1, h1, h2, h3⟩ := T0.cov_spec hH (t := t) (y := y) h hr.1
    obtain ⟨u2, l2, f2, k1, k2, k3⟩ := T0.covs_spec hH h1 hr.2
    exact ⟨u2, l1 ++ l2, f1 ++ f2, k1, h2.comp k2, fun A hok => ⟨_, _, Lab.bs_append _ _ _, h3 A hok.left, k3 A hok.right⟩⟩
  | _, [], _ :: _, _, _, h, _ => h.elim
  | _, _ :: _, [], _, _, h, _ => h.elim
  | _, [], [], _ :: _, _, _, hr => hr.elim
  | _, _ :: _, _ :: _, [], _, _, hr => hr.elim
/-- The order of two parts of what is handed over. -/
theorem CovR.swap {hp : List Obj} {u u' : List Nat} {l1 l2 : Lab} {f : List Nat} (h : CovR hp u u' (l1 ++ l2) f) : CovR hp u u' (l2 ++ l1) f where
  mem := fun L hL => h.mem L (by simp only [List.mem_append] at hL ⊢; exact hL.symm)
  memf := h.memf
  sub := h.sub
  inj := fun i i' L L' j j' p hi hi' e e' => by
    have key : ∀ (i : Nat) (L : Lb), (l2 ++ l1)[i]? = some L → (l1 ++ l2)[if i < l2.length then i + l1.length else i - l2.length]? = some L ∧ i < l2.length + l1.length := fun i L h => by
      have hl := (List.getElem?_eq_some_iff.1 h).1
      simp at hl
      refine ⟨?_, hl⟩
      rw [List.getElem?_append] at h
      split at h
      · rename_i hl
        rw [if_pos hl, List.getElem?_append_right (by omega), Nat.add_sub_cancel]
        exact h
      · rename_i hl
        rw [if_neg hl, List.getElem?_append_left (by omega)]
        exact h
    obtain ⟨k1, b1⟩ := key i L hi
    obtain ⟨k2, b2⟩ := key i' L' hi'
    have := h.inj _ _ L L' j j' p k1 k2 e e'
    refine ⟨?_, this.2⟩
    have := this.1
    split at this <;> split at this <;> omega
  sep := fun L hL => h.sep L (by simp only [List.mem_append] at hL ⊢; exact hL.symm)
  nz := h.nz
theorem TV.cov_spec {hp : List Obj} (hH : HRep w β hp) {used : List Nat} {t : TV} {y : SV} {u : Value} {K : List Nat → Prop} (h : t.cov hp used y K) (hr : y.rep w β hp u) :
    ∃ used' labs f, K used' ∧ CovR hp used used' labs f ∧ ∀ A, OkFor w β hp f A → t.con w A u (Lab.bs labs β) := by
  cases t with
  | c t => cases y with
    | c y => exact T0.cov_spec hH h hr
    | agg ys => exact h.elim
  | agg ts => cases y with
    | c y => exact h.elim
    | agg ys =>
      obtain ⟨l, hu, hl⟩ := hr
      obtain ⟨u1, l1, f1, h1, h2, h3⟩ := T0.covs_spec hH h hl
      exact ⟨u1, l1, f1, h1, h2, fun A hok => ⟨l, hu, h3 A hok⟩⟩
  | box e ts =>
    have key : ∃ id, y = .c (.ptr id 0) := by
      cases y with
      | agg ys => exact h.elim
      | c y =>
        cases y with
        | ptr id off =>
          cases off with
          | zero => exact ⟨id, rfl⟩
          | succ off => exact h.elim
        | _ => exact h.elim
    obtain ⟨id, rfl⟩ := key
    · have hq : (match hget hp id with
        | .box e' cs => if used.contains id ∨ e' ≠ e then False else T0.covs hp (id :: used) ts cs K
        | _ => False) := h
      clear h
      split at hq
      · rename_i e' cs hg
        split at hq
        · exact hq.elim
        · rename_i hu
          simp only [not_or, Decidable.not_not] at hu
          obtain ⟨hu1, rfl⟩ := hu
          have hid := hr.1
          have h2 := hr.2
          rw [hg] at h2
          obtain ⟨g, c, hb, hv⟩ := h2
          have hO := hH.obj id hid
          unfold ObjRep at hO
          rw [hg] at hO
          obtain ⟨g', c', cells, hb', hgg, hcs, hone⟩ := hO
          rw [hb] at hb'
          injection hb' with hb'
          injection hb' with e1 e2
          subst e1
          obtain ⟨u1, labs, f1, k1, k2, k3⟩ := T0.covs_spec hH hq hcs
          have c1 : CovR hp used (id :: used) [lab1 id] [] := .own (by simpa using hu1) (lz_box hg)
          refine ⟨u1, labs ++ [lab1 id], f1, k1, ?_, fun A hok => ⟨cells.toList, g, c, Lab.bs labs β, hv, by simpa using hgg, k3 A hok, hone, ?_⟩⟩
          · have := c1.comp k2
            rw [List.nil_append] at this
            exact this.swap
          · rw [Lab.bs_append]
            show _ ++ [Lb.fp (lab1 id) β] = _
            rw [lab1_fp, hb]
      · exact hq.elim
def schCons (w : World) (A : Acc) (a : Act) (n : Nat) : List (Nat × TV) → List Fp → Prop
  | [], os => os = []
  | (t, x) :: l, os => t < n ∧ ∃ o1 o2, os = o1 ++ o2 ∧ x.con w A (a.tmps.getD t undef) o1 ∧ schCons w A a n l o2
theorem TV.cov_any {hp : List Obj} {used : List Nat} {t : TV} {K : List Nat → Prop} (h : t.cov hp used (.c .any) K) : False := by
  cases t with
  | c t => cases t with
    | v x => exact h.1
    | sl e r xs => exact h
    | own e r xs => exact h
    | rptr r xs i off => exact h
    | clo f r x => exact h
    | bs r xs => exact h
    | er t c => exact h
    | nest e pk eb r xs => exact h
  | agg ts => exact h
  | box e ts => exact h
theorem covAll_spec (hS : SRep w β st a) : ∀ {used : List Nat} {l : List (Nat × TV)}, covAll st used l →
    ∃ used' labs f, CovR st.hp used used' labs f ∧ ∀ A, OkFor w β st.hp f A → schCons w A a st.n l (Lab.bs labs β)
  | used, [], h => ⟨used, [], [], .refl _ _, fun _ _ => rfl⟩
  | used, (t, x) :: l, h => by
    unfold covAll at h
    have hr := get_rep hS t
    split at h
    · rename_i y hg
      rw [hg] at hr
      have htn : t < st.n := by
        apply Classical.byContradiction
        intro hn
        have : st.get t = .cv .any := by unfold St.get; rw [if_neg hn]
        rw [this] at hg
        injection hg with hg
        subst hg
        exact TV.cov_any h
      obtain ⟨u1, l1, f1, h1, h2, h3⟩ := TV.cov_spec hS.hp h hr
      obtain ⟨u2, l2, f2, k2, k3⟩ := covAll_spec hS h1
      exact ⟨u2, l1 ++ l2, f1 ++ f2, h2.comp k2, fun A hok => ⟨htn, _, _, Lab.bs_append _ _ _, h3 A hok.left, k3 A hok.right⟩⟩
    · exact h.elim
def bof (os : List Fp) (out : Nat → Prop) : Bs := ⟨fun id => os.getD id nF, out⟩
theorem bof_get {os : List Fp} {out : Nat → Prop} {k j g c : Nat} (h : (bof os out).f k j = some (g, c)) : os[k]? = some (os.getD k nF) ∧ (os.getD k nF) j = some (g, c) := ⟨getD_nF h, h⟩
def schObjs (n : Nat) (l : List (Nat × TV)) : List Obj := TV.objsL n (l.map (·.2))
theorem schCons_len {A : Acc} {m : Nat} : ∀ {l : List (Nat × TV)} {os : List Fp} {n : Nat}, schCons w A a m l os → (schObjs n l).length = os.length
  | [], _, _, h => by rw [h]; rfl
  | (t, x) :: l, _, n, ⟨_, o1, o2, rfl, h1, h2⟩ => by
    show (x.objs n ++ TV.objsL _ (l.map (·.2))).length = _
    have := schCons_len (n := n + (x.objs n).length) h2
    unfold schObjs at this
    rw [List.length_append, List.length_append, this, TV.con_len2 h1]
theorem instAll_hp : ∀ (l : List (Nat × TV)) (st : St), (instAll l st).hp = st.hp ++ schObjs st.hp.length l ∧ (instAll l st).n = st.n
  | [], st => by simp [instAll, schObjs, TV.objsL]
  | (t, x) :: l, st => by
    unfold instAll
    rw [TV.inst_eq]
    dsimp only
    obtain ⟨h1, h2⟩ := instAll_hp l { n := st.n, sl := upd st.sl t (.s (x.svAt st.hp.length)), hp := st.hp ++ x.objs st.hp.length }
    rw [h1, h2]
    simp [schObjs, TV.objsL]
theorem instAll_rep {A : Acc} {hp : List Obj} (hst : AStays w w A (accOf w β hp)) : ∀ (l : List (Nat × TV)) (os : List Fp) (st : St), schCons w A a st.n l os → st.hp.length + (schObjs st.hp.length l).length ≤ hp.length → (∀ k, k < (schObjs st.hp.length l).length → hget hp (st.hp.length + k) = hget (schObjs st.hp.length l) k) → (∀ k, k < os.length → β.f (st.hp.length + k) = os.getD k nF) →
    (∀ t, t < st.n → (st.sl t).rep w β hp (a.tmps.getD t undef)) →
    (∀ t, t < st.n → ((instAll l st).sl t).rep w β hp (a.tmps.getD t undef)) ∧ ∀ k, k < (schObjs st.hp.length l).length → ObjRep w β hp (st.hp.length + k)
  | [], os, st, h, _, _, _, hr => ⟨hr, fun k hk => by simp [schObjs, TV.objsL] at hk⟩
  | (t, x) :: l, os, st, ⟨htn, o1, o2, ho, h1, h2⟩, hn, hg, hb, hr => by
    subst ho
    have e1 : schObjs st.hp.length ((t, x) :: l) = x.objs st.hp.length ++ schObjs (st.hp.length + (x.objs st.hp.length).length) l := rfl
    rw [e1] at hn hg ⊢
    rw [List.length_append] at hn hg ⊢
    have hl := TV.con_len2 (n := st.hp.length) h1
    obtain ⟨a1, a2⟩ := TV.inst_rep (hp := hp) (n := st.hp.length) h1 hst (by omega) (fun k hk => by rw [hg k (by omega), hget_app_l hk]) (fun k hk => by rw [hb k (by simp; omega), getD_app_l hk])
    unfold instAll
    rw [TV.inst_eq]
    dsimp only
    have hlen : (st.hp ++ x.objs st.hp.length).length = st.hp.length + (x.objs st.hp.length).length := by simp
    obtain ⟨b1, b2⟩ := instAll_rep hst l o2 { n := st.n, sl := upd st.sl t (.s (x.svAt st.hp.length)), hp := st.hp ++ x.objs st.hp.length } h2
      (by show (st.hp ++ x.objs st.hp.length).length + _ ≤ _; rw [hlen]; omega)
      (fun k hk => by
        rw [hlen] at hk
        show hget hp ((st.hp ++ x.objs st.hp.length).length + k) = _
        rw [hlen, Nat.add_assoc, hg _ (by omega), hget_append_ge])
      (fun k hk => by
        show β.f ((st.hp ++ x.objs st.hp.length).length + k) = _
        rw [hlen, Nat.add_assoc, hl, hb _ (by simp; omega), getD_app_r])
      (fun s hs => by
        show ((if s = t then AV.s (x.svAt st.hp.length) else st.sl s) : AV).rep w β _ _
        split
        · subst s
          exact a1
        · exact hr s hs)
    refine ⟨b1, fun k hk => ?_⟩
    by_cases hk1 : k < (x.objs st.hp.length).length
    · exact a2 k hk1
    · have := b2 (k - (x.objs st.hp.length).length) (by rw [hlen]; omega)
      rw [hlen] at this
      rwa [show st.hp.length + (x.objs st.hp.length).length + (k - (x.objs st.hp.length).length) = st.hp.length + k by omega] at this
/-- Trees laid into a new state. -/
theorem sch_state {A : Acc} {n : Nat} {l : List (Nat × TV)} {os : List Fp} {out : Nat → Prop} (h : schCons w A a n l os) (hs : a.tmps.size = n) (hd : a.defers = [])
    (hok : ∀ b, A.ok b → b < w.heap.size ∧ ¬ out b ∧ ¬ InOs os b) (hbo : ∀ b, A.bo b → b < w.heap.size ∧ ¬ InOs os b) (ha : Apart os) (hno : ∀ g, InOs os g → ¬ out g) (hout : ∀ b, out b → b < w.heap.size) :
    SRep w (bof os out) (instAll l (emptySt n)) a ∧ (instAll l (emptySt n)).n = n ∧ ∀ b, mutb (bof os out) (instAll l (emptySt n)).hp b → InOs os b := by
  obtain ⟨h1, h2⟩ := instAll_hp l (emptySt n)
  have hhp : (instAll l (emptySt n)).hp = schObjs 0 l := by rw [h1]; rfl
  have hm : ∀ b, mutb (bof os out) (instAll l (emptySt n)).hp b → InOs os b := fun b ⟨id, j, c, _, hb⟩ => InOs.of_get (bof_get hb).1 (bof_get hb).2
  have hst : AStays w w A (accOf w (bof os out) (instAll l (emptySt n)).hp) :=
    ⟨Stays.sub fun b hb => ⟨(hok b hb).1, fun h => (hok b hb).2.2 (hm b h), (hok b hb).2.1⟩, Stays.sub fun b hb => ⟨(hbo b hb).1, fun h => (hbo b hb).2 (hm b h)⟩⟩
  obtain ⟨k1, k2⟩ := instAll_rep (β := bof os out) hst l os (emptySt n) h (by rw [hhp]; simp [emptySt]) (fun k hk => by rw [hhp]; simp [emptySt]) (fun k _ => by simp [emptySt]; rfl) (fun t _ => trivial)
  refine ⟨⟨⟨fun id hid => ?_, fun id id' j j' g c c' _ _ hb hb' => ?_, fun id j g c _ hb => hno g (InOs.of_get (bof_get hb).1 (bof_get hb).2), hout⟩, ?_, fun t ht => ?_, hd⟩, h2, hm⟩
  · have := k2 id (by rw [hhp] at hid; exact hid)
    simpa [emptySt] using this
  · exact ha id id' _ _ j j' g c c' (bof_get hb).1 (bof_get hb').1 (bof_get hb).2 (bof_get hb').2
  · rw [h2, hs]
    rfl
  · rw [h2] at ht
    exact k1 t ht
end
end Go.AX
