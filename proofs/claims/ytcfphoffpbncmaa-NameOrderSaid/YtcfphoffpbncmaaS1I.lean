/- What charterlaw09.NameAlike answers: true, for every two names that memory can hold. -/
import Derived.Test.YtcfphoffpbncmaaS1H
set_option linter.unusedVariables false
set_option linter.unusedSimpArgs false
namespace Go.AX
open Go.Proofs
set_option maxRecDepth 100000
set_option maxHeartbeats 4000000
theorem rwithin_vc (e e' : TypeId) (a b : List (List Att)) (hA : NmOk a) (hB : NmOk b) :
    match Try.f22.body with
    | some c => awp EV { spec := fun | 20 => some SAlike | _ => none } c (instAll (argSt 0 0 [.c (.sl e rN a), .c (.sl e' rN b)]) (emptySt Try.f22.ntmps)) (retK EV Try.f22.results.toList [.c (.v (.bool (within a b)))])
    | none => False := by
  unfold Try.f22
  show awp _ _ _ _ _
  repeat' first
    | refine And.intro ?_ ?_
    | (refine fun h => ?_; first | exact ff h | exact tf h | skip)
  all_goals try simp only [decide_eq_true_eq, decide_eq_false_iff_not, Bool.not_true, Bool.not_false, Int.toNat_natCast] at *
  all_goals first
    | exact trivial
    | omega
    | rfl
    | exact hA.take _
    | exact hB
    | (show (_ : Bool) = _; exact (within_le (by omega)).symm)
    | (show (_ : Bool) = _; exact (within_gt (by omega)).symm)
theorem ok_RWithin : SpecOk Try.prog 22 SWithin := spec_of EV_ok (fn := Try.f22) (by kernel_rfl) (by kernel_rfl) fun args hs => by
  unfold SWithin at hs ⊢
  split at hs
  · refine ⟨Nat.le_of_ble_eq_true rfl, _, ?_, rwithin_vc _ _ _ _ hs.1 hs.2⟩
    intro f S h
    dsimp only at h
    split at h
    · cases h; exact ok_RAlike
    · cases h
  · exact hs.elim
/-- Is the name small enough to look at? What it answers does not matter here: some truth. -/
def lightAt (a : List (List Att)) : Bool := decide (a.length ≤ 20) && a.all fun vs => decide (vs.length ≤ 10) && vs.all fun x => decide (x.2.2.length ≤ 200) && decide (x.1.length ≤ 30)
def SLight : PSpec
  | [.c (.sl _ (.one (.sl 88 (.cons (.sl 111 (.one (.int .u32))) (.cons (.int .u8) (.one (.sl 5 (.one (.int .u8)))))))) a)] => (NmOk a, [.c (.v (.bool (lightAt a)))])
  | _ => (False, [])
def okVs (vs : List Att) : Bool := decide (vs.length ≤ 10) && vs.all fun x => decide (x.2.2.length ≤ 200) && decide (x.1.length ≤ 30)
def okAt (x : Att) : Bool := decide (x.2.2.length ≤ 200) && decide (x.1.length ≤ 30)
theorem lightAt_true {a : List (List Att)} (h : a.length ≤ 20) (hall : ∀ i, i < a.length → okVs (a.getD i []) = true) : lightAt a = true := by
  unfold lightAt
  rw [decide_eq_true h, Bool.true_and, List.all_eq_true]
  intro x hx
  obtain ⟨i, hi⟩ := List.getElem?_of_mem hx
  have := hall i (List.getElem?_eq_some_iff.1 hi).1
  rw [List.getD_eq_getElem?_getD, hi] at this
  exact this
theorem lightAt_big {a : List (List Att)} (h : ¬ a.length ≤ 20) : lightAt a = false := by
  unfold lightAt
  rw [decide_eq_false h, Bool.false_and]
theorem lightAt_false {a : List (List Att)} {k : Nat} (hk : k < a.length) (h : okVs (a.getD k []) = false) : lightAt a = false := by
  cases hc : lightAt a with
  | false => rfl
  | true =>
    unfold lightAt at hc
    rw [Bool.and_eq_true, List.all_eq_true] at hc
    have := hc.2 _ (List.getElem_mem hk)
    rw [List.getD_eq_getElem?_getD, List.getElem?_eq_getElem hk] at h
    exact (Bool.false_ne_true (h.symm.trans this)).elim
theorem okVs_true {vs : List Att} (h : vs.length ≤ 10) (hall : ∀ i, i < vs.length → okAt (vs.getD i ([], 0, [])) = true) : okVs vs = true := by
  unfold okVs
  rw [decide_eq_true h, Bool.true_and, List.all_eq_true]
  intro x hx
  obtain ⟨i, hi⟩ := List.getElem?_of_mem hx
  have := hall i (List.getElem?_eq_some_iff.1 hi).1
  rw [List.getD_eq_getElem?_getD, hi] at this
  exact this
theorem okVs_big {vs : List Att} (h : ¬ vs.length ≤ 10) : okVs vs = false := by
  unfold okVs
  rw [decide_eq_false h, Bool.false_and]
theorem okVs_false {vs : List Att} {k : Nat} (hk : k < vs.length) (h : okAt (vs.getD k ([], 0, [])) = false) : okVs vs = false := by
  cases hc : okVs vs with
  | false => rfl
  | true =>
    unfold okVs at hc
    rw [Bool.and_eq_true, List.all_eq_true] at hc
    have := hc.2 _ (List.getElem_mem hk)
    rw [List.getD_eq_getElem?_getD, List.getElem?_eq_getElem hk] at h
    exact (Bool.false_ne_true (h.symm.trans this)).elim
theorem okAt_true {x : Att} (h1 : x.2.2.length ≤ 200) (h2 : x.1.length ≤ 30) : okAt x = true := by
  unfold okAt
  rw [decide_eq_true h1, decide_eq_true h2]; rfl
theorem okAt_l {x : Att} (h1 : ¬ x.2.2.length ≤ 200) : okAt x = false := by
  unfold okAt
  rw [decide_eq_false h1, Bool.false_and]
theorem okAt_r {x : Att} (h1 : ¬ x.1.length ≤ 30) : okAt x = false := by
  unfold okAt
  rw [decide_eq_false h1, Bool.and_false]
def lightCfg (e : TypeId) (a : List (List Att)) : Cfg where
  loop := fun
    | 4 => some {
        ι := Nat
        pre := fun k => k ≤ a.length ∧ a.length ≤ 20 ∧ AllUpto (fun i => okVs (a.getD i []) = true) k
        sl := fun k => [(0, .c (.sl e rN a)), (3, .c (.v (.int .i64 k)))]
        μ := fun k => a.length - k }
    | 9 => some {
        ι := Nat × Nat
        pre := fun k => (k.1 < a.length ∧ a.length ≤ 20 ∧ AllUpto (fun i => okVs (a.getD i []) = true) k.1 ∧ (a.getD k.1 []).length ≤ 10) ∧ k.2 ≤ (a.getD k.1 []).length ∧ AllUpto (fun i => okAt ((a.getD k.1 []).getD i ([], 0, [])) = true) k.2
        sl := fun k => [(0, .c (.sl e rN a)), (3, .c (.v (.int .i64 k.1))), (4, .c (.v (.int .i64 k.2)))]
        μ := fun k => (a.getD k.1 []).length - k.2
        rel := some fun i k => k.1 = i.1 }
    | _ => none
theorem light_vc (e : TypeId) (a : List (List Att)) (hA : NmOk a) :
    match Try.f18.body with
    | some c => awp EV (lightCfg e a) c (instAll (argSt 0 0 [.c (.sl e rN a)]) (emptySt Try.f18.ntmps)) (retK EV Try.f18.results.toList [.c (.v (.bool (lightAt a)))])
    | none => False := by
  unfold Try.f18
  show awp _ _ _ _ _
  have hA1 := hA.len
  repeat' first
    | refine And.intro ?_ ?_
    | refine fun (k : Nat) (hk : k ≤ a.length ∧ a.length ≤ 20 ∧ AllUpto (fun i => okVs (a.getD i []) = true) k) => ?_
    | refine fun (q : Nat × Nat) (hq : (q.1 < a.length ∧ a.length ≤ 20 ∧ AllUpto (fun i => okVs (a.getD i []) = true) q.1 ∧ (a.getD q.1 []).length ≤ 10) ∧ q.2 ≤ (a.getD q.1 []).length ∧ AllUpto (fun i => okAt ((a.getD q.1 []).getD i ([], 0, [])) = true) q.2) (hqk : q.1 = k) => ?_
    | (refine fun h => ?_; first | exact ff h | exact tf h | skip)
    | refine Exists.intro ((q.1, q.2 + 1) : Nat × Nat) ?_
    | refine Exists.intro (q.1 + 1 : Nat) ?_
    | refine Exists.intro ((k, 0) : Nat × Nat) ?_
    | refine Exists.intro (0 : Nat) ?_
  all_goals try simp only [decide_eq_true_eq, decide_eq_false_iff_not, Bool.not_true, Bool.not_false, Bool.not_eq_true', Bool.not_eq_false', Int.toNat_natCast] at *
  all_goals try simp only [rNz, rAz] at *
  all_goals first
    | exact trivial
    | omega
    | rfl
    | exact .zero
    | exact hk.2.2
    | exact hq.1.2.2.1
    | exact hq.2.2.succ (okAt_true (by omega) (by omega))
    | exact hq.1.2.2.1.succ (okVs_true hq.1.2.2.2 fun i hi => hq.2.2.all i (by omega))
    | (show (_ : Bool) = _; exact (lightAt_big (by omega)).symm)
    | (show (_ : Bool) = _; exact (lightAt_false (k := k) (by omega) (okVs_big (by omega))).symm)
    | (show (_ : Bool) = _; exact (lightAt_false (k := q.1) (by omega) (okVs_false (k := q.2) (by omega) (okAt_l (by omega)))).symm)
    | (show (_ : Bool) = _; exact (lightAt_false (k := q.1) (by omega) (okVs_false (k := q.2) (by omega) (okAt_r (by omega)))).symm)
    | (show (_ : Bool) = _; exact (lightAt_true hk.2.1 fun i hi => hk.2.2.all i (by omega)).symm)
    | (show (_ : Nat) < _; dsimp only; omega)
    | (show (_ : Int) = _; rw [wrap_i64 (by omega) (by omega)]; omega)
    | skip
  all_goals trace_state
  all_goals sorry
end Go.AX
