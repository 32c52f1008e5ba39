/- What name.covers and name.Alike answer, and their kin charterref09.has and Alike. -/
import Derived.Test.YtcfphoffpbncmaaS1F
set_option linter.unusedVariables false
set_option linter.unusedSimpArgs false
namespace Go.AX
open Go.Proofs
set_option maxRecDepth 100000
set_option maxHeartbeats 4000000
structure VsOk (xs : List Att) : Prop where
  len : xs.length ≤ 140737488351232
  all : ∀ x, x ∈ xs → AttOk x
theorem VsOk.get {xs : List Att} (h : VsOk xs) {k : Nat} (hk : k < xs.length) (d : Att) : AttOk (xs.getD k d) := by
  rw [List.getD_eq_getElem?_getD, List.getElem?_eq_getElem hk]
  exact h.all _ (List.getElem_mem hk)
/-- The first place where the function value says yes. -/
def firstLike (x : Att) (xs : List Att) : Int := if xs.any (like x) then (xs.findIdx (like x) : Int) else -1
def SIndex : PSpec
  | [.c (.sl _ (.cons (.sl 111 (.one (.int .u32))) (.cons (.int .u8) (.one (.sl 5 (.one (.int .u8)))))) xs), .c (.clo 96 (.cons (.sl 111 (.one (.int .u32))) (.cons (.int .u8) (.one (.sl 5 (.one (.int .u8)))))) x)] =>
    (VsOk xs ∧ AttOk x, [.c (.v (.int .i64 (firstLike x xs)))])
  | _ => (False, [])
theorem first_none {x : Att} {xs : List Att} (h : ∀ i, i < xs.length → like x (xs.getD i ([], 0, [])) = false) : firstLike x xs = -1 := by
  unfold firstLike
  rw [if_neg]
  intro ha
  obtain ⟨y, hy, hl⟩ := List.any_eq_true.1 ha
  obtain ⟨i, hi⟩ := List.getElem?_of_mem hy
  have := h i (List.getElem?_eq_some_iff.1 hi).1
  rw [List.getD_eq_getElem?_getD, hi] at this
  simp [hl] at this
theorem first_at {x : Att} {xs : List Att} {k : Nat} (hk : k < xs.length) (h : ∀ i, i < k → like x (xs.getD i ([], 0, [])) = false) (hl : like x (xs.getD k ([], 0, [])) = true) : firstLike x xs = k := by
  rw [List.getD_eq_getElem?_getD, List.getElem?_eq_getElem hk] at hl
  unfold firstLike
  rw [if_pos (List.any_eq_true.2 ⟨_, List.getElem_mem hk, hl⟩)]
  congr 1
  rw [List.findIdx_eq hk]
  exact ⟨hl, fun j hj => by
    have := h j hj
    rw [List.getD_eq_getElem?_getD, List.getElem?_eq_getElem (by omega)] at this
    exact this⟩
def indexLoop (e : TypeId) (xs : List Att) (x : Att) : Sch where
  ι := Nat
  pre k := k ≤ xs.length ∧ ∀ i, i < k → like x (xs.getD i ([], 0, [])) = false
  sl k := [(0, .c (.sl e rA xs)), (1, .c (.clo 96 rA x)), (7, .c (.v (.int .i64 xs.length))), (8, .c (.v (.int .i64 k)))]
  μ k := xs.length - k
theorem index_vc (e : TypeId) (xs : List Att) (x : Att) (hA : VsOk xs) (hB : AttOk x) :
    match Try.f113.body with
    | some c => awp EV { spec := fun | 96 => some SLikeC | _ => none, loop := fun | 2 => some (indexLoop e xs x) | _ => none } c (instAll (argSt 0 0 [.c (.sl e rA xs), .c (.clo 96 rA x)]) (emptySt Try.f113.ntmps)) (retK EV Try.f113.results.toList [.c (.v (.int .i64 (firstLike x xs)))])
    | none => False := by
  unfold Try.f113
  show awp _ _ _ _ _
  have hA1 := hA.len
  repeat' first
    | refine And.intro ?_ ?_
    | refine fun (k : Nat) (hk : k ≤ xs.length ∧ ∀ i, i < k → like x (xs.getD i ([], 0, [])) = false) => ?_
    | (refine fun h => ?_; first | exact ff h | exact tf h | skip)
    | refine Exists.intro (k + 1 : Nat) ?_
    | refine Exists.intro (0 : Nat) ?_
  all_goals try simp only [decide_eq_true_eq, decide_eq_false_iff_not, Bool.not_true, Bool.not_false, Bool.not_eq_true', Bool.not_eq_false', Int.toNat_natCast] at *
  all_goals first
    | exact trivial
    | omega
    | rfl
    | (dsimp only [indexLoop]; omega)
    | (show (_ : Int) = _; rw [wrap_i64 (by omega) (by omega)]; omega)
    | exact (hA.get (by omega) _).1
    | exact (hA.get (by omega) _).2
    | exact hB.1
    | exact hB.2
    | (show (_ : Int) = _; exact (first_at (by omega) hk.2 (by assumption)).symm)
    | (show (_ : Int) = _; exact (first_none fun i hi => hk.2 i (by omega)).symm)
    | (rename_i j hj; by_cases e : j = k
       · subst e; assumption
       · exact hk.2 j (by omega))
theorem ok_Index : SpecOk Try.prog 113 SIndex := spec_of EV_ok (fn := Try.f113) (by kernel_rfl) (by kernel_rfl) fun args hs => by
  unfold SIndex at hs ⊢
  split at hs
  · refine ⟨Nat.le_of_ble_eq_true rfl, _, ?_, index_vc _ _ _ hs.1 hs.2⟩
    intro f S h
    dsimp only at h
    split at h
    · cases h; exact ok_LikeC
    · cases h
  · exact hs.elim
def SContains : PSpec
  | [.c (.sl _ (.cons (.sl 111 (.one (.int .u32))) (.cons (.int .u8) (.one (.sl 5 (.one (.int .u8)))))) xs), .c (.clo 96 (.cons (.sl 111 (.one (.int .u32))) (.cons (.int .u8) (.one (.sl 5 (.one (.int .u8)))))) x)] =>
    (VsOk xs ∧ AttOk x, [.c (.v (.bool (xs.any (like x))))])
  | _ => (False, [])
theorem first_ge (x : Att) (xs : List Att) : decide (0 ≤ firstLike x xs) = xs.any (like x) := by
  unfold firstLike
  split <;> simp_all <;> omega
theorem contains_vc (e : TypeId) (xs : List Att) (x : Att) (hA : VsOk xs) (hB : AttOk x) :
    match Try.f95.body with
    | some c => awp EV { spec := fun | 113 => some SIndex | _ => none } c (instAll (argSt 0 0 [.c (.sl e rA xs), .c (.clo 96 rA x)]) (emptySt Try.f95.ntmps)) (retK EV Try.f95.results.toList [.c (.v (.bool (xs.any (like x))))])
    | none => False := by
  unfold Try.f95
  show awp _ _ _ _ _
  refine And.intro ⟨hA, hB⟩ (And.intro ?_ ?_)
  · exact first_ge x xs
  · exact trivial
theorem ok_Contains : SpecOk Try.prog 95 SContains := spec_of EV_ok (fn := Try.f95) (by kernel_rfl) (by kernel_rfl) fun args hs => by
  unfold SContains at hs ⊢
  split at hs
  · refine ⟨Nat.le_of_ble_eq_true rfl, _, ?_, contains_vc _ _ _ hs.1 hs.2⟩
    intro f S h
    dsimp only at h
    split at h
    · cases h; exact ok_Index
    · cases h
  · exact hs.elim
/-- Is each of these like one of those? -/
def covers (xs ys : List Att) : Bool := xs.all fun x => ys.any (like x)
theorem covers_true {xs ys : List Att} (h : ∀ i, i < xs.length → ys.any (like (xs.getD i ([], 0, []))) = true) : covers xs ys = true := by
  refine List.all_eq_true.2 fun x hx => ?_
  obtain ⟨i, hi⟩ := List.getElem?_of_mem hx
  have := h i (List.getElem?_eq_some_iff.1 hi).1
  rwa [List.getD_eq_getElem?_getD, hi] at this
theorem covers_false {xs ys : List Att} {k : Nat} (hk : k < xs.length) (h : ys.any (like (xs.getD k ([], 0, []))) = false) : covers xs ys = false := by
  cases hc : covers xs ys with
  | false => rfl
  | true =>
    have := List.all_eq_true.1 hc _ (List.getElem_mem hk)
    rw [List.getD_eq_getElem?_getD, List.getElem?_eq_getElem hk] at h
    exact (Bool.false_ne_true (h.symm.trans this)).elim
def SCovers : PSpec
  | [.c (.sl _ (.cons (.sl 111 (.one (.int .u32))) (.cons (.int .u8) (.one (.sl 5 (.one (.int .u8)))))) xs), .c (.sl _ (.cons (.sl 111 (.one (.int .u32))) (.cons (.int .u8) (.one (.sl 5 (.one (.int .u8)))))) ys)] =>
    (VsOk xs ∧ VsOk ys, [.c (.v (.bool (covers xs ys)))])
  | _ => (False, [])
def coversLoop (e e' : TypeId) (xs ys : List Att) : Sch where
  ι := Nat
  pre k := k ≤ xs.length ∧ ∀ i, i < k → ys.any (like (xs.getD i ([], 0, []))) = true
  sl k := [(7, .c (.sl e rA xs)), (1, .c (.sl e' rA ys)), (8, .c (.v (.int .i64 xs.length))), (9, .c (.v (.int .i64 k)))]
  μ k := xs.length - k
theorem covers_vc (e e' : TypeId) (xs ys : List Att) (hA : VsOk xs) (hB : VsOk ys) :
    match Try.f57.body with
    | some c => awp EV { spec := fun | 95 => some SContains | _ => none, loop := fun | 2 => some (coversLoop e e' xs ys) | _ => none } c (instAll (argSt 0 0 [.c (.sl e rA xs), .c (.sl e' rA ys)]) (emptySt Try.f57.ntmps)) (retK EV Try.f57.results.toList [.c (.v (.bool (covers xs ys)))])
    | none => False := by
  unfold Try.f57
  show awp _ _ _ _ _
  have hA1 := hA.len
  repeat' first
    | refine And.intro ?_ ?_
    | refine fun (k : Nat) (hk : k ≤ xs.length ∧ ∀ i, i < k → ys.any (like (xs.getD i ([], 0, []))) = true) => ?_
    | (refine fun h => ?_; first | exact ff h | exact tf h | skip)
    | refine Exists.intro (k + 1 : Nat) ?_
    | refine Exists.intro (0 : Nat) ?_
  all_goals try simp only [decide_eq_true_eq, decide_eq_false_iff_not, Bool.not_true, Bool.not_false, Bool.not_eq_true', Bool.not_eq_false', Int.toNat_natCast] at *
  all_goals first
    | exact trivial
    | omega
    | rfl
    | (dsimp only [coversLoop]; omega)
    | (show (_ : Int) = _; rw [wrap_i64 (by omega) (by omega)]; omega)
    | exact (hA.get (by omega) _).1
    | exact (hA.get (by omega) _).2
    | exact hB
    | (show (_ : Bool) = _; exact (covers_false (k := k) (by omega) (by assumption)).symm)
    | (show (_ : Bool) = _; exact (covers_true fun i hi => hk.2 i (by omega)).symm)
    | (rename_i j hj _; by_cases e : j = k
       · subst e; assumption
       · exact hk.2 j (by omega))
theorem ok_Covers : SpecOk Try.prog 57 SCovers := spec_of EV_ok (fn := Try.f57) (by kernel_rfl) (by kernel_rfl) fun args hs => by
  unfold SCovers at hs ⊢
  split at hs
  · refine ⟨Nat.le_of_ble_eq_true rfl, _, ?_, covers_vc _ _ _ _ hs.1 hs.2⟩
    intro f S h
    dsimp only at h
    split at h
    · cases h; exact ok_Contains
    · cases h
  · exact hs.elim
end Go.AX
