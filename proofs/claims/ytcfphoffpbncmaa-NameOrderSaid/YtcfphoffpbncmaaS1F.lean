/- What slices.Equal and its kin answer at rows of numbers, and bytes.Equal at texts. -/
import Derived.Test.YtcfphoffpbncmaaS1D
set_option linter.unusedVariables false
set_option linter.unusedSimpArgs false
namespace Go.AX
open Go.Proofs
set_option maxRecDepth 100000
set_option maxHeartbeats 4000000
abbrev rU : Row := .one (.int .u32)
def maxL : Nat := 140737488351232
def SEqU : PSpec
  | [.c (.sl _ (.one (.int .u32)) a), .c (.sl _ (.one (.int .u32)) b)] => (a.length ≤ 140737488351232, [.c (.v (.bool (decide (a = b))))])
  | _ => (False, [])
theorem eq_take {a b : List Int} {k : Nat} (hl : a.length = b.length) (h : a.take k = b.take k) (hk : k < a.length) (he : a.getD k 0 = b.getD k 0) : a.take (k + 1) = b.take (k + 1) := by
  rw [List.take_succ_eq_append_getElem hk, List.take_succ_eq_append_getElem (by omega), h]
  simp [List.getD_eq_getElem?_getD, hk, (by omega : k < b.length)] at he
  rw [he]
def equLoop (e e' : TypeId) (a b : List Int) : Sch where
  ι := Nat
  pre k := k ≤ a.length ∧ a.length = b.length ∧ a.take k = b.take k
  sl k := [(0, .c (.sl e rU a)), (1, .c (.sl e' rU b)), (12, .c (.v (.int .i64 a.length))), (13, .c (.v (.int .i64 k)))]
  μ k := a.length - k
theorem equ_vc (e e' : TypeId) (a b : List Int) (hl : a.length ≤ 140737488351232) :
    match Try.f114.body with
    | some c => awp EV { loop := fun | 4 => some (equLoop e e' a b) | _ => none } c (instAll (argSt 0 0 [.c (.sl e rU a), .c (.sl e' rU b)]) (emptySt Try.f114.ntmps)) (retK EV Try.f114.results.toList [.c (.v (.bool (decide (a = b))))])
    | none => False := by
  unfold Try.f114
  show awp _ _ _ _ _
  repeat' first
    | refine And.intro ?_ ?_
    | refine fun (k : Nat) (hk : k ≤ a.length ∧ a.length = b.length ∧ a.take k = b.take k) => ?_
    | (refine fun h => ?_; first | exact ff h | exact tf h | skip)
    | refine Exists.intro (k + 1 : Nat) ?_
    | refine Exists.intro (0 : Nat) ?_
  all_goals try simp only [decide_eq_true_eq, decide_eq_false_iff_not, Bool.not_true, Bool.not_false, Bool.not_eq_true', Bool.not_eq_false', Int.toNat_natCast] at *
  all_goals first
    | exact trivial
    | omega
    | rfl
    | (dsimp only [equLoop]; omega)
    | (show (_ : Int) = _; rw [wrap_i64 (by omega) (by omega)]; omega)
    | exact eq_take hk.2.1 hk.2.2 (by omega) (by assumption)
    | (show false = decide _; refine (decide_eq_false fun e => ?_).symm; subst e; first | omega | contradiction)
    | (show true = decide _; refine (decide_eq_true ?_).symm; have h3 := hk.2.2; rwa [List.take_of_length_le (by omega), List.take_of_length_le (by omega)] at h3)
theorem ok_EqU : SpecOk Try.prog 114 SEqU := spec_of EV_ok (fn := Try.f114) (by kernel_rfl) (by kernel_rfl) fun args hs => by
  unfold SEqU at hs ⊢
  split at hs
  · refine ⟨Nat.le_of_ble_eq_true rfl, _, ?_, equ_vc _ _ _ _ hs⟩
    intro f S h
    cases h
  · exact hs.elim
def req94Loop (e e' : TypeId) (a b : List Int) : Sch where
  ι := Nat
  pre k := k ≤ a.length ∧ a.length = b.length ∧ a.take k = b.take k
  sl k := [(0, .c (.sl e rU a)), (1, .c (.sl e' rU b)), (5, .c (.v (.int .i64 k)))]
  μ k := a.length - k
theorem req94_vc (e e' : TypeId) (a b : List Int) (hl : a.length ≤ 140737488351232) :
    match Try.f94.body with
    | some c => awp EV { loop := fun | 4 => some (req94Loop e e' a b) | _ => none } c (instAll (argSt 0 0 [.c (.sl e rU a), .c (.sl e' rU b)]) (emptySt Try.f94.ntmps)) (retK EV Try.f94.results.toList [.c (.v (.bool (decide (a = b))))])
    | none => False := by
  unfold Try.f94
  show awp _ _ _ _ _
  repeat' first
    | refine And.intro ?_ ?_
    | refine fun (k : Nat) (hk : k ≤ a.length ∧ a.length = b.length ∧ a.take k = b.take k) => ?_
    | (refine fun h => ?_; first | exact ff h | exact tf h | skip)
    | refine Exists.intro (k + 1 : Nat) ?_
    | refine Exists.intro (0 : Nat) ?_
  all_goals try simp only [decide_eq_true_eq, decide_eq_false_iff_not, Bool.not_true, Bool.not_false, Bool.not_eq_true', Bool.not_eq_false', Int.toNat_natCast] at *
  all_goals first
    | exact trivial
    | omega
    | rfl
    | (dsimp only [req94Loop]; omega)
    | (show (_ : Int) = _; rw [wrap_i64 (by omega) (by omega)]; omega)
    | exact eq_take hk.2.1 hk.2.2 (by omega) (by assumption)
    | (show false = decide _; refine (decide_eq_false fun e => ?_).symm; subst e; first | omega | contradiction)
    | (show true = decide _; refine (decide_eq_true ?_).symm; have h3 := hk.2.2; rwa [List.take_of_length_le (by omega), List.take_of_length_le (by omega)] at h3)
theorem ok_REqU : SpecOk Try.prog 94 SEqU := spec_of EV_ok (fn := Try.f94) (by kernel_rfl) (by kernel_rfl) fun args hs => by
  unfold SEqU at hs ⊢
  split at hs
  · refine ⟨Nat.le_of_ble_eq_true rfl, _, ?_, req94_vc _ _ _ _ hs⟩
    intro f S h
    cases h
  · exact hs.elim
def txtEq (a b : List Int) : Bool := (strOfNums a).toList == (strOfNums b).toList
def SEqB : PSpec
  | [.c (.sl _ (.one (.int .u8)) a), .c (.sl _ (.one (.int .u8)) b)] => (True, [.c (.v (.bool (txtEq a b)))])
  | _ => (False, [])
theorem eqb_vc (e e' : TypeId) (a b : List Int) :
    match Try.f115.body with
    | some c => awp EV {} c (instAll (argSt 0 0 [.c (.sl e rB a), .c (.sl e' rB b)]) (emptySt Try.f115.ntmps)) (retK EV Try.f115.results.toList [.c (.v (.bool (txtEq a b)))])
    | none => False := by
  unfold Try.f115
  show awp _ _ _ _ _
  repeat' first
    | refine And.intro ?_ ?_
    | (refine fun h => ?_; first | exact ff h | exact tf h | skip)
  all_goals first
    | exact trivial
    | rfl
theorem ok_EqB : SpecOk Try.prog 115 SEqB := spec_of EV_ok (fn := Try.f115) (by kernel_rfl) (by kernel_rfl) fun args hs => by
  unfold SEqB at hs ⊢
  split at hs
  · refine ⟨Nat.le_of_ble_eq_true rfl, _, ?_, eqb_vc _ _ _ _⟩
    intro f S h
    cases h
  · exact hs.elim
/-! ### name.like, and the function value made of it -/
abbrev rA : Row := .cons (.sl 111 rU) (.cons (.int .u8) (.one (.sl 5 rB)))
abbrev rN : Row := .one (.sl 88 rA)
abbrev Att := List Int × Int × List Int
def like (x y : Att) : Bool := decide (x.1 = y.1) && txtEq (plain x.2.2) (plain y.2.2)
def AttOk (x : Att) : Prop := x.1.length ≤ 140737488351232 ∧ x.2.2.length ≤ 140737488351232
def SLike : PSpec
  | [.agg [.sl _ (.one (.int .u32)) t, .v (.int .u8 m), .sl _ (.one (.int .u8)) v], .agg [.sl _ (.one (.int .u32)) t', .v (.int .u8 m'), .sl _ (.one (.int .u8)) v']] =>
    (AttOk (t, m, v) ∧ AttOk (t', m', v'), [.c (.v (.bool (like (t, m, v) (t', m', v'))))])
  | _ => (False, [])
def likeCfg : Cfg where
  spec := fun | 114 => some SEqU | 16 => some SPlain | 115 => some SEqB | _ => none
theorem like_vc (e1 e2 e3 e4 : TypeId) (t : List Int) (m : Int) (v t' : List Int) (m' : Int) (v' : List Int) (hA : AttOk (t, m, v)) (hB : AttOk (t', m', v')) :
    match Try.f97.body with
    | some c => awp EV likeCfg c (instAll (argSt 0 0 [.agg [.sl e1 rU t, .v (.int .u8 m), .sl e2 rB v], .agg [.sl e3 rU t', .v (.int .u8 m'), .sl e4 rB v']]) (emptySt Try.f97.ntmps)) (retK EV Try.f97.results.toList [.c (.v (.bool (like (t, m, v) (t', m', v'))))])
    | none => False := by
  unfold Try.f97
  show awp _ _ _ _ _
  repeat' first
    | refine And.intro ?_ ?_
    | (refine fun h => ?_; first | exact ff h | exact tf h | skip)
  all_goals try simp only [decide_eq_true_eq, decide_eq_false_iff_not, Bool.not_true, Bool.not_false] at *
  all_goals first
    | exact trivial
    | rfl
    | exact hA.1
    | exact hA.2
    | exact hB.2
    | (show (_ : Bool) = _; simp [like, *])
theorem likeCfg_ok : ∀ f S, likeCfg.spec f = some S → SpecOk Try.prog f S := by
  intro f S h
  unfold likeCfg at h
  dsimp only at h
  split at h
  · cases h; exact ok_EqU
  · cases h; exact ok_Plain
  · cases h; exact ok_EqB
  · cases h
theorem ok_Like : SpecOk Try.prog 97 SLike := spec_of EV_ok (fn := Try.f97) (by kernel_rfl) (by kernel_rfl) fun args hs => by
  unfold SLike at hs ⊢
  split at hs
  · exact ⟨Nat.le_of_ble_eq_true rfl, _, likeCfg_ok, like_vc _ _ _ _ _ _ _ _ _ _ hs.1 hs.2⟩
  · exact hs.elim
/-- covers' function value: is this element like the captured one? -/
def SLikeC : PSpec
  | [.agg [.sl _ (.one (.int .u32)) t, .v (.int .u8 m), .sl _ (.one (.int .u8)) v], .c (.rptr (.cons (.sl 111 (.one (.int .u32))) (.cons (.int .u8) (.one (.sl 5 (.one (.int .u8)))))) [x] 0 0)] =>
    (AttOk (t, m, v) ∧ AttOk x, [.c (.v (.bool (like x (t, m, v))))])
  | _ => (False, [])
theorem likec_vc (e1 e2 : TypeId) (t : List Int) (m : Int) (v : List Int) (x : Att) (hA : AttOk (t, m, v)) (hB : AttOk x) :
    match Try.f96.body with
    | some c => awp EV { spec := fun | 97 => some SLike | _ => none } c (instAll (argSt 0 0 [.agg [.sl e1 rU t, .v (.int .u8 m), .sl e2 rB v], .c (.rptr rA [x] 0 0)]) (emptySt Try.f96.ntmps)) (retK EV Try.f96.results.toList [.c (.v (.bool (like x (t, m, v))))])
    | none => False := by
  unfold Try.f96
  show awp _ _ _ _ _
  repeat' first
    | refine And.intro ?_ ?_
    | (refine fun h => ?_; first | exact ff h | exact tf h | skip)
  all_goals first
    | exact trivial
    | rfl
    | exact hA.1
    | exact hA.2
    | exact hB.1
    | exact hB.2
theorem ok_LikeC : SpecOk Try.prog 96 SLikeC := spec_of EV_ok (fn := Try.f96) (by kernel_rfl) (by kernel_rfl) fun args hs => by
  unfold SLikeC at hs ⊢
  split at hs
  · refine ⟨Nat.le_of_ble_eq_true rfl, _, ?_, likec_vc _ _ _ _ _ _ hs.1 hs.2⟩
    intro f S h
    dsimp only at h
    split at h
    · cases h; exact ok_Like
    · cases h
  · exact hs.elim
end Go.AX
