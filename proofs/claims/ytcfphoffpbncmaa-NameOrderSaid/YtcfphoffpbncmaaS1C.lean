/- What charterlaw09.up answers: true; what it calls, at the arguments that it hands on. -/
import Derived.Test.YtcfphoffpbncmaaS1B
set_option linter.unusedVariables false
set_option linter.unusedSimpArgs false
namespace Go.AX
open Go.Proofs
set_option maxRecDepth 100000
set_option maxHeartbeats 4000000
def SAlike0 : PSpec
  | [.c (.sl _ _ []), .c (.v (.slice none 0 0))] => (True, [.c (.v (.bool true))])
  | _ => (False, [])
def alike0Loop : Sch where
  ι := Unit
  pre _ := True
  sl _ := [(12, .c (.v (.int .i64 0))), (13, .c (.v (.int .i64 0)))]
  μ _ := 0
theorem alike0_vc (e : TypeId) (r : Row) :
    match Try.f19.body with
    | some c => awp EV { loop := fun | 4 => some alike0Loop | _ => none } c (instAll (argSt 0 0 [.c (.sl e r []), .c (.v (.slice none 0 0))]) (emptySt Try.f19.ntmps)) (retK EV Try.f19.results.toList [.c (.v (.bool true))])
    | none => False := by
  unfold Try.f19
  show awp _ _ _ _ _
  repeat' first
    | refine And.intro ?_ ?_
    | (refine fun h => ?_; first | exact ff h | exact tf h | skip)
    | refine Exists.intro () ?_
  all_goals first
    | exact trivial
    | rfl
theorem ok_Alike0 : SpecOk Try.prog 19 SAlike0 := spec_of EV_ok (fn := Try.f19) (by kernel_rfl) (by kernel_rfl) fun args hs => by
  unfold SAlike0 at hs ⊢
  split at hs
  · refine ⟨Nat.le_of_ble_eq_true rfl, _, ?_, alike0_vc _ _⟩
    intro f S h
    cases h
  · exact hs.elim
def SWithin0 : PSpec
  | [.c (.sl _ (.one _) [_]), .c (.v (.slice none 0 0))] => (True, [.c (.v (.bool true))])
  | [.c (.v (.slice none 0 0)), .c (.sl _ (.one _) [_])] => (True, [.c (.v (.bool false))])
  | _ => (False, [])
def within0Cfg : Cfg where
  spec := fun | 19 => some SAlike0 | _ => none
theorem within0a_vc (e : TypeId) (t : Ty) (x : t.den) :
    match Try.f21.body with
    | some c => awp EV within0Cfg c (instAll (argSt 0 0 [.c (.sl e (.one t) [x]), .c (.v (.slice none 0 0))]) (emptySt Try.f21.ntmps)) (retK EV Try.f21.results.toList [.c (.v (.bool true))])
    | none => False := by
  unfold Try.f21
  show awp _ _ _ _ _
  repeat' first
    | refine And.intro ?_ ?_
    | (refine fun h => ?_; first | exact ff h | exact tf h | skip)
    | refine Exists.intro () ?_
  all_goals first
    | exact trivial
    | rfl
    | omega
theorem within0b_vc (e : TypeId) (t : Ty) (x : t.den) :
    match Try.f21.body with
    | some c => awp EV within0Cfg c (instAll (argSt 0 0 [.c (.v (.slice none 0 0)), .c (.sl e (.one t) [x])]) (emptySt Try.f21.ntmps)) (retK EV Try.f21.results.toList [.c (.v (.bool false))])
    | none => False := by
  unfold Try.f21
  show awp _ _ _ _ _
  repeat' first
    | refine And.intro ?_ ?_
    | (refine fun h => ?_; first | exact ff h | exact tf h | skip)
    | refine Exists.intro () ?_
  all_goals first
    | exact trivial
    | rfl
    | omega
theorem ok_Within0 : SpecOk Try.prog 21 SWithin0 := spec_of EV_ok (fn := Try.f21) (by kernel_rfl) (by kernel_rfl) fun args hs => by
  have hc : ∀ f S, within0Cfg.spec f = some S → SpecOk Try.prog f S := by
    intro f S h
    unfold within0Cfg at h
    dsimp only at h
    split at h
    · cases h; exact ok_Alike0
    · cases h
  unfold SWithin0 at hs ⊢
  split at hs
  · exact ⟨Nat.le_of_ble_eq_true rfl, _, hc, within0a_vc _ _ _⟩
  · exact ⟨Nat.le_of_ble_eq_true rfl, _, hc, within0b_vc _ _ _⟩
  · exact hs.elim
def SUp9 : PSpec
  | [] => (True, [.c (.v (.bool true))])
  | _ => (False, [])
theorem up9_str : ((strOfNums (plain [32, 32, 65, 98, 32, 32, 67, 32])).toList == (ByteArray.mk #[97, 98, 32, 99]).toList) = true := by kernel_rfl
def up9Cfg : Cfg where
  spec := fun | 16 => some SPlain | 21 => some SWithin0 | _ => none
theorem up9_vc :
    match Try.f15.body with
    | some c => awp EV up9Cfg c (instAll (argSt 0 0 []) (emptySt Try.f15.ntmps)) (retK EV Try.f15.results.toList [.c (.v (.bool true))])
    | none => False := by
  unfold Try.f15
  show awp _ _ _ _ _
  repeat' first
    | refine And.intro ?_ ?_
    | (refine fun h => ?_; first | exact ff h | exact tf h | skip)
  all_goals first
    | exact trivial
    | rfl
    | (show (8 : Nat) ≤ 140737488351232; omega)
    | exact tf (up9_str.symm.trans (by assumption))
theorem ok_Up9 : SpecOk Try.prog 15 SUp9 := spec_of EV_ok (fn := Try.f15) (by kernel_rfl) (by kernel_rfl) fun args hs => by
  have hc : ∀ f S, up9Cfg.spec f = some S → SpecOk Try.prog f S := by
    intro f S h
    unfold up9Cfg at h
    dsimp only at h
    split at h
    · cases h; exact ok_Plain
    · cases h; exact ok_Within0
    · cases h
  unfold SUp9 at hs ⊢
  split at hs
  · exact ⟨Nat.le_of_ble_eq_true rfl, _, hc, up9_vc⟩
  · exact hs.elim
end Go.AX
