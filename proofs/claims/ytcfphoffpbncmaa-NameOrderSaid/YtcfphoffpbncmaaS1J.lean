/- What charterlaw09.NameAlike answers: true, for every two names that memory can hold. -/
import Derived.Test.YtcfphoffpbncmaaS1I
import Derived.Test.YtcfphoffpbncmaaAXA18
set_option linter.unusedVariables false
set_option linter.unusedSimpArgs false
namespace Go.AX
open Go.Proofs
set_option maxRecDepth 100000
set_option maxHeartbeats 4000000
theorem ok_Light : SpecOk Try.prog 18 SLight := spec_of EV_ok (fn := Try.f18) (by kernel_rfl) (by kernel_rfl) fun args hs => by
  unfold SLight at hs ⊢
  split at hs
  · refine ⟨Nat.le_of_ble_eq_true rfl, _, ?_, light_vc _ _ hs⟩
    intro f S h
    cases h
  · exact hs.elim
def SNameAlike : PSpec
  | [.c (.sl _ (.one (.sl 88 (.cons (.sl 111 (.one (.int .u32))) (.cons (.int .u8) (.one (.sl 5 (.one (.int .u8)))))))) a), .c (.sl _ (.one (.sl 88 (.cons (.sl 111 (.one (.int .u32))) (.cons (.int .u8) (.one (.sl 5 (.one (.int .u8)))))))) b)] =>
    (NmOk a ∧ NmOk b, [.c (.v (.bool true))])
  | _ => (False, [])
def nameAlikeCfg : Cfg where
  spec := fun | 15 => some SUp9 | 18 => some SLight | 19 => some SAlike | 20 => some SAlike | 21 => some SWithin | 22 => some SWithin | _ => none
theorem beq_self_b (x : Bool) : (x == x) = true := by cases x <;> rfl
theorem nameAlike_vc (e e' : TypeId) (a b : List (List Att)) (hA : NmOk a) (hB : NmOk b) :
    match Try.f4.body with
    | some c => awp EV nameAlikeCfg c (instAll (argSt 0 0 [.c (.sl e rN a), .c (.sl e' rN b)]) (emptySt Try.f4.ntmps)) (retK EV Try.f4.results.toList [.c (.v (.bool true))])
    | none => False := by
  unfold Try.f4
  show awp _ _ _ _ _
  repeat' first
    | refine And.intro ?_ ?_
    | (refine fun h => ?_; first | exact ff h | exact tf h | skip)
  all_goals first
    | exact trivial
    | rfl
    | exact hA
    | exact hB
    | (show (_ == _) = true; exact beq_self_b _)
    | exact tf ((beq_self_b _).symm.trans (by assumption))
theorem ok_NameAlike : SpecOk Try.prog 4 SNameAlike := spec_of EV_ok (fn := Try.f4) (by kernel_rfl) (by kernel_rfl) fun args hs => by
  unfold SNameAlike at hs ⊢
  split at hs
  · refine ⟨Nat.le_of_ble_eq_true rfl, _, ?_, nameAlike_vc _ _ _ _ hs.1 hs.2⟩
    intro f S h
    unfold nameAlikeCfg at h
    dsimp only at h
    split at h
    · cases h; exact ok_Up9
    · cases h; exact ok_Light
    · cases h; exact ok_Alike
    · cases h; exact ok_RAlike
    · cases h; exact ok_Within
    · cases h; exact ok_RWithin
    · cases h
  · exact hs.elim
theorem fits_name : (Ty.sl 89 rN).fits Try.prog 27 := by
  simp only [Ty.fits, Row.fits, Row.fitsF]
  refine ⟨by kernel_rfl, by kernel_rfl, of_decide_eq_true (by kernel_rfl), by kernel_rfl, by kernel_rfl, of_decide_eq_true (by kernel_rfl), fieldsOf Try.t87.desc, _, _, by kernel_rfl, rfl, by kernel_rfl, by kernel_rfl, ⟨by kernel_rfl, by kernel_rfl, of_decide_eq_true (by kernel_rfl), by kernel_rfl⟩, _, _, rfl, by kernel_rfl, by kernel_rfl, by kernel_rfl, _, rfl, by kernel_rfl, by kernel_rfl, by kernel_rfl, by kernel_rfl, of_decide_eq_true (by kernel_rfl), by kernel_rfl⟩
theorem NmOk_of_wf {a : List (List Att)} (h : (Ty.sl 89 rN).wf a) : NmOk a := by
  simp only [Ty.wf, Row.wf] at h
  exact ⟨h.1, fun x hx => ⟨(h.2 x hx).1, fun y hy => ⟨((h.2 x hx).2 y hy).1.1, ((h.2 x hx).2 y hy).2.2.1⟩⟩⟩
end Go.AX
