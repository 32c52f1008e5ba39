/- Layer 7: the document's examples: what charterlaw07.up answers. -/
import Derived.Test.YtcfphoffpbncmaaS2D
set_option linter.unusedVariables false
set_option linter.unusedSimpArgs false
namespace Go.AX
open Go.Proofs
set_option maxRecDepth 100000
set_option maxHeartbeats 4000000
/-- head at the document's example. -/
def SHd0 : ISpec where
  md := [.bor rB]
  S := fun
    | [.c (.bs (.one (.int .u8)) [2, 129, 1, 5])] => (True, [.c (.v (.int .i64 0)), .c (.v (.int .i64 0)), .c (.v (.bool false))], [])
    | _ => (False, [], [])
def hd0Loop : Sch where
  ι := Nat
  pre k := k ≤ 1
  sl k := [(0, .c (.bs rB [2, 129, 1, 5])), (5, .c (.v (.int .i64 3))), (7, .c (.v (.int .i64 1))), (45, .c (.bs rB [1])), (46, .c (.v (.int .i64 1))), (47, .c (.v (.int .i64 k))), (6, .c (.v (.int .i64 (if k = 0 then 0 else 1))))]
  μ k := 1 - k
def hd0Cfg : Cfg where
  spec := fun | 60 => some SMark | _ => none
  loop := fun | 10 => some hd0Loop | _ => none
theorem hd0Cfg_ok : SpsOk Try.prog hd0Cfg.sp := by
  constructor
  · intro f s h
    dsimp only [Cfg.sp, hd0Cfg] at h
    split at h
    · cases h; exact ok_Valid
    · cases h
  · intro f s h
    cases h
theorem rB0 : [2, 129, 1, 5].getD (Int.toNat 1) rB.zero = 129 := by decide
theorem hd0_vc : awp EV hd0Cfg (Try.f98.body.get rfl) (instAll (argSt 0 0 [.c (.bs rB [2, 129, 1, 5])]) (emptySt Try.f98.ntmps)) (iretK EV Try.f98.results.toList SHd0.md ([.c (.v (.int .i64 0)), .c (.v (.int .i64 0)), .c (.v (.bool false))], [])) := by
  unfold Try.f98
  repeat' first
    | refine And.intro ?_ ?_
    | refine fun (k : Nat) (hk : k ≤ 1) => ?_
    | (refine fun h => ?_; first | exact ff h | exact tf h | skip)
    | refine Exists.intro (k + 1 : Nat) ?_
    | refine Exists.intro (0 : Nat) ?_
  all_goals try simp only [decide_eq_true_eq, decide_eq_false_iff_not, Bool.not_eq_true', Bool.not_eq_false', Bool.not_true, Bool.not_false, List.length_cons, List.length_nil] at *
  all_goals first
    | exact trivial
    | with_reducible rfl
    | omega
    | exact (⟨by decide, by decide⟩ : U8 2)
    | (with_reducible show (2:Int) ≤ IntKind.i64.wrap _
       decide +kernel)
    | (with_reducible show valEq _ _
       show IntKind.i64.wrap ((k:Int) + 1) = _; rw [wrap_i64 (by omega) (by omega)]; omega)
    | (with_reducible show valEq _ _
       rfl)
    | (with_reducible show valEq _ _
       obtain rfl : k = 0 := by omega
       show (_ : Int) = _; decide +kernel)
    | (with_reducible show _ = _
       rfl)
    | (with_reducible show rowEq _ _ _ _
       rfl)
    | (show (_ : Nat) ≤ 1; omega)
    | (show (1 - (k + 1) : Nat) < 1 - k; omega)
theorem ok_Hd0 : ISpecOk Try.prog 98 SHd0 := ispec_of EV_ok (fn := Try.f98) (by kernel_rfl) (by kernel_rfl) (c := Try.f98.body.get rfl) rfl (by decide +kernel) (Nat.le_of_ble_eq_true rfl) (fun args hs hl => by
  unfold SHd0 at hs ⊢
  dsimp only at hs ⊢
  split at hs
  · exact ⟨_, hd0Cfg_ok, hd0_vc⟩
  · exact hs.elim) (fun args hs => by
  unfold SHd0 at hs ⊢
  dsimp only at hs ⊢
  split at hs
  · rfl
  · exact hs.elim)
/-- Take there. -/
def STake0 : ISpec where
  md := [.box, .raw]
  S := fun
    | [.box 103 [.sl _ (.one (.int .u8)) [2, 129, 1, 5], .v (.int .i64 0), .own 3 (.one (.int .i64)) [4]], .c (.v (.int .u8 2))] => (True, [.c (.own 5 rB []), .c (.er 36 2)], [RBox [2, 129, 1, 5] 0 [4]])
    | _ => (False, [], [])
def take0Cfg : Cfg where
  spec := fun | 61 => some SIsWh | _ => none
  isp := fun | 70 => some SLeft | 98 => some SHd0 | 66 => some SClone | _ => none
theorem take0Cfg_ok : SpsOk Try.prog take0Cfg.sp := by
  constructor
  · intro f s h
    dsimp only [Cfg.sp, take0Cfg] at h
    split at h
    · cases h; exact ok_IsWhole
    · cases h
  · intro f s h
    dsimp only [Cfg.sp, take0Cfg] at h
    split at h
    · cases h; exact ok_Left
    · cases h; exact ok_Hd0
    · cases h; exact ok_Clone
    · cases h
theorem rd0 : RdOk [2, 129, 1, 5] 0 [4] := ⟨by decide, by decide, by decide, by decide, by decide, by decide⟩
theorem take0_vc {e : TypeId} : awp EV take0Cfg (Try.f59.body.get rfl) (instAll (argSt 0 0 [.box 103 [.sl e rB [2, 129, 1, 5], .v (.int .i64 0), .own 3 rI [4]], .c (.v (.int .u8 2))]) (emptySt Try.f59.ntmps)) (iretK EV Try.f59.results.toList STake0.md ([.c (.own 5 rB []), .c (.er 36 2)], [RBox [2, 129, 1, 5] 0 [4]])) := by
  unfold Try.f59
  repeat' first
    | refine And.intro ?_ ?_
    | (refine fun h => ?_; first | exact ff h | exact tf h | skip)
  all_goals first
    | exact trivial
    | exact rd0
    | with_reducible rfl
    | omega
    | exact (⟨by decide, by decide⟩ : U8 2)
    | (with_reducible show valEq _ _
       rfl)
    | (with_reducible show _ = _
       rfl)
    | (with_reducible show rowEq _ _ _ _
       rfl)
    | (with_reducible show (0:Int) < _
       decide +kernel)
    | (show (0:Int) = 0
       rfl)
theorem ok_Take0 : ISpecOk Try.prog 59 STake0 := ispec_of EV_ok (fn := Try.f59) (by kernel_rfl) (by kernel_rfl) (c := Try.f59.body.get rfl) rfl (by decide +kernel) (Nat.le_of_ble_eq_true rfl) (fun args hs hl => by
  unfold STake0 at hs ⊢
  dsimp only at hs ⊢
  split at hs
  · exact ⟨_, take0Cfg_ok, take0_vc⟩
  · exact hs.elim) (fun args hs => by
  unfold STake0 at hs ⊢
  dsimp only at hs ⊢
  split at hs
  · rfl
  · exact hs.elim)
end Go.AX
