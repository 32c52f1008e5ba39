/- Layer 7: charterlaw07.up answers true. -/
import Derived.Test.YtcfphoffpbncmaaS2U
set_option linter.unusedVariables false
set_option linter.unusedSimpArgs false
namespace Go.AX
open Go.Proofs
set_option maxRecDepth 100000
set_option maxHeartbeats 4000000
def lvOkB (lv : List (Int × List Int)) : Bool := decide (0 < lv.length) && (decide (lv.length ≤ 30) && lv.all fun x => decide (x.2.length ≤ 65535) && (decide (0 ≤ x.1) && (decide (x.1 < 256) && mk7 x.1)))
theorem lvOk_of {lv : List (Int × List Int)} (h : lvOkB lv = true) : LvOk lv cap7 := by
  unfold lvOkB at h
  rw [Bool.and_eq_true, Bool.and_eq_true, List.all_eq_true] at h
  refine ⟨of_decide_eq_true h.1, of_decide_eq_true h.2.1, fun x hx => ?_⟩
  have h3 := h.2.2 x hx
  rw [Bool.and_eq_true, Bool.and_eq_true, Bool.and_eq_true] at h3
  exact ⟨Nat.le_trans (of_decide_eq_true h3.1) (by decide), ⟨of_decide_eq_true h3.2.1, of_decide_eq_true h3.2.2.1⟩, h3.2.2.2⟩
def SUp7 : PSpec
  | [] => (True, [.c (.v (.bool true))])
  | _ => (False, [])
def up7Cfg : Cfg where
  spec := fun | 27 => some SNewWriter | _ => none
  isp := fun | 30 => some SPut | 32 => some SOpen | 34 => some SClose | 36 => some SBytes | 39 => some SNewReader | 59 => some STake0 | _ => none
theorem up7Cfg_ok : SpsOk Try.prog up7Cfg.sp := by
  constructor
  · intro f s h
    dsimp only [Cfg.sp, up7Cfg] at h
    split at h
    · cases h; exact ok_NewWriter
    · cases h
  · intro f s h
    dsimp only [Cfg.sp, up7Cfg] at h
    split at h
    · cases h; exact ok_Put
    · cases h; exact ok_Open
    · cases h; exact ok_Close
    · cases h; exact ok_Bytes
    · cases h; exact ok_NewReader
    · cases h; exact ok_Take0
    · cases h
abbrev up7A : Wr := Wr.opn ⟨[(0, [])], 0⟩ 48
abbrev up7B : Wr := Wr.put ⟨up7A.lv, up7A.er⟩ 2 [5]
abbrev up7C : Wr := Wr.cls ⟨up7B.lv, up7B.er⟩
theorem up7_code : decide (Wr.code ⟨up7C.lv, up7C.er⟩ = 0) = true := by decide +kernel
theorem up7_out : Wr.out ⟨up7C.lv, up7C.er⟩ = [48, 3, 2, 1, 5] := by decide +kernel
theorem up7_str : ((strOfNums (Wr.out ⟨up7C.lv, up7C.er⟩)).toList == (ByteArray.mk #[48, 3, 2, 1, 5]).toList) = true := by
  rw [up7_out]
  kernel_rfl
theorem up7_vc :
    match Try.f23.body with
    | some c => awp EV up7Cfg c (instAll (argSt 0 0 []) (emptySt Try.f23.ntmps)) (retK EV Try.f23.results.toList [.c (.v (.bool true))])
    | none => False := by
  unfold Try.f23
  show awp _ _ _ _ _
  repeat' first
    | refine And.intro ?_ ?_
    | (refine fun h => ?_; first | exact ff h | exact tf h | skip)
  all_goals first
    | exact trivial
    | with_reducible rfl
    | (with_reducible show U8 _
       exact ⟨by decide, by decide⟩)
    | (with_reducible show LvOk _ _
       exact lvOk_of (by decide +kernel))
    | (with_reducible show lentOk _ _ _ _ = true
       rfl)
    | (with_reducible show EV.ifc _ = true
       rfl)
    | exact .inl rfl
    | exact .inr (.inl (by decide))
    | omega
    | exact tf (up7_code.symm.trans ‹_›)
    | exact tf (up7_str.symm.trans ‹_›)
    | (show (decide ((2:Int) = 2)) = true
       rfl)
    | (show _ ≤ cap7
       decide +kernel)
    | exact lvOk_of (by decide +kernel)
    | trace_state
end Go.AX
