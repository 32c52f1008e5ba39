/- Layer 7: charterlaw07.TlvHeads answers true. -/
import Derived.Test.YtcfphoffpbncmaaS2V
set_option linter.unusedVariables false
set_option linter.unusedSimpArgs false
namespace Go.AX
open Go.Proofs
set_option maxRecDepth 100000
set_option maxHeartbeats 4000000
theorem ok_Up7 : SpecOk Try.prog 23 SUp7 := pspec_of EV_ok (fn := Try.f23) (by kernel_rfl) (by kernel_rfl) fun args hs => by
  unfold SUp7 at hs ⊢
  split at hs
  · exact ⟨Nat.le_of_ble_eq_true rfl, _, up7Cfg_ok, up7_vc⟩
  · exact hs.elim
def STlvHeads : PSpec
  | [.c (.v (.int .u8 m)), .c (.v (.int .i64 n))] => (U8 m ∧ I64 n, [.c (.v (.bool true))])
  | _ => (False, [])
def headsCfg : Cfg where
  spec := fun | 23 => some SUp7 | 24 => some SHead | 25 => some SMark | 26 => some SRHead | _ => none
theorem headsCfg_ok : SpsOk Try.prog headsCfg.sp := by
  constructor
  · intro f s h
    dsimp only [Cfg.sp, headsCfg] at h
    split at h
    · cases h; exact ok_Up7
    · cases h; exact ok_Head
    · cases h; exact ok_RMark
    · cases h; exact ok_RHead
    · cases h
  · intro f s h
    cases h
theorem hcode1 {m n : Int} (h : mk7 m = false) : hcode m n = 1 := by unfold hcode; rw [if_pos (.inl h)]
theorem hcode2 {m n : Int} (h : n < 0) : hcode m n = 1 := by unfold hcode; rw [if_pos (.inr h)]
theorem hcode3 {m n : Int} (h1 : mk7 m = true) (h2 : ¬ n < 0) (h3 : 65535 < n) : hcode m n = 4 := by unfold hcode; rw [if_neg (by rw [h1]; simp [h2]), if_pos h3]
theorem hcode4 {m n : Int} (h1 : mk7 m = true) (h2 : ¬ n < 0) (h3 : ¬ 65535 < n) : hcode m n = 0 := by unfold hcode; rw [if_neg (by rw [h1]; simp [h2]), if_neg h3]
theorem tlvHeads_vc {m n : Int} (hm : U8 m) (hn : I64 n) :
    match Try.f6.body with
    | some c => awp EV headsCfg c (instAll (argSt 0 0 [.c (.v (.int .u8 m)), .c (.v (.int .i64 n))]) (emptySt Try.f6.ntmps)) (retK EV Try.f6.results.toList [.c (.v (.bool true))])
    | none => False := by
  unfold Try.f6
  show awp _ _ _ _ _
  have hk4 := head7_len m n
  repeat' first
    | refine And.intro ?_ ?_
    | (refine fun h => ?_; first | exact ff h | exact tf h | skip)
  all_goals try simp only [decide_eq_true_eq, decide_eq_false_iff_not, Bool.not_eq_true', Bool.not_eq_false', Bool.not_true, Bool.not_false] at *
  all_goals first
    | exact trivial
    | exact hm
    | exact hn
    | with_reducible rfl
    | omega
    | (with_reducible show EV.ifc _ = true
       rfl)
    | (with_reducible show isAlloc _ = none
       rfl)
    | (with_reducible show drawOk _ _ _ = true
       rfl)
    | exact .inl rfl
    | exact .inr (.inr (by decide))
    | (show decide (((if hcode m n = 0 then head7 m n else ([] : List Int)).length : Int) = 0) = true
       rw [if_neg (by omega)]
       rfl)
    | (show ((strOfNums (if hcode m n = 0 then head7 m n else [])).toList == (strOfNums (head7 m n)).toList) = true
       rw [if_pos (by assumption)]
       exact beq_self_eq_true _)
    | (exfalso
       have e := hcode1 (m := m) (n := n) ‹mk7 m = false›
       omega)
    | (exfalso
       have e := hcode2 (m := m) (n := n) ‹n < 0›
       omega)
    | (exfalso
       have e := hcode3 (m := m) (n := n) ‹mk7 m = true› ‹¬ n < 0› ‹65535 < n›
       omega)
    | (exfalso
       have e := hcode4 (m := m) (n := n) ‹mk7 m = true› ‹¬ n < 0› ‹¬ 65535 < n›
       omega)
    | (with_reducible show _ = true
       rfl)
    | trace_state
theorem ok_TlvHeads : SpecOk Try.prog 6 STlvHeads := pspec_of EV_ok (fn := Try.f6) (by kernel_rfl) (by kernel_rfl) fun args hs => by
  unfold STlvHeads at hs ⊢
  split at hs
  · exact ⟨Nat.le_of_ble_eq_true rfl, _, headsCfg_ok, tlvHeads_vc hs.1 hs.2⟩
  · exact hs.elim
theorem u8_of {n : Int} (h : (Lit.int .u8 n).wf = true) : U8 n := by
  have h' : (decide (IntKind.u8.min ≤ n) && decide (n ≤ IntKind.u8.max)) = true := h
  rw [Bool.and_eq_true] at h'
  have a := of_decide_eq_true h'.1
  have b := of_decide_eq_true h'.2
  have e1 : IntKind.u8.min = 0 := by decide
  have e2 : IntKind.u8.max = 255 := by decide
  exact ⟨by omega, by omega⟩
theorem i64_of {n : Int} (h : (Lit.int .i64 n).wf = true) : I64 n := by
  have h' : (decide (IntKind.i64.min ≤ n) && decide (n ≤ IntKind.i64.max)) = true := h
  rw [Bool.and_eq_true] at h'
  have a := of_decide_eq_true h'.1
  have b := of_decide_eq_true h'.2
  have e1 : IntKind.i64.min = -9223372036854775808 := by decide
  have e2 : IntKind.i64.max = 9223372036854775807 := by decide
  exact ⟨by omega, by omega⟩
end Go.AX
