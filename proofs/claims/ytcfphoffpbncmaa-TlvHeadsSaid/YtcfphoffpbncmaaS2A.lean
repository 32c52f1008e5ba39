/- Layer 7: marks and heads: tlv.valid, isWhole, Head; the references' Mark, IsWhole, Head, Element; Clone. -/
import Derived.Test.YtcfphoffpbncmaaS1A
set_option linter.unusedVariables false
set_option linter.unusedSimpArgs false
namespace Go.AX
open Go.Proofs
def mk7 (m : Int) : Bool := !decide (m % 32 = 31)
def wh7 (m : Int) : Bool := decide (m / 32 % 2 = 1)
structure U8 (m : Int) : Prop where
  lo : 0 ≤ m
  hi : m < 256
theorem byte_cases {p : Int → Prop} (h : ∀ n : Fin 256, p (n.val : Int)) {m : Int} (hm : U8 m) : p m := by
  have h1 := hm.lo
  have h2 := hm.hi
  have := h ⟨m.toNat, by omega⟩
  simp only at this
  rwa [Int.toNat_of_nonneg h1] at this
theorem and31 {m : Int} (hm : U8 m) : IntKind.u8.wrap ((BitVec.ofInt 8 m &&& BitVec.ofInt 8 31).toNat) = m % 32 := byte_cases (p := fun m => IntKind.u8.wrap ((BitVec.ofInt 8 m &&& BitVec.ofInt 8 31).toNat) = m % 32) (by decide +kernel) hm
theorem and32 {m : Int} (hm : U8 m) : (!decide (IntKind.u8.wrap ((BitVec.ofInt 8 m &&& BitVec.ofInt 8 32).toNat) = 0)) = wh7 m := byte_cases (p := fun m => (!decide (IntKind.u8.wrap ((BitVec.ofInt 8 m &&& BitVec.ofInt 8 32).toNat) = 0)) = wh7 m) (by decide +kernel) hm
theorem tdiv_pos {a b : Int} (h : 0 ≤ a) : a.tdiv b = a / b := Int.tdiv_eq_ediv_of_nonneg h
theorem tmod_pos {a b : Int} (h : 0 ≤ a) : a.tmod b = a % b := Int.tmod_eq_emod_of_nonneg h
def SMark : PSpec
  | [.c (.v (.int .u8 m))] => (U8 m, [.c (.v (.bool (mk7 m)))])
  | _ => (False, [])
def SIsWh : PSpec
  | [.c (.v (.int .u8 m))] => (U8 m, [.c (.v (.bool (wh7 m)))])
  | _ => (False, [])
set_option maxRecDepth 100000
set_option maxHeartbeats 4000000
theorem noSp : SpsOk Try.prog (Cfg.sp {}) := ⟨fun f s h => (by cases h), fun f s h => (by cases h)⟩
theorem ok_Valid : SpecOk Try.prog 60 SMark := pspec_of EV_ok (fn := Try.f60) (by kernel_rfl) (by kernel_rfl) fun args hs => by
  unfold SMark at hs ⊢
  split at hs
  · rename_i m
    refine ⟨Nat.le_of_ble_eq_true rfl, {}, noSp, ?_⟩
    unfold Try.f60
    show awp _ _ _ _ _
    repeat' first
      | refine And.intro ?_ ?_
      | (refine fun h => ?_; first | exact ff h | exact tf h | skip)
    all_goals first
      | exact trivial
      | (show (_ : Bool) = _; unfold mk7; exact congrArg (fun z => !decide (z = 31)) (and31 hs))
  · exact hs.elim
theorem ok_IsWhole : SpecOk Try.prog 61 SIsWh := pspec_of EV_ok (fn := Try.f61) (by kernel_rfl) (by kernel_rfl) fun args hs => by
  unfold SIsWh at hs ⊢
  split at hs
  · rename_i m
    refine ⟨Nat.le_of_ble_eq_true rfl, {}, noSp, ?_⟩
    unfold Try.f61
    show awp _ _ _ _ _
    repeat' first
      | refine And.intro ?_ ?_
      | (refine fun h => ?_; first | exact ff h | exact tf h | skip)
    all_goals first
      | exact trivial
      | exact and32 hs
  · exact hs.elim
theorem ok_RMark : SpecOk Try.prog 25 SMark := pspec_of EV_ok (fn := Try.f25) (by kernel_rfl) (by kernel_rfl) fun args hs => by
  unfold SMark at hs ⊢
  split at hs
  · rename_i m
    refine ⟨Nat.le_of_ble_eq_true rfl, {}, noSp, ?_⟩
    unfold Try.f25
    show awp _ _ _ _ _
    repeat' first
      | refine And.intro ?_ ?_
      | (refine fun h => ?_; first | exact ff h | exact tf h | skip)
    all_goals first
      | exact trivial
      | omega
      | (show (_ : Bool) = _; unfold mk7; rw [← tmod_pos hs.lo])
  · exact hs.elim
theorem ok_RIsWhole : SpecOk Try.prog 64 SIsWh := pspec_of EV_ok (fn := Try.f64) (by kernel_rfl) (by kernel_rfl) fun args hs => by
  unfold SIsWh at hs ⊢
  split at hs
  · rename_i m
    refine ⟨Nat.le_of_ble_eq_true rfl, {}, noSp, ?_⟩
    unfold Try.f64
    show awp _ _ _ _ _
    have h1 := hs.lo
    have h2 := hs.hi
    repeat' first
      | refine And.intro ?_ ?_
      | (refine fun h => ?_; first | exact ff h | exact tf h | skip)
    all_goals first
      | exact trivial
      | omega
      | (show (_ : Bool) = _; unfold wh7; rw [tdiv_pos h1, wrap_u8 (by omega) (by omega), tmod_pos (by omega)])
  · exact hs.elim
/-! ### Heads -/
structure I64 (n : Int) : Prop where
  lo : -9223372036854775808 ≤ n
  hi : n < 9223372036854775808
def head7 (m n : Int) : List Int := if n < 128 then [m, n] else if n < 256 then [m, 129, n] else [m, 130, n / 256, n % 256]
def hcode (m n : Int) : Int := if mk7 m = false ∨ n < 0 then 1 else if 65535 < n then 4 else 0
def SHead : PSpec
  | [.c (.v (.int .u8 m)), .c (.v (.int .i64 n))] => (U8 m ∧ I64 n, [.c (.own 5 rB (if hcode m n = 0 then head7 m n else [])), .c (.er 36 (hcode m n))])
  | _ => (False, [])
theorem wrap8 {n : Int} (h : 0 ≤ n) : IntKind.u8.wrap n = n % 256 := by
  unfold IntKind.wrap
  simp [IntKind.bits, IntKind.signed]
theorem fdiv256 {n : Int} : n.fdiv (2 ^ min (Int.toNat 8) IntKind.i64.bits) = n / 256 := by
  have : (2 : Int) ^ min (Int.toNat 8) IntKind.i64.bits = 256 := by decide
  rw [this]
  exact Int.fdiv_eq_ediv_of_nonneg _ (by decide)
theorem hc1 {m n : Int} (h : mk7 m = false) : hcode m n = 1 := by unfold hcode; rw [if_pos (.inl h)]
theorem hc2 {m n : Int} (h : n < 0) : hcode m n = 1 := by unfold hcode; rw [if_pos (.inr h)]
theorem hc3 {m n : Int} (h : mk7 m = true) (h1 : ¬ n < 0) (h2 : 65535 < n) : hcode m n = 4 := by
  unfold hcode
  rw [if_neg (by rw [h]; simp [h1]), if_pos h2]
theorem hc4 {m n : Int} (h : mk7 m = true) (h1 : ¬ n < 0) (h2 : ¬ 65535 < n) : hcode m n = 0 := by
  unfold hcode
  rw [if_neg (by rw [h]; simp [h1]), if_neg h2]
theorem head7_1 {m n : Int} (h : n < 128) : head7 m n = [m, n] := by unfold head7; rw [if_pos h]
theorem head7_2 {m n : Int} (h : ¬ n < 128) (h1 : n < 256) : head7 m n = [m, 129, n] := by unfold head7; rw [if_neg h, if_pos h1]
theorem head7_3 {m n : Int} (h : ¬ n < 128) (h1 : ¬ n < 256) : head7 m n = [m, 130, n / 256, n % 256] := by unfold head7; rw [if_neg h, if_neg h1]
theorem head_vc {m n : Int} (hm : U8 m) (hn : I64 n) :
    match Try.f24.body with
    | some c => awp EV { spec := fun | 60 => some SMark | _ => none } c (instAll (argSt 0 0 [.c (.v (.int .u8 m)), .c (.v (.int .i64 n))]) (emptySt Try.f24.ntmps)) (retK EV Try.f24.results.toList [.c (.own 5 rB (if hcode m n = 0 then head7 m n else [])), .c (.er 36 (hcode m n))])
    | none => False := by
  unfold Try.f24
  show awp _ _ _ _ _
  repeat' first
    | refine And.intro ?_ ?_
    | (refine fun h => ?_; first | exact ff h | exact tf h | skip)
  all_goals try simp only [decide_eq_true_eq, decide_eq_false_iff_not, Bool.not_eq_true', Bool.not_eq_false', Bool.not_true, Bool.not_false] at *
  all_goals first
    | exact trivial
    | exact hm
    | omega
    | exact (hc1 (by assumption)).symm
    | exact (hc2 (by assumption)).symm
    | exact (hc3 (by assumption) (by assumption) (by assumption)).symm
    | exact (hc4 (by assumption) (by assumption) (by assumption)).symm
    | (show (_ : List Int) = _; rw [hc1 (by assumption)]; rfl)
    | (show (_ : List Int) = _; rw [hc2 (by assumption)]; rfl)
    | (show (_ : List Int) = _; rw [hc3 (by assumption) (by assumption) (by assumption)]; rfl)
    | (rw [hc4 (by assumption) (by assumption) (by assumption), if_pos rfl]; show (_ : List Int) = _; rw [head7_1 (by assumption), wrap8 (by omega), Int.emod_eq_of_lt (by omega) (by omega)])
    | (rw [hc4 (by assumption) (by assumption) (by assumption), if_pos rfl]; show (_ : List Int) = _; rw [head7_2 (by assumption) (by assumption), wrap8 (by omega), Int.emod_eq_of_lt (by omega) (by omega)])
    | (rw [hc4 (by assumption) (by assumption) (by assumption), if_pos rfl]; show (_ : List Int) = _; rw [head7_3 (by assumption) (by assumption), fdiv256, wrap8 (by omega), wrap8 (by omega), Int.emod_eq_of_lt (by omega) (by omega)])
theorem ok_Head : SpecOk Try.prog 24 SHead := pspec_of EV_ok (fn := Try.f24) (by kernel_rfl) (by kernel_rfl) fun args hs => by
  unfold SHead at hs ⊢
  split at hs
  · refine ⟨Nat.le_of_ble_eq_true rfl, _, ?_, head_vc hs.1 hs.2⟩
    refine ⟨fun f s h => ?_, fun f s h => by cases h⟩
    dsimp only [Cfg.sp] at h
    split at h
    · cases h; exact ok_Valid
    · cases h
  · exact hs.elim
end Go.AX
