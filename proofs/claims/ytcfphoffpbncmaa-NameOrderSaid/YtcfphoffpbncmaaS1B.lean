/- What charterref09.Plain answers: the same plain form. -/
import Derived.Test.YtcfphoffpbncmaaS1A
set_option linter.unusedVariables false
set_option linter.unusedSimpArgs false
namespace Go.AX
open Go.Proofs
theorem plainTo_flag (l : List Int) : ∀ k, k ≤ l.length → ((plainTo (l.take k)).2 = true ↔ 0 < k ∧ l.getD (k - 1) 0 = 32)
  | 0, _ => by simp [plainTo]
  | k + 1, h => by
    rw [plainTo_succ l k (by omega)]
    unfold plainStep
    simp only [Nat.add_sub_cancel]
    split <;> simp_all
theorem rBz : (rB.zero : Int) = 0 := rfl
theorem plainTo_next (l : List Int) (k i : Nat) (h : k < l.length) (hi : 0 < (plainTo (l.take k)).1.length → i = k - 1) : (plainTo (l.take (k + 1))).1 = if l.getD k 0 = 32 then (plainTo (l.take k)).1 else (if 0 < (plainTo (l.take k)).1.length ∧ l.getD i 0 = 32 then (plainTo (l.take k)).1 ++ [32] else (plainTo (l.take k)).1) ++ [low (l.getD k 0)] := by
  have h1 := plainTo_flag l k (by omega)
  have h2 := plainTo_len l k (by omega)
  rw [plainTo_succ l k h]
  unfold plainStep
  split
  · rfl
  · congr 1
    by_cases hc : 0 < (plainTo (l.take k)).1.length
    · have : 0 < k := by omega
      rw [hi hc]
      simp only [h1, hc, this, true_and, and_true]
    · simp [hc]
theorem low_up {x : Int} (h1 : 65 ≤ x) (h2 : x ≤ 90) : low x = IntKind.u8.wrap (x + 32) := by
  unfold low
  rw [if_pos ⟨h1, h2⟩, wrap_u8 (by omega) (by omega)]
theorem low_lt {x : Int} (h1 : ¬ 65 ≤ x) : low x = x := by
  unfold low
  rw [if_neg (by omega)]
theorem low_gt {x : Int} (h1 : ¬ x ≤ 90) : low x = x := by
  unfold low
  rw [if_neg (by omega)]
def rplainLoop (e : TypeId) (l : List Int) : Sch where
  ι := Nat
  pre k := k ≤ l.length
  sl k := [(0, .c (.sl e rB l)), (3, .c (.own 5 rB (plainTo (l.take k)).1)), (4, .c (.v (.int .i64 k)))]
  μ k := l.length - k
def rplainCfg (e : TypeId) (l : List Int) : Cfg where
  loop := fun | 3 => some (rplainLoop e l) | _ => none
set_option maxRecDepth 100000
set_option maxHeartbeats 4000000
theorem rplain_vc (e : TypeId) (l : List Int) (hl : l.length ≤ 140737488351232) :
    match Try.f17.body with
    | some c => awp EV (rplainCfg e l) c (instAll (argSt 0 0 [.c (.sl e rB l)]) (emptySt Try.f17.ntmps)) (retK EV Try.f17.results.toList [.c (.own 5 rB (plain l))])
    | none => False := by
  unfold Try.f17
  show awp _ _ _ _ _
  refine And.intro (Exists.intro (0:Nat) ?_) ?_
  · repeat' first
      | refine And.intro ?_ ?_
      | (refine fun h => ?_; first | exact ff h | exact tf h | skip)
    · show (0:Nat) ≤ l.length; omega
    all_goals first | rfl | trivial
  · refine fun (k : Nat) (hk : k ≤ l.length) => ?_
    have hw : (plainTo (l.take k)).1.length ≤ k := by have := plainTo_len l k hk; omega
    have hf := plainTo_flag l k hk
    have hwr : 0 < (plainTo (l.take k)).1.length → (IntKind.i64.wrap ((k : Int) - 1)).toNat = k - 1 ∧ 0 < k := fun h => by
      rw [wrap_i64 (by omega) (by omega)]; omega
    repeat' first
      | refine And.intro ?_ ?_
      | (refine fun h => ?_; first | exact ff h | exact tf h | skip)
      | refine Exists.intro (k + 1 : Nat) ?_
    all_goals try simp only [decide_eq_true_eq, decide_eq_false_iff_not, Bool.not_true, Bool.not_false] at *
    all_goals try simp only [Int.toNat_natCast, rBz, Int.natCast_pos] at *
    all_goals first
      | exact trivial
      | omega
      | rfl
      | (dsimp only [rplainLoop]; omega)
      | (show (_ : Int) = _; rw [wrap_i64 (by omega) (by omega)]; omega)
      | (rw [wrap_i64 (by omega) (by omega)]; omega)
      | (simp only [List.length_append, List.length_cons, List.length_nil]; omega)
      | (show (_ : List Int) = _; rw [List.take_of_length_le (by omega)]; rfl)
      | (show (_ : List Int) = _
         rw [plainTo_next l k _ (by omega) (fun h => (hwr h).1)]
         clear hwr hf
         simp only [*, true_and, and_true, if_true, if_false, and_false, false_and, low_up, low_lt, low_gt, not_false_iff])
theorem ok_RPlain : SpecOk Try.prog 17 SPlain := spec_of EV_ok (fn := Try.f17) (by kernel_rfl) (by kernel_rfl) fun args hs => by
  unfold SPlain at hs ⊢
  split at hs
  · refine ⟨Nat.le_of_ble_eq_true rfl, rplainCfg _ _, ?_, rplain_vc _ _ hs⟩
    intro f S h
    cases h
  · exact hs.elim
end Go.AX
