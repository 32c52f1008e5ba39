/- What name.Plain answers: the plain form of a text, for every text that memory can hold. -/
import Derived.Test.YtcfphoffpbncmaaS1E
set_option linter.unusedVariables false
set_option linter.unusedSimpArgs false
namespace Go.AX
open Go.Proofs
theorem wrap_i64 {x : Int} (h1 : -9223372036854775808 ≤ x) (h2 : x < 9223372036854775808) : IntKind.wrap .i64 x = x := by
  unfold IntKind.wrap
  simp [IntKind.bits, IntKind.signed]
  omega
theorem wrap_u8 {x : Int} (h1 : 0 ≤ x) (h2 : x < 256) : IntKind.wrap .u8 x = x := by
  unfold IntKind.wrap
  simp [IntKind.bits, IntKind.signed]
  omega
theorem ff {p : Prop} (h : false = true) : p := by cases h
theorem tf {p : Prop} (h : true = false) : p := by cases h
abbrev rB : Row := .one (.int .u8)
def low (x : Int) : Int := if 65 ≤ x ∧ x ≤ 90 then x + 32 else x
def plainStep (s : List Int × Bool) (x : Int) : List Int × Bool :=
  if x = 32 then (s.1, true) else ((if s.2 = true ∧ 0 < s.1.length then s.1 ++ [32] else s.1) ++ [low x], false)
def plainTo (l : List Int) : List Int × Bool := l.foldl plainStep ([], false)
def plain (l : List Int) : List Int := (plainTo l).1
theorem foldl_take_succ {α β : Type} (f : α → β → α) (a : α) (l : List β) (k : Nat) (d : β) (h : k < l.length) : (l.take (k + 1)).foldl f a = f ((l.take k).foldl f a) (l.getD k d) := by
  rw [List.take_succ_eq_append_getElem h, List.foldl_append]
  simp [List.getD_eq_getElem?_getD, h]
theorem plainTo_succ (l : List Int) (k : Nat) (h : k < l.length) : plainTo (l.take (k + 1)) = plainStep (plainTo (l.take k)) (l.getD k 0) := foldl_take_succ _ _ _ _ _ h
theorem plainTo_len (l : List Int) : ∀ k, k ≤ l.length → (plainTo (l.take k)).1.length + (if (plainTo (l.take k)).2 = true then 1 else 0) ≤ k
  | 0, _ => by simp [plainTo]
  | k + 1, h => by
    have := plainTo_len l k (by omega)
    rw [plainTo_succ l k (by omega)]
    unfold plainStep
    split
    · simp; split at this <;> omega
    · simp only [List.length_append, List.length_cons, List.length_nil]
      split
      · rename_i hc
        rw [if_pos hc.1] at this
        simp; omega
      · split at this <;> simp <;> omega
def SPlain : PSpec
  | [.c (.sl _ (.one (.int .u8)) l)] => (l.length ≤ 140737488351232, [.c (.own 5 rB (plain l))])
  | _ => (False, [])
def plainLoop (l : List Int) : Sch where
  ι := Nat
  pre k := k ≤ l.length
  sl k := [(7, .c (.sl 5 rB l)), (8, .c (.v (.int .i64 l.length))), (9, .c (.v (.int .i64 k))), (3, .c (.own 5 rB (plainTo (l.take k)).1)), (4, .c (.v (.bool (plainTo (l.take k)).2)))]
  μ k := l.length - k
def plainCfg (l : List Int) : Cfg where
  loop := fun | 4 => some (plainLoop l) | _ => none
set_option maxRecDepth 100000
set_option maxHeartbeats 4000000
theorem plain_vc (e : TypeId) (l : List Int) (hl : l.length ≤ 140737488351232) :
    match Try.f16.body with
    | some c => awp EV (plainCfg l) c (instAll (argSt 0 0 [.c (.sl e rB l)]) (emptySt Try.f16.ntmps)) (retK EV Try.f16.results.toList [.c (.own 5 rB (plain l))])
    | none => False := by
  unfold Try.f16
  show awp _ _ _ _ _
  refine And.intro (Exists.intro (0:Nat) ?_) ?_
  · repeat' first
      | refine And.intro ?_ ?_
      | (refine fun h => ?_; first | exact ff h | exact tf h | skip)
    · show (0:Nat) ≤ l.length; omega
    all_goals first | rfl | trivial
  · refine fun (k : Nat) (hk : k ≤ l.length) => ?_
    have hw : (plainTo (l.take k)).1.length ≤ k := by have := plainTo_len l k hk; omega
    repeat' first
      | refine And.intro ?_ ?_
      | (refine fun h => ?_; first | exact ff h | exact tf h | skip)
      | refine Exists.intro (k + 1 : Nat) ?_
    all_goals try simp only [decide_eq_true_eq, decide_eq_false_iff_not] at *
    all_goals first
      | exact trivial
      | omega
      | rfl
      | (dsimp only [plainLoop]; omega)
      | (show (_ : Int) = _; rw [wrap_i64 (by omega) (by omega)]; omega)
      | (simp only [List.length_append, List.length_cons, List.length_nil]; omega)
      | (show (_ : Bool) = _; rw [plainTo_succ l k (by omega)]; simp_all [plainStep, low])
      | (show (_ : List Int) = _; rw [plainTo_succ l k (by omega)]; simp_all [plainStep, low] <;> first | omega | (rw [wrap_u8 (by omega) (by omega)]) | skip)
      | (show (_ : List Int) = _; rw [List.take_of_length_le (by omega)]; rfl)
theorem ok_Plain : SpecOk Try.prog 16 SPlain := pspec_of EV_ok (fn := Try.f16) (by kernel_rfl) (by kernel_rfl) fun args hs => by
  unfold SPlain at hs ⊢
  split at hs
  · refine ⟨Nat.le_of_ble_eq_true rfl, plainCfg _, ?_, plain_vc _ _ hs⟩
    refine spsOk_of ?_ rfl
    intro f S h
    cases h
  · exact hs.elim
end Go.AX
