/- What charterlaw09.NamePlains answers: true, for every text that memory can hold. -/
import Derived.Test.YtcfphoffpbncmaaS1C
set_option linter.unusedVariables false
set_option linter.unusedSimpArgs false
namespace Go.AX
open Go.Proofs
set_option maxRecDepth 100000
set_option maxHeartbeats 4000000
theorem low_low (x : Int) : low (low x) = low x := by unfold low; split <;> (try split) <;> omega
/-- A plain text: no blank at its head or its end, no two side by side, nothing to lower. -/
theorem plain_step {s : List Int × Bool} (h : plainTo s.1 = (s.1, false)) (x : Int) : plainTo (plainStep s x).1 = ((plainStep s x).1, false) := by
  unfold plainStep
  split
  · exact h
  · rename_i hx
    have hy : low x ≠ 32 := by unfold low; split <;> omega
    have hl := low_low x
    split
    · rename_i hc
      unfold plainTo at h ⊢
      rw [List.foldl_append, List.foldl_append, h]
      simp [plainStep, hy, hl, hc.2]
    · unfold plainTo at h ⊢
      rw [List.foldl_append, h]
      simp [plainStep, hy, hl]
theorem plain_fold : ∀ (l : List Int) (s : List Int × Bool), plainTo s.1 = (s.1, false) → plainTo (l.foldl plainStep s).1 = ((l.foldl plainStep s).1, false)
  | [], _, h => h
  | x :: l, s, h => plain_fold l _ (plain_step h x)
theorem plain_again (l : List Int) : plain (plain l) = plain l := by
  have h : plainTo (plainTo l).1 = ((plainTo l).1, false) := plain_fold l ([], false) rfl
  show (plainTo (plainTo l).1).1 = (plainTo l).1
  rw [h]
def NPd : PSpec
  | [.c (.sl _ (.one (.int .u8)) l)] => (l.length ≤ 140737488351232, [.c (.v (.bool true))])
  | _ => (False, [])
def npCut (e : TypeId) (l : List Int) : Sch where
  ι := Unit
  pre _ := True
  sl _ := [(0, .c (.sl e rB l)), (3, .c (.v (.bool true))), (4, .c (.sl 5 rB (plain l)))]
  μ _ := 0
def npCfg (e : TypeId) (l : List Int) : Cfg where
  spec := fun | 15 => some SUp9 | 16 => some SPlain | 17 => some SPlain | _ => none
  cut := fun | 5 => some (npCut e l) | _ => none
theorem plain_len (l : List Int) : (plain l).length ≤ l.length := by
  have := plainTo_len l l.length (Nat.le_refl _)
  rw [List.take_length] at this
  unfold plain
  omega
theorem np_vc (e : TypeId) (l : List Int) (hl : l.length ≤ 140737488351232) :
    match Try.f3.body with
    | some c => awp EV (npCfg e l) c (instAll (argSt 0 0 [.c (.sl e rB l)]) (emptySt Try.f3.ntmps)) (retK EV Try.f3.results.toList [.c (.v (.bool true))])
    | none => False := by
  unfold Try.f3
  show awp _ _ _ _ _
  have h1 := plain_again l
  have h2 := plain_len l
  repeat' first
    | refine And.intro ?_ ?_
    | (refine fun h => ?_; first | exact ff h | exact tf h | skip)
    | refine Exists.intro () ?_
  all_goals first
    | exact trivial
    | rfl
    | (show List.length (_ : List Int) ≤ _; omega)
    | (show (_ == _) = true; rw [h1]; exact beq_self_eq_true _)
    | exact tf ((beq_self_eq_true (strOfNums (plain l)).toList).symm.trans (by assumption))
theorem ok_NP : SpecOk Try.prog 3 NPd := spec_of EV_ok (fn := Try.f3) (by kernel_rfl) (by kernel_rfl) fun args hs => by
  have hc : ∀ e l f S, (npCfg e l).spec f = some S → SpecOk Try.prog f S := by
    intro e l f S h
    unfold npCfg at h
    dsimp only at h
    split at h
    · cases h; exact ok_Up9
    · cases h; exact ok_Plain
    · cases h; exact ok_RPlain
    · cases h
  unfold NPd at hs ⊢
  split at hs
  · exact ⟨Nat.le_of_ble_eq_true rfl, _, hc _ _, np_vc _ _ hs⟩
  · exact hs.elim
end Go.AX
