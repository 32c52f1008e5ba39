/- What charterlaw09.NameOrder answers: true, for every three names that memory can hold. -/
import Derived.Test.YtcfphoffpbncmaaS1J
set_option linter.unusedVariables false
set_option linter.unusedSimpArgs false
namespace Go.AX
open Go.Proofs
set_option maxRecDepth 100000
set_option maxHeartbeats 4000000
theorem like_refl (x : Att) : like x x = true := by
  unfold like txtEq
  simp
theorem like_trans {x y z : Att} (h1 : like x y = true) (h2 : like y z = true) : like x z = true := by
  unfold like txtEq at *
  simp only [Bool.and_eq_true, decide_eq_true_eq, beq_iff_eq] at *
  exact ⟨h1.1.trans h2.1, h1.2.trans h2.2⟩
theorem covers_refl (x : List Att) : covers x x = true := List.all_eq_true.2 fun y hy => List.any_eq_true.2 ⟨y, hy, like_refl y⟩
theorem covers_trans {x y z : List Att} (h1 : covers x y = true) (h2 : covers y z = true) : covers x z = true := by
  refine List.all_eq_true.2 fun u hu => ?_
  obtain ⟨v, hv, h3⟩ := List.any_eq_true.1 (List.all_eq_true.1 h1 u hu)
  obtain ⟨w, hw, h4⟩ := List.any_eq_true.1 (List.all_eq_true.1 h2 v hv)
  exact List.any_eq_true.2 ⟨w, hw, like_trans h3 h4⟩
theorem both_comm (x y : List Att) : both x y = both y x := Bool.and_comm _ _
theorem both_refl (x : List Att) : both x x = true := both_intro (covers_refl x) (covers_refl x)
theorem both_trans {x y z : List Att} (h1 : both x y = true) (h2 : both y z = true) : both x z = true := by
  unfold both at *
  rw [Bool.and_eq_true] at *
  exact ⟨covers_trans h1.1 h2.1, covers_trans h2.2 h1.2⟩
theorem alike_iff {a b : List (List Att)} : alike a b = true ↔ a.length = b.length ∧ ∀ i, i < a.length → both (a.getD i []) (b.getD i []) = true := by
  unfold alike
  rw [Bool.and_eq_true, decide_eq_true_eq, List.all_eq_true]
  exact and_congr Iff.rfl ⟨fun h i hi => h i (List.mem_range.2 hi), fun h i hi => h i (List.mem_range.1 hi)⟩
theorem alike_refl (a : List (List Att)) : alike a a = true := alike_iff.2 ⟨rfl, fun i _ => both_refl _⟩
theorem alike_symm {a b : List (List Att)} (h : alike a b = true) : alike b a = true := by
  obtain ⟨h1, h2⟩ := alike_iff.1 h
  exact alike_iff.2 ⟨h1.symm, fun i hi => by rw [both_comm]; exact h2 i (by omega)⟩
theorem alike_comm (a b : List (List Att)) : alike a b = alike b a := by
  rw [Bool.eq_iff_iff]
  exact ⟨alike_symm, alike_symm⟩
theorem alike_trans {a b c : List (List Att)} (h1 : alike a b = true) (h2 : alike b c = true) : alike a c = true := by
  obtain ⟨k1, k2⟩ := alike_iff.1 h1
  obtain ⟨m1, m2⟩ := alike_iff.1 h2
  exact alike_iff.2 ⟨k1.trans m1, fun i hi => both_trans (k2 i hi) (m2 i (by omega))⟩
theorem within_iff {a b : List (List Att)} : within a b = true ↔ b.length ≤ a.length ∧ alike (a.take b.length) b = true := by
  unfold within
  rw [Bool.and_eq_true, decide_eq_true_eq]
theorem within_refl (a : List (List Att)) : within a a = true := within_iff.2 ⟨Nat.le_refl _, by rw [List.take_length]; exact alike_refl a⟩
theorem getD_take {a : List (List Att)} {i k : Nat} (h : i < k) : (a.take k).getD i [] = a.getD i [] := by
  rw [List.getD_eq_getElem?_getD, List.getD_eq_getElem?_getD, List.getElem?_take_of_lt h]
theorem within_trans {a b c : List (List Att)} (h1 : within a b = true) (h2 : within b c = true) : within a c = true := by
  obtain ⟨k1, k2⟩ := within_iff.1 h1
  obtain ⟨m1, m2⟩ := within_iff.1 h2
  obtain ⟨_, k3⟩ := alike_iff.1 k2
  obtain ⟨_, m3⟩ := alike_iff.1 m2
  refine within_iff.2 ⟨by omega, alike_iff.2 ⟨by rw [List.length_take]; omega, fun i hi => ?_⟩⟩
  have hi' : i < c.length := by rw [List.length_take] at hi; omega
  have e1 := k3 i (by rw [List.length_take]; omega)
  have e2 := m3 i (by rw [List.length_take]; omega)
  rw [getD_take (by omega)] at e1 e2 ⊢
  exact both_trans e1 e2
theorem within_both (a b : List (List Att)) : (within a b && within b a) = alike a b := by
  rw [Bool.eq_iff_iff, Bool.and_eq_true]
  constructor
  · rintro ⟨h1, h2⟩
    obtain ⟨k1, k2⟩ := within_iff.1 h1
    obtain ⟨m1, _⟩ := within_iff.1 h2
    rwa [List.take_of_length_le (by omega)] at k2
  · intro h
    have hl := (alike_iff.1 h).1
    refine ⟨within_iff.2 ⟨by omega, ?_⟩, within_iff.2 ⟨by omega, ?_⟩⟩
    · rwa [List.take_of_length_le (by omega)]
    · rw [List.take_of_length_le (by omega)]; exact alike_symm h
theorem last1 {a b : List (List Att)} (h : within a b = true) : (within b a == alike a b) = true := by
  rw [← within_both a b, h, Bool.true_and]
  exact beq_self_b _
theorem last2 {a b : List (List Att)} (h : within a b = false) : (false == alike a b) = true := by
  rw [← within_both a b, h, Bool.false_and]
  rfl
theorem ttf {p : Prop} {x : Bool} (h1 : x = true) (h2 : x = false) : p := by rw [h1] at h2; cases h2
def SNameOrder : PSpec
  | [.c (.sl _ (.one (.sl 88 (.cons (.sl 111 (.one (.int .u32))) (.cons (.int .u8) (.one (.sl 5 (.one (.int .u8)))))))) a), .c (.sl _ (.one (.sl 88 (.cons (.sl 111 (.one (.int .u32))) (.cons (.int .u8) (.one (.sl 5 (.one (.int .u8)))))))) b), .c (.sl _ (.one (.sl 88 (.cons (.sl 111 (.one (.int .u32))) (.cons (.int .u8) (.one (.sl 5 (.one (.int .u8)))))))) c)] =>
    (NmOk a ∧ NmOk b ∧ NmOk c, [.c (.v (.bool true))])
  | _ => (False, [])
def nameOrderCfg : Cfg where
  spec := fun | 15 => some SUp9 | 18 => some SLight | 19 => some SAlike | 21 => some SWithin | _ => none
theorem nameOrder_vc (e e' e'' : TypeId) (a b c : List (List Att)) (hA : NmOk a) (hB : NmOk b) (hC : NmOk c) :
    match Try.f5.body with
    | some cd => awp EV nameOrderCfg cd (instAll (argSt 0 0 [.c (.sl e rN a), .c (.sl e' rN b), .c (.sl e'' rN c)]) (emptySt Try.f5.ntmps)) (retK EV Try.f5.results.toList [.c (.v (.bool true))])
    | none => False := by
  unfold Try.f5
  show awp _ _ _ _ _
  repeat' first
    | refine And.intro ?_ ?_
    | (refine fun h => ?_; first | exact ff h | exact tf h | skip)
  all_goals first
    | exact trivial
    | rfl
    | exact hA
    | exact hB
    | exact hC
    | skip
  all_goals try simp only [Bool.not_true, Bool.not_false, Bool.not_eq_true', Bool.not_eq_false'] at *
  all_goals first
    | exact ttf (alike_refl a) (by assumption)
    | exact ttf (within_refl a) (by assumption)
    | exact ttf (x := alike a b == alike b a) (by rw [alike_comm b a]; exact beq_self_b _) (by assumption)
    | exact ttf (alike_trans (a := a) (b := b) (c := c) (by assumption) (by assumption)) (by assumption)
    | exact ttf (within_trans (a := a) (b := b) (c := c) (by assumption) (by assumption)) (by assumption)
    | (show (_ : Bool) = true; exact last1 (by assumption))
    | (show (_ : Bool) = true; exact last2 (by assumption))
theorem ok_NameOrder : SpecOk Try.prog 5 SNameOrder := spec_of EV_ok (fn := Try.f5) (by kernel_rfl) (by kernel_rfl) fun args hs => by
  unfold SNameOrder at hs ⊢
  split at hs
  · refine ⟨Nat.le_of_ble_eq_true rfl, _, ?_, nameOrder_vc _ _ _ _ _ _ hs.1 hs.2.1 hs.2.2⟩
    intro f S h
    unfold nameOrderCfg at h
    dsimp only at h
    split at h
    · cases h; exact ok_Up9
    · cases h; exact ok_Light
    · cases h; exact ok_Alike
    · cases h; exact ok_Within
    · cases h
  · exact hs.elim
end Go.AX
