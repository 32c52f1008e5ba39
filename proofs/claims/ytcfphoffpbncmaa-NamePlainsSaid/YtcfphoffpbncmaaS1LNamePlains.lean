/- The row of the law NamePlains: it answers true whatever it is handed. -/
import Derived.Test.YtcfphoffpbncmaaRows
import Derived.Test.YtcfphoffpbncmaaS1D
import Derived.Test.YtcfphoffpbncmaaAXA18
import Derived.WalkKit
import Derived.ProofKit
import Derived.OpenShut
import Derived.ShutString
import Derived.ChangeOld
import Derived.Below
import Derived.SizedLaws
namespace Go.Proofs.Ytcfphoffpbncmaa.namePlains
open Go.ChangeShapes Go.WideShapes Go.ChangeAt Go.RowKit Go.AX
set_option linter.unusedVariables false
theorem own : ownKnob Try.prog.godebug = none := by kernel_rfl
theorem laidOut : laidOutB Try.prog = true := by kernel_rfl
set_option maxRecDepth 100000 in
theorem lifted (os : Os) (started : os.Started) (H : Type) (enc : TypeId × Value → H) :
    ReturnsInHanded {} Try.checked os 3 .any (Rows.namePlainsSpec.pre6 enc Try.prog Try.f3 Rows.namePlainsRow.domain false) (Rows.namePlainsSpec.post enc Try.prog Try.f3 false true false false) := by
  refine returnsInHanded_of_change_sized (C := Try.checked) own started (by kernel_rfl) Try.func3
    (ChangeSpec.witness6 (enc := enc) (C := Try.checked) false ⟨#[], #[.slice none 0 0], []⟩ 8 (by kernel_rfl) (by kernel_rfl) (by kernel_rfl) (by kernel_rfl)) ?_
  intro W base args ds gs before hval0 hW hcnd hsz0 _
  have hsz : (DataW.weightsEach Try.prog (Try.f3.params.toList ++ Rows.namePlainsSpec.plain.varTypes Try.prog) (ds ++ gs)).all (· ≤ reachBytes) = true := hsz0
  have hval : ∀ (j : Nat) t v, Try.f3.params[j]? = some t → args[j]? = some v → Value.okWide Try.prog W .any base t v := hval0
  have hW' := hW
  obtain ⟨p, q, hA0, hV, rfl, hfz, hnd⟩ := hW
  have hA : DataW.TrodAll enc Try.prog W 0 (fun _ => true) true Try.f3.params.toList args.toList ds p := hA0
  rw [Try.params3] at hA hval hsz
  obtain ⟨v0, vs0, d0, ds0, p0, q0, hargs, rfl, rfl, h0, r0⟩ := trodAll_cons hA
  obtain ⟨rfl, rfl, rfl⟩ := trodAll_nil r0
  obtain rfl : args = #[v0] := by cases args; simp_all
  obtain ⟨rfl, rfl⟩ := trodVars_none hV
  obtain ⟨a0, len0, cap0, rfl⟩ := okWide_slice Try.underlying22 (hval 0 22 v0 rfl rfl)
  have k0 := h0
  have lt0 : ∀ x ∈ p0, x.block < W.heap.size := by obtain ⟨m, hm⟩ := k0; exact DataW.trod_lt m _ _ _ hm
  obtain ⟨z0, w0, y0⟩ : ∃ y : (Ty.sl 5 rB).den, (Ty.sl 5 rB).rep W (inW W) y (.slice a0 len0 cap0) ∧ (Ty.sl 5 rB).wf y := by
    obtain ⟨fuel, hf⟩ := h0
    refine Ty.of_trod (P := Try.prog) (.sl 5 rB) ?_ hf (weights_of hsz (j := 0) rfl rfl)
    simp only [Ty.fits, Row.fits]
    exact ⟨Try.underlying22, by kernel_rfl, of_decide_eq_true (by kernel_rfl), by kernel_rfl⟩
  clear hA0 hval0 hsz0 hsz
  refine (law_calls ok_NP (enters_of (fn := Try.f3) (by kernel_rfl) (by kernel_rfl) (by kernel_rfl)) (args := [.c (.sl 5 rB z0)]) (vs := [.slice a0 len0 cap0]) ⟨[], [], rfl, ⟨Ty.rep_sl.1 w0, rfl⟩, rfl⟩ ?_ rfl).mono fun e W' ⟨he, bel⟩ => ?_
  · unfold Ty.wf at y0
    exact y0.1
  subst he
  exact ⟨_, rfl, _, _, _, [], _, [], hW', trodAll_mk1 (shut_bool Try.underlying4 _), (trodAll_cons_mk (Below.trod laidOut (by kernel_rfl) (of_decide_eq_true (by kernel_rfl)) k0 bel lt0) trodAll_mk0), rfl, bel.frame _, fun h => by cases h⟩
theorem over : Rows.namePlainsRow.holds Try.pinned (OpenSpec.ofChange Rows.namePlainsSpec) :=
  OpenClaim.holds_of_wide 3 Try.f3 rfl rfl rfl rfl rfl rfl rfl ⟨rfl, rfl, rfl, rfl, rfl⟩ rfl rfl rfl rfl rfl (by kernel_rfl) Try.func3 (by kernel_rfl)
    (of_decide_eq_true (by kernel_rfl)) (by unfold Func.isWrapper; first | (rw [if_pos (by decide +kernel)]; kernel_rfl) | (rw [if_neg (by decide +kernel)]; exact ⟨rfl, rfl⟩))
    (fun os started H enc _ => lifted os started H enc)
theorem proved : Rows.NamePlainsSaid := over
#print axioms proved
end Go.Proofs.Ytcfphoffpbncmaa.namePlains
