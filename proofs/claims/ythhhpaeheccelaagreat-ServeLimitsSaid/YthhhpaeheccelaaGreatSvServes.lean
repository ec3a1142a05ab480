/- serves() returns true: one run of the abstract evaluator, with num.Code taken by its contract. -/
import Derived.Test.YthhhpaeheccelaaGreatSvCodeX
import Derived.KernelRfl
set_option linter.unusedVariables false
set_option maxRecDepth 100000
namespace Go.Proofs.YthhhpaeheccelaaGreat
open Go.AE Go.RowKit
theorem servesRun_true : okT (evCall (envOf Tryz.prog) extS 400 7 [] A0) = true := by kernel_rfl
theorem serves_calls (w : World) : Calls Tryz.prog 7 #[] w fun e w' => e = .returned (.bool true) ∧ Below w.heap.size w w' := by
  obtain ⟨A', h⟩ := okT_some servesRun_true
  letI : Val := Val.plain
  refine ((evCall_ok (envOf_ok Tryz.prog) hmixed extS_ok 400).ok 7 [] A0 _ A' h μ0 w [] (Rel.empty w) trivial VRs.nil (fun _ _ _ _ => rfl)).mono ?_
  rintro e w' ⟨u, μ', rfl, hu, _, X⟩
  simp only [VR] at hu
  subst hu
  exact ⟨rfl, X.below⟩
end Go.Proofs.YthhhpaeheccelaaGreat
