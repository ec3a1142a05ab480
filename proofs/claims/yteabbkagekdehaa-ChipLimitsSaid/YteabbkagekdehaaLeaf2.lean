/- Runs of ChipLimits at given facts. -/
import Derived.Test.YteabbkagekdehaaLimExt
set_option maxRecDepth 100000
namespace Go.Proofs.Yteabbkagekdehaa
open Go.AE
def F_n17 : List Fact := [.eq (.tab [15, 16, 17] (.md 0 3)) (.lit 17) true, .eq (.md 18 2) (.lit 0) false]
noncomputable def R_n17 : Bool := okT (evCall ((envOf Try.prog).know F_n17) extLim 300 3 [.opq 0] A0)
theorem T_n17 : R_n17 = true := by kernel_rfl
end Go.Proofs.Yteabbkagekdehaa
