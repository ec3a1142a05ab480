/- Runs of ChipLimits at given facts. -/
import Derived.Test.YteabbkagekdehaaLimExt
set_option maxRecDepth 100000
namespace Go.Proofs.Yteabbkagekdehaa
open Go.AE
def F_n15 : List Fact := [.eq (.tab [15, 16, 17] (.md 0 3)) (.lit 15) true, .eq (.md 16 2) (.lit 0) false]
noncomputable def R_n15 : Bool := okT (evCall ((envOf Try.prog).know F_n15) extLim 300 3 [.opq 0] A0)
theorem T_n15 : R_n15 = true := by kernel_rfl
end Go.Proofs.Yteabbkagekdehaa
