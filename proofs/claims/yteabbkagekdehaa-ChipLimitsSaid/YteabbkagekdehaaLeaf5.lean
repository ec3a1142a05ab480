/- Runs of ChipLimits at given facts. -/
import Derived.Test.YteabbkagekdehaaLimExt
set_option maxRecDepth 100000
namespace Go.Proofs.Yteabbkagekdehaa
open Go.AE
def F_n17f39x499998 : List Fact := [.eq (.tab [15, 16, 17] (.md 0 3)) (.lit 17) true, .eq (.md 18 2) (.lit 0) true, .eq (.tab [39, 40] (.md 19 2)) (.lit 39) true, .eq (.tab [499998, 499999, 500000] (.md 20 3)) (.lit 499998) true]
noncomputable def R_n17f39x499998 : Bool := okT (evCall ((envOf Try.prog).know F_n17f39x499998) extLim 300 3 [.opq 0] A0)
theorem T_n17f39x499998 : R_n17f39x499998 = true := by kernel_rfl
def F_n17f39x499999 : List Fact := [.eq (.tab [15, 16, 17] (.md 0 3)) (.lit 17) true, .eq (.md 18 2) (.lit 0) true, .eq (.tab [39, 40] (.md 19 2)) (.lit 39) true, .eq (.tab [499998, 499999, 500000] (.md 20 3)) (.lit 499999) true]
noncomputable def R_n17f39x499999 : Bool := okT (evCall ((envOf Try.prog).know F_n17f39x499999) extLim 300 3 [.opq 0] A0)
theorem T_n17f39x499999 : R_n17f39x499999 = true := by kernel_rfl
def F_n17f39x500000 : List Fact := [.eq (.tab [15, 16, 17] (.md 0 3)) (.lit 17) true, .eq (.md 18 2) (.lit 0) true, .eq (.tab [39, 40] (.md 19 2)) (.lit 39) true, .eq (.tab [499998, 499999, 500000] (.md 20 3)) (.lit 500000) true]
noncomputable def R_n17f39x500000 : Bool := okT (evCall ((envOf Try.prog).know F_n17f39x500000) extLim 300 3 [.opq 0] A0)
theorem T_n17f39x500000 : R_n17f39x500000 = true := by kernel_rfl
def F_n17f40x499998 : List Fact := [.eq (.tab [15, 16, 17] (.md 0 3)) (.lit 17) true, .eq (.md 18 2) (.lit 0) true, .eq (.tab [39, 40] (.md 19 2)) (.lit 40) true, .eq (.tab [499998, 499999, 500000] (.md 20 3)) (.lit 499998) true]
noncomputable def R_n17f40x499998 : Bool := okT (evCall ((envOf Try.prog).know F_n17f40x499998) extLim 300 3 [.opq 0] A0)
theorem T_n17f40x499998 : R_n17f40x499998 = true := by kernel_rfl
def F_n17f40x499999 : List Fact := [.eq (.tab [15, 16, 17] (.md 0 3)) (.lit 17) true, .eq (.md 18 2) (.lit 0) true, .eq (.tab [39, 40] (.md 19 2)) (.lit 40) true, .eq (.tab [499998, 499999, 500000] (.md 20 3)) (.lit 499999) true]
noncomputable def R_n17f40x499999 : Bool := okT (evCall ((envOf Try.prog).know F_n17f40x499999) extLim 300 3 [.opq 0] A0)
theorem T_n17f40x499999 : R_n17f40x499999 = true := by kernel_rfl
def F_n17f40x500000 : List Fact := [.eq (.tab [15, 16, 17] (.md 0 3)) (.lit 17) true, .eq (.md 18 2) (.lit 0) true, .eq (.tab [39, 40] (.md 19 2)) (.lit 40) true, .eq (.tab [499998, 499999, 500000] (.md 20 3)) (.lit 500000) true]
noncomputable def R_n17f40x500000 : Bool := okT (evCall ((envOf Try.prog).know F_n17f40x500000) extLim 300 3 [.opq 0] A0)
theorem T_n17f40x500000 : R_n17f40x500000 = true := by kernel_rfl
end Go.Proofs.Yteabbkagekdehaa
