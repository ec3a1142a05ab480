/- Classes of instructions: code and document agree (printed by gen_ci.py). -/
import Derived.Test.YteabbkagekdehaaCi1
import Derived.KernelRfl
set_option maxRecDepth 100000
namespace Go.Proofs.Yteabbkagekdehaa
open Go.AE Go.RowKit
def sNum : Spec := ⟨[.var 8, .var 9, .var 10, .var 13, .var 6], pairs [lo 0 7, hi 7 15, lo (-2147483648) 12, hi 12 2147483647, lo 0 11, hi 11 16], false⟩
def fNum : List Fact := []
noncomputable def xNum : AV := xAV (.int .i64 1) (v 6)
theorem cNum : chain (leafC xNum sNum) [eq0 6, eq0 8, eq0 9, eq0 10, eq0 13, lo 0 11, hi 11 16, lo 0 7, hi 7 15, lo (-2147483648) 12, hi 12 2147483647] fNum = true := by kernel_rfl
theorem rNum : chain (leafR xNum sNum) [eq0 8, eq0 9, eq0 10, eq0 13, eq0 6, lo 0 7, hi 7 15, lo (-2147483648) 12, hi 12 2147483647, lo 0 11, hi 11 16] fNum = true := by kernel_rfl
theorem iNum {ρ : Nat → Int} (hF : ∀ f ∈ fNum, f.holds ρ) : InstrOK (flatV ρ mAV) (flatV ρ xNum) := cls hF rfl cNum rNum
def sOpLo : Spec := ⟨[.var 9, .var 10, .var 12, .var 13], pairs [lo 0 7, hi 7 15, lo 0 8, hi 8 15, lo 0 11, hi 11 16], true⟩
def fOpLo : List Fact := [hi 6 3]
noncomputable def xOpLo : AV := xAV (.int .i64 2) (v 6)
theorem cOpLo : chain (leafC xOpLo sOpLo) [eq0 9, eq0 10, eq0 12, eq0 13, lo 0 11, hi 11 16, lo 0 7, hi 7 15, lo 0 8, hi 8 15] fOpLo = true := by kernel_rfl
theorem rOpLo : chain (leafR xOpLo sOpLo) [eq0 9, eq0 10, eq0 12, eq0 13, lo 0 7, hi 7 15, lo 0 8, hi 8 15, lo 0 11, hi 11 16] fOpLo = true := by kernel_rfl
theorem iOpLo {ρ : Nat → Int} (hF : ∀ f ∈ fOpLo, f.holds ρ) : InstrOK (flatV ρ mAV) (flatV ρ xOpLo) := cls hF rfl cOpLo rOpLo
def sOpTwo : Spec := ⟨[.var 10, .var 12, .var 13], pairs [lo 0 7, hi 7 15, lo 0 8, hi 8 15, lo 0 9, hi 9 15, lo 0 11, hi 11 16], false⟩
def fOpTwo : List Fact := [lo 4 6, hi 6 10]
noncomputable def xOpTwo : AV := xAV (.int .i64 2) (v 6)
theorem cOpTwo : chain (leafC xOpTwo sOpTwo) [eq0 10, eq0 12, eq0 13, lo 0 11, hi 11 16, lo 0 7, hi 7 15, lo 0 8, hi 8 15, lo 0 9, hi 9 15] fOpTwo = true := by kernel_rfl
theorem rOpTwo : chain (leafR xOpTwo sOpTwo) [eq0 10, eq0 12, eq0 13, lo 0 7, hi 7 15, lo 0 8, hi 8 15, lo 0 9, hi 9 15, lo 0 11, hi 11 16] fOpTwo = true := by kernel_rfl
theorem iOpTwo {ρ : Nat → Int} (hF : ∀ f ∈ fOpTwo, f.holds ρ) : InstrOK (flatV ρ mAV) (flatV ρ xOpTwo) := cls hF rfl cOpTwo rOpTwo
def sOpNeg : Spec := ⟨[.var 9, .var 10, .var 12, .var 13], pairs [lo 0 7, hi 7 15, lo 0 8, hi 8 15, lo 0 11, hi 11 16], false⟩
def fOpNeg : List Fact := []
noncomputable def xOpNeg : AV := xAV (.int .i64 2) (.int .i64 11)
theorem cOpNeg : chain (leafC xOpNeg sOpNeg) [eq0 9, eq0 10, eq0 12, eq0 13, lo 0 11, hi 11 16, lo 0 7, hi 7 15, lo 0 8, hi 8 15] fOpNeg = true := by kernel_rfl
theorem rOpNeg : chain (leafR xOpNeg sOpNeg) [eq0 9, eq0 10, eq0 12, eq0 13, lo 0 7, hi 7 15, lo 0 8, hi 8 15, lo 0 11, hi 11 16] fOpNeg = true := by kernel_rfl
theorem iOpNeg {ρ : Nat → Int} (hF : ∀ f ∈ fOpNeg, f.holds ρ) : InstrOK (flatV ρ mAV) (flatV ρ xOpNeg) := cls hF rfl cOpNeg rOpNeg
def sOpClamp : Spec := ⟨[.var 9, .var 10], pairs [lo 0 7, hi 7 15, lo 0 8, hi 8 15, lo (-2147483648) 12, hi 12 2147483647, lo (-2147483648) 13, hi 13 2147483647, hiv 12 13, lo 0 11, hi 11 16], false⟩
def fOpClamp : List Fact := []
noncomputable def xOpClamp : AV := xAV (.int .i64 2) (.int .i64 12)
theorem cOpClamp : chain (leafC xOpClamp sOpClamp) [eq0 9, eq0 10, lo 0 11, hi 11 16, lo 0 7, hi 7 15, lo 0 8, hi 8 15, lo (-2147483648) 12, hi 12 2147483647, lo (-2147483648) 13, hi 13 2147483647, hiv 12 13] fOpClamp = true := by kernel_rfl
theorem rOpClamp : chain (leafR xOpClamp sOpClamp) [eq0 9, eq0 10, lo 0 7, hi 7 15, lo 0 8, hi 8 15, lo (-2147483648) 12, hi 12 2147483647, lo (-2147483648) 13, hi 13 2147483647, hiv 12 13, lo 0 11, hi 11 16] fOpClamp = true := by kernel_rfl
theorem iOpClamp {ρ : Nat → Int} (hF : ∀ f ∈ fOpClamp, f.holds ρ) : InstrOK (flatV ρ mAV) (flatV ρ xOpClamp) := cls hF rfl cOpClamp rOpClamp
def sOpShift : Spec := ⟨[.var 9, .var 10, .var 13], pairs [lo 0 7, hi 7 15, lo 0 8, hi 8 15, lo 1 12, hi 12 31, lo 0 11, hi 11 16], false⟩
def fOpShift : List Fact := []
noncomputable def xOpShift : AV := xAV (.int .i64 2) (.int .i64 13)
theorem cOpShift : chain (leafC xOpShift sOpShift) [eq0 9, eq0 10, eq0 13, lo 0 11, hi 11 16, lo 0 7, hi 7 15, lo 0 8, hi 8 15, lo (-2147483648) 12, hi 12 2147483647, lo 1 12, hi 12 31] fOpShift = true := by kernel_rfl
theorem rOpShift : chain (leafR xOpShift sOpShift) [eq0 9, eq0 10, eq0 13, lo 0 7, hi 7 15, lo 0 8, hi 8 15, lo 1 12, hi 12 31, lo 0 11, hi 11 16] fOpShift = true := by kernel_rfl
theorem iOpShift {ρ : Nat → Int} (hF : ∀ f ∈ fOpShift, f.holds ρ) : InstrOK (flatV ρ mAV) (flatV ρ xOpShift) := cls hF rfl cOpShift rOpShift
def sOpDiv : Spec := ⟨[.var 9, .var 10, .var 13], pairs [lo 0 7, hi 7 15, lo 0 8, hi 8 15, lo 1 12, hi 12 2147483647, lo 0 11, hi 11 16], false⟩
def fOpDiv : List Fact := []
noncomputable def xOpDiv : AV := xAV (.int .i64 2) (.int .i64 14)
theorem cOpDiv : chain (leafC xOpDiv sOpDiv) [eq0 9, eq0 10, eq0 13, lo 0 11, hi 11 16, lo 0 7, hi 7 15, lo 0 8, hi 8 15, lo (-2147483648) 12, hi 12 2147483647, lo 1 12] fOpDiv = true := by kernel_rfl
theorem rOpDiv : chain (leafR xOpDiv sOpDiv) [eq0 9, eq0 10, eq0 13, lo 0 7, hi 7 15, lo 0 8, hi 8 15, lo 1 12, hi 12 2147483647, lo 0 11, hi 11 16] fOpDiv = true := by kernel_rfl
theorem iOpDiv {ρ : Nat → Int} (hF : ∀ f ∈ fOpDiv, f.holds ρ) : InstrOK (flatV ρ mAV) (flatV ρ xOpDiv) := cls hF rfl cOpDiv rOpDiv
def sOpSel : Spec := ⟨[.var 12, .var 13], pairs [lo 0 7, hi 7 15, lo 0 8, hi 8 15, lo 0 9, hi 9 15, lo 0 10, hi 10 15, lo 0 11, hi 11 16], false⟩
def fOpSel : List Fact := []
noncomputable def xOpSel : AV := xAV (.int .i64 2) (.int .i64 15)
theorem cOpSel : chain (leafC xOpSel sOpSel) [eq0 12, eq0 13, lo 0 11, hi 11 16, lo 0 7, hi 7 15, lo 0 8, hi 8 15, lo 0 9, hi 9 15, lo 0 10, hi 10 15] fOpSel = true := by kernel_rfl
theorem rOpSel : chain (leafR xOpSel sOpSel) [eq0 12, eq0 13, lo 0 7, hi 7 15, lo 0 8, hi 8 15, lo 0 9, hi 9 15, lo 0 10, hi 10 15, lo 0 11, hi 11 16] fOpSel = true := by kernel_rfl
theorem iOpSel {ρ : Nat → Int} (hF : ∀ f ∈ fOpSel, f.holds ρ) : InstrOK (flatV ρ mAV) (flatV ρ xOpSel) := cls hF rfl cOpSel rOpSel
def sOpHi : Spec := ⟨[.var 9, .var 10, .var 12, .var 13], pairs [lo 0 7, hi 7 15, lo 0 8, hi 8 15, lo 0 11, hi 11 16], true⟩
def fOpHi : List Fact := [lo 16 6]
noncomputable def xOpHi : AV := xAV (.int .i64 2) (v 6)
theorem cOpHi : chain (leafC xOpHi sOpHi) [eq0 9, eq0 10, eq0 12, eq0 13, lo 0 11, hi 11 16, lo 0 7, hi 7 15, lo 0 8, hi 8 15] fOpHi = true := by kernel_rfl
theorem rOpHi : chain (leafR xOpHi sOpHi) [eq0 9, eq0 10, eq0 12, eq0 13, lo 0 7, hi 7 15, lo 0 8, hi 8 15, lo 0 11, hi 11 16] fOpHi = true := by kernel_rfl
theorem iOpHi {ρ : Nat → Int} (hF : ∀ f ∈ fOpHi, f.holds ρ) : InstrOK (flatV ρ mAV) (flatV ρ xOpHi) := cls hF rfl cOpHi rOpHi
def fKLo : List Fact := [hi 5 0]
def fKHi : List Fact := [lo 20 5]
noncomputable def xK : AV := xAV (v 5) (v 6)
theorem cKLo : leafK xK fKLo = true := by kernel_rfl
theorem cKHi : leafK xK fKHi = true := by kernel_rfl
theorem iKLo {ρ : Nat → Int} (hF : ∀ f ∈ fKLo, f.holds ρ) : InstrOK (flatV ρ mAV) (flatV ρ xK) := clsK hF rfl cKLo
theorem iKHi {ρ : Nat → Int} (hF : ∀ f ∈ fKHi, f.holds ρ) : InstrOK (flatV ρ mAV) (flatV ρ xK) := clsK hF rfl cKHi
end Go.Proofs.Yteabbkagekdehaa
