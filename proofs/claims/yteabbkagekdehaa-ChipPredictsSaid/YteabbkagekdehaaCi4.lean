/- Classes of instructions: code and document agree (printed by gen_ci.py). -/
import Derived.Test.YteabbkagekdehaaCi1
import Derived.KernelRfl
set_option maxRecDepth 100000
namespace Go.Proofs.Yteabbkagekdehaa
open Go.AE Go.RowKit
def sVOpLo : Spec := ⟨[.var 9, .var 10, .var 12, .var 13, .var 11], pairs [lo 0 7, hi 7 7, lo 0 8, hi 8 7], true⟩
def fVOpLo : List Fact := [hi 6 3]
noncomputable def xVOpLo : AV := xAV (.int .i64 11) (v 6)
theorem cVOpLo : chain (leafC xVOpLo sVOpLo) [eq0 11, eq0 9, eq0 10, eq0 12, eq0 13, lo 0 7, hi 7 7, lo 0 8, hi 8 7] fVOpLo = true := by kernel_rfl
theorem rVOpLo : chain (leafR xVOpLo sVOpLo) [eq0 9, eq0 10, eq0 12, eq0 13, eq0 11, lo 0 7, hi 7 7, lo 0 8, hi 8 7] fVOpLo = true := by kernel_rfl
theorem iVOpLo {ρ : Nat → Int} (hF : ∀ f ∈ fVOpLo, f.holds ρ) : InstrOK (flatV ρ mAV) (flatV ρ xVOpLo) := cls hF rfl cVOpLo rVOpLo
def sVOpTwo : Spec := ⟨[.var 10, .var 12, .var 13, .var 11], pairs [lo 0 7, hi 7 7, lo 0 8, hi 8 7, lo 0 9, hi 9 7], false⟩
def fVOpTwo : List Fact := [lo 4 6, hi 6 10]
noncomputable def xVOpTwo : AV := xAV (.int .i64 11) (v 6)
theorem cVOpTwo : chain (leafC xVOpTwo sVOpTwo) [eq0 11, eq0 10, eq0 12, eq0 13, lo 0 7, hi 7 7, lo 0 8, hi 8 7, lo 0 9, hi 9 7] fVOpTwo = true := by kernel_rfl
theorem rVOpTwo : chain (leafR xVOpTwo sVOpTwo) [eq0 10, eq0 12, eq0 13, eq0 11, lo 0 7, hi 7 7, lo 0 8, hi 8 7, lo 0 9, hi 9 7] fVOpTwo = true := by kernel_rfl
theorem iVOpTwo {ρ : Nat → Int} (hF : ∀ f ∈ fVOpTwo, f.holds ρ) : InstrOK (flatV ρ mAV) (flatV ρ xVOpTwo) := cls hF rfl cVOpTwo rVOpTwo
def sVOpNeg : Spec := ⟨[.var 9, .var 10, .var 12, .var 13, .var 11], pairs [lo 0 7, hi 7 7, lo 0 8, hi 8 7], false⟩
def fVOpNeg : List Fact := []
noncomputable def xVOpNeg : AV := xAV (.int .i64 11) (.int .i64 11)
theorem cVOpNeg : chain (leafC xVOpNeg sVOpNeg) [eq0 11, eq0 9, eq0 10, eq0 12, eq0 13, lo 0 7, hi 7 7, lo 0 8, hi 8 7] fVOpNeg = true := by kernel_rfl
theorem rVOpNeg : chain (leafR xVOpNeg sVOpNeg) [eq0 9, eq0 10, eq0 12, eq0 13, eq0 11, lo 0 7, hi 7 7, lo 0 8, hi 8 7] fVOpNeg = true := by kernel_rfl
theorem iVOpNeg {ρ : Nat → Int} (hF : ∀ f ∈ fVOpNeg, f.holds ρ) : InstrOK (flatV ρ mAV) (flatV ρ xVOpNeg) := cls hF rfl cVOpNeg rVOpNeg
def sVOpClamp : Spec := ⟨[.var 9, .var 10, .var 11], pairs [lo 0 7, hi 7 7, lo 0 8, hi 8 7, lo (-2147483648) 12, hi 12 2147483647, lo (-2147483648) 13, hi 13 2147483647, hiv 12 13], false⟩
def fVOpClamp : List Fact := []
noncomputable def xVOpClamp : AV := xAV (.int .i64 11) (.int .i64 12)
theorem cVOpClamp : chain (leafC xVOpClamp sVOpClamp) [eq0 11, eq0 9, eq0 10, lo 0 7, hi 7 7, lo 0 8, hi 8 7, lo (-2147483648) 12, hi 12 2147483647, lo (-2147483648) 13, hi 13 2147483647, hiv 12 13] fVOpClamp = true := by kernel_rfl
theorem rVOpClamp : chain (leafR xVOpClamp sVOpClamp) [eq0 9, eq0 10, eq0 11, lo 0 7, hi 7 7, lo 0 8, hi 8 7, lo (-2147483648) 12, hi 12 2147483647, lo (-2147483648) 13, hi 13 2147483647, hiv 12 13] fVOpClamp = true := by kernel_rfl
theorem iVOpClamp {ρ : Nat → Int} (hF : ∀ f ∈ fVOpClamp, f.holds ρ) : InstrOK (flatV ρ mAV) (flatV ρ xVOpClamp) := cls hF rfl cVOpClamp rVOpClamp
def sVOpShift : Spec := ⟨[.var 9, .var 10, .var 13, .var 11], pairs [lo 0 7, hi 7 7, lo 0 8, hi 8 7, lo 1 12, hi 12 31], false⟩
def fVOpShift : List Fact := []
noncomputable def xVOpShift : AV := xAV (.int .i64 11) (.int .i64 13)
theorem cVOpShift : chain (leafC xVOpShift sVOpShift) [eq0 11, eq0 9, eq0 10, eq0 13, lo 0 7, hi 7 7, lo 0 8, hi 8 7, lo (-2147483648) 12, hi 12 2147483647, lo 1 12, hi 12 31] fVOpShift = true := by kernel_rfl
theorem rVOpShift : chain (leafR xVOpShift sVOpShift) [eq0 9, eq0 10, eq0 13, eq0 11, lo 0 7, hi 7 7, lo 0 8, hi 8 7, lo 1 12, hi 12 31] fVOpShift = true := by kernel_rfl
theorem iVOpShift {ρ : Nat → Int} (hF : ∀ f ∈ fVOpShift, f.holds ρ) : InstrOK (flatV ρ mAV) (flatV ρ xVOpShift) := cls hF rfl cVOpShift rVOpShift
def sVOpDiv : Spec := ⟨[.var 9, .var 10, .var 13, .var 11], pairs [lo 0 7, hi 7 7, lo 0 8, hi 8 7, lo 1 12, hi 12 2147483647], false⟩
def fVOpDiv : List Fact := []
noncomputable def xVOpDiv : AV := xAV (.int .i64 11) (.int .i64 14)
theorem cVOpDiv : chain (leafC xVOpDiv sVOpDiv) [eq0 11, eq0 9, eq0 10, eq0 13, lo 0 7, hi 7 7, lo 0 8, hi 8 7, lo (-2147483648) 12, hi 12 2147483647, lo 1 12] fVOpDiv = true := by kernel_rfl
theorem rVOpDiv : chain (leafR xVOpDiv sVOpDiv) [eq0 9, eq0 10, eq0 13, eq0 11, lo 0 7, hi 7 7, lo 0 8, hi 8 7, lo 1 12, hi 12 2147483647] fVOpDiv = true := by kernel_rfl
theorem iVOpDiv {ρ : Nat → Int} (hF : ∀ f ∈ fVOpDiv, f.holds ρ) : InstrOK (flatV ρ mAV) (flatV ρ xVOpDiv) := cls hF rfl cVOpDiv rVOpDiv
def sVOpSel : Spec := ⟨[.var 12, .var 13, .var 11], pairs [lo 0 7, hi 7 7, lo 0 8, hi 8 7, lo 0 9, hi 9 7, lo 0 10, hi 10 7], false⟩
def fVOpSel : List Fact := []
noncomputable def xVOpSel : AV := xAV (.int .i64 11) (.int .i64 15)
theorem cVOpSel : chain (leafC xVOpSel sVOpSel) [eq0 11, eq0 12, eq0 13, lo 0 7, hi 7 7, lo 0 8, hi 8 7, lo 0 9, hi 9 7, lo 0 10, hi 10 7] fVOpSel = true := by kernel_rfl
theorem rVOpSel : chain (leafR xVOpSel sVOpSel) [eq0 12, eq0 13, eq0 11, lo 0 7, hi 7 7, lo 0 8, hi 8 7, lo 0 9, hi 9 7, lo 0 10, hi 10 7] fVOpSel = true := by kernel_rfl
theorem iVOpSel {ρ : Nat → Int} (hF : ∀ f ∈ fVOpSel, f.holds ρ) : InstrOK (flatV ρ mAV) (flatV ρ xVOpSel) := cls hF rfl cVOpSel rVOpSel
def sVOpHi : Spec := ⟨[.var 9, .var 10, .var 12, .var 13, .var 11], pairs [lo 0 7, hi 7 7, lo 0 8, hi 8 7], true⟩
def fVOpHi : List Fact := [lo 16 6]
noncomputable def xVOpHi : AV := xAV (.int .i64 11) (v 6)
theorem cVOpHi : chain (leafC xVOpHi sVOpHi) [eq0 11, eq0 9, eq0 10, eq0 12, eq0 13, lo 0 7, hi 7 7, lo 0 8, hi 8 7] fVOpHi = true := by kernel_rfl
theorem rVOpHi : chain (leafR xVOpHi sVOpHi) [eq0 9, eq0 10, eq0 12, eq0 13, eq0 11, lo 0 7, hi 7 7, lo 0 8, hi 8 7] fVOpHi = true := by kernel_rfl
theorem iVOpHi {ρ : Nat → Int} (hF : ∀ f ∈ fVOpHi, f.holds ρ) : InstrOK (flatV ρ mAV) (flatV ρ xVOpHi) := cls hF rfl cVOpHi rVOpHi
end Go.Proofs.Yteabbkagekdehaa
