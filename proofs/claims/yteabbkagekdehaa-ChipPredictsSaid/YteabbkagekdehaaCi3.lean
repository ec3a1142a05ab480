/- Classes of instructions: code and document agree (printed by gen_ci.py). -/
import Derived.Test.YteabbkagekdehaaCi1
import Derived.KernelRfl
set_option maxRecDepth 100000
namespace Go.Proofs.Yteabbkagekdehaa
open Go.AE Go.RowKit
def sLoop : Spec := ⟨[.var 8, .var 9, .var 6, .var 11], pairs [lo 0 7, hi 7 15, lo (-1000) 10, hi 10 1000, lo (-2147483648) 12, hi 12 2147483647, lo 0 13, hi 13 1000000], false⟩
def fLoop : List Fact := []
noncomputable def xLoop : AV := xAV (.int .i64 3) (v 6)
theorem cLoop : chain (leafC xLoop sLoop) [eq0 6, eq0 11, eq0 8, eq0 9, lo 0 7, hi 7 15, lo (-2147483648) 10, hi 10 2147483647, lo (-2147483648) 12, hi 12 2147483647, lo (-2147483648) 13, hi 13 2147483647, lo (-1000) 10, hi 10 1000, lo 0 13, hi 13 1000000] fLoop = true := by kernel_rfl
theorem rLoop : chain (leafR xLoop sLoop) [eq0 8, eq0 9, eq0 6, eq0 11, lo 0 7, hi 7 15, lo (-1000) 10, hi 10 1000, lo (-2147483648) 12, hi 12 2147483647, lo 0 13, hi 13 1000000] fLoop = true := by kernel_rfl
theorem iLoop {ρ : Nat → Int} (hF : ∀ f ∈ fLoop, f.holds ρ) : InstrOK (flatV ρ mAV) (flatV ρ xLoop) := cls hF rfl cLoop rLoop
def sEnd : Spec := ⟨[.var 7, .var 8, .var 9, .var 10, .var 12, .var 13, .var 6, .var 11], pairs [], false⟩
def fEnd : List Fact := []
noncomputable def xEnd : AV := xAV (.int .i64 4) (v 6)
theorem cEnd : chain (leafC xEnd sEnd) [eq0 6, eq0 11, eq0 7, eq0 8, eq0 9, eq0 10, eq0 12, eq0 13] fEnd = true := by kernel_rfl
theorem rEnd : chain (leafR xEnd sEnd) [eq0 7, eq0 8, eq0 9, eq0 10, eq0 12, eq0 13, eq0 6, eq0 11] fEnd = true := by kernel_rfl
theorem iEnd {ρ : Nat → Int} (hF : ∀ f ∈ fEnd, f.holds ρ) : InstrOK (flatV ρ mAV) (flatV ρ xEnd) := cls hF rfl cEnd rEnd
def sLdm : Spec := ⟨[.var 9, .var 10, .var 13, .var 6], pairs [lo 0 7, hi 7 15, lo 0 8, hi 8 15, lo (-2147483648) 12, hi 12 2147483647, lo 0 11, hi 11 16], false⟩
def fLdm : List Fact := []
noncomputable def xLdm : AV := xAV (.int .i64 5) (v 6)
theorem cLdm : chain (leafC xLdm sLdm) [eq0 6, eq0 9, eq0 10, eq0 13, lo 0 11, hi 11 16, lo 0 7, hi 7 15, lo 0 8, hi 8 15, lo (-2147483648) 12, hi 12 2147483647] fLdm = true := by kernel_rfl
theorem rLdm : chain (leafR xLdm sLdm) [eq0 9, eq0 10, eq0 13, eq0 6, lo 0 7, hi 7 15, lo 0 8, hi 8 15, lo (-2147483648) 12, hi 12 2147483647, lo 0 11, hi 11 16] fLdm = true := by kernel_rfl
theorem iLdm {ρ : Nat → Int} (hF : ∀ f ∈ fLdm, f.holds ρ) : InstrOK (flatV ρ mAV) (flatV ρ xLdm) := cls hF rfl cLdm rLdm
def sStm : Spec := ⟨[.var 7, .var 10, .var 13, .var 6], pairs [lo 0 8, hi 8 15, lo 0 9, hi 9 15, lo (-2147483648) 12, hi 12 2147483647, lo 0 11, hi 11 16], false⟩
def fStm : List Fact := []
noncomputable def xStm : AV := xAV (.int .i64 6) (v 6)
theorem cStm : chain (leafC xStm sStm) [eq0 6, eq0 7, eq0 10, eq0 13, lo 0 11, hi 11 16, lo 0 8, hi 8 15, lo 0 9, hi 9 15, lo (-2147483648) 12, hi 12 2147483647] fStm = true := by kernel_rfl
theorem rStm : chain (leafR xStm sStm) [eq0 7, eq0 10, eq0 13, eq0 6, lo 0 8, hi 8 15, lo 0 9, hi 9 15, lo (-2147483648) 12, hi 12 2147483647, lo 0 11, hi 11 16] fStm = true := by kernel_rfl
theorem iStm {ρ : Nat → Int} (hF : ∀ f ∈ fStm, f.holds ρ) : InstrOK (flatV ρ mAV) (flatV ρ xStm) := cls hF rfl cStm rStm
def sLds : Spec := ⟨[.var 9, .var 13, .var 6], pairs [lo 0 7, hi 7 15, lo 0 8, hi 8 15, lo 0 10, hip 10 1, lo (-2147483648) 12, hi 12 2147483647, lo 0 11, hi 11 16], false⟩
def fLds : List Fact := []
noncomputable def xLds : AV := xAV (.int .i64 7) (v 6)
theorem cLds : chain (leafC xLds sLds) [eq0 6, eq0 9, eq0 13, lo 0 11, hi 11 16, lo 0 7, hi 7 15, lo 0 8, hi 8 15, lo 0 10, hip 10 1, lo (-2147483648) 12, hi 12 2147483647] fLds = true := by kernel_rfl
theorem rLds : chain (leafR xLds sLds) [eq0 9, eq0 13, eq0 6, lo 0 7, hi 7 15, lo 0 8, hi 8 15, lo 0 10, hip 10 1, lo (-2147483648) 12, hi 12 2147483647, lo 0 11, hi 11 16] fLds = true := by kernel_rfl
theorem iLds {ρ : Nat → Int} (hF : ∀ f ∈ fLds, f.holds ρ) : InstrOK (flatV ρ mAV) (flatV ρ xLds) := cls hF rfl cLds rLds
def sSts : Spec := ⟨[.var 7, .var 13, .var 6], pairs [lo 0 8, hi 8 15, lo 0 9, hi 9 15, lo 0 10, hip 10 1, lo (-2147483648) 12, hi 12 2147483647, lo 0 11, hi 11 16], false⟩
def fSts : List Fact := []
noncomputable def xSts : AV := xAV (.int .i64 8) (v 6)
theorem cSts : chain (leafC xSts sSts) [eq0 6, eq0 7, eq0 13, lo 0 11, hi 11 16, lo 0 8, hi 8 15, lo 0 9, hi 9 15, lo 0 10, hip 10 1, lo (-2147483648) 12, hi 12 2147483647] fSts = true := by kernel_rfl
theorem rSts : chain (leafR xSts sSts) [eq0 7, eq0 13, eq0 6, lo 0 8, hi 8 15, lo 0 9, hi 9 15, lo 0 10, hip 10 1, lo (-2147483648) 12, hi 12 2147483647, lo 0 11, hi 11 16] fSts = true := by kernel_rfl
theorem iSts {ρ : Nat → Int} (hF : ∀ f ∈ fSts, f.holds ρ) : InstrOK (flatV ρ mAV) (flatV ρ xSts) := cls hF rfl cSts rSts
def sVLd : Spec := ⟨[.var 9, .var 13, .var 6, .var 11], pairs [lo 0 7, hi 7 7, lo 0 8, hi 8 15, lo 0 10, hip 10 1, lo (-2147483648) 12, hi 12 2147483647], false⟩
def fVLd : List Fact := []
noncomputable def xVLd : AV := xAV (.int .i64 9) (v 6)
theorem cVLd : chain (leafC xVLd sVLd) [eq0 6, eq0 11, eq0 9, eq0 13, lo 0 7, hi 7 7, lo 0 8, hi 8 15, lo 0 10, hip 10 1, lo (-2147483648) 12, hi 12 2147483647] fVLd = true := by kernel_rfl
theorem rVLd : chain (leafR xVLd sVLd) [eq0 9, eq0 13, eq0 6, eq0 11, lo 0 7, hi 7 7, lo 0 8, hi 8 15, lo 0 10, hip 10 1, lo (-2147483648) 12, hi 12 2147483647] fVLd = true := by kernel_rfl
theorem iVLd {ρ : Nat → Int} (hF : ∀ f ∈ fVLd, f.holds ρ) : InstrOK (flatV ρ mAV) (flatV ρ xVLd) := cls hF rfl cVLd rVLd
def sVSt : Spec := ⟨[.var 7, .var 13, .var 6, .var 11], pairs [lo 0 8, hi 8 15, lo 0 9, hi 9 7, lo 0 10, hip 10 1, lo (-2147483648) 12, hi 12 2147483647], false⟩
def fVSt : List Fact := []
noncomputable def xVSt : AV := xAV (.int .i64 10) (v 6)
theorem cVSt : chain (leafC xVSt sVSt) [eq0 6, eq0 11, eq0 7, eq0 13, lo 0 8, hi 8 15, lo 0 9, hi 9 7, lo 0 10, hip 10 1, lo (-2147483648) 12, hi 12 2147483647] fVSt = true := by kernel_rfl
theorem rVSt : chain (leafR xVSt sVSt) [eq0 7, eq0 13, eq0 6, eq0 11, lo 0 8, hi 8 15, lo 0 9, hi 9 7, lo 0 10, hip 10 1, lo (-2147483648) 12, hi 12 2147483647] fVSt = true := by kernel_rfl
theorem iVSt {ρ : Nat → Int} (hF : ∀ f ∈ fVSt, f.holds ρ) : InstrOK (flatV ρ mAV) (flatV ρ xVSt) := cls hF rfl cVSt rVSt
end Go.Proofs.Yteabbkagekdehaa
