/- Classes of instructions: code and document agree (printed by gen_ci.py). -/
import Derived.Test.YteabbkagekdehaaCi1
import Derived.KernelRfl
set_option maxRecDepth 100000
namespace Go.Proofs.Yteabbkagekdehaa
open Go.AE Go.RowKit
def sVDup : Spec := ⟨[.var 9, .var 10, .var 12, .var 13, .var 6, .var 11], pairs [lo 0 7, hi 7 7, lo 0 8, hi 8 15], false⟩
def fVDup : List Fact := []
noncomputable def xVDup : AV := xAV (.int .i64 12) (v 6)
theorem cVDup : chain (leafC xVDup sVDup) [eq0 6, eq0 11, eq0 9, eq0 10, eq0 12, eq0 13, lo 0 7, hi 7 7, lo 0 8, hi 8 15] fVDup = true := by kernel_rfl
theorem rVDup : chain (leafR xVDup sVDup) [eq0 9, eq0 10, eq0 12, eq0 13, eq0 6, eq0 11, lo 0 7, hi 7 7, lo 0 8, hi 8 15] fVDup = true := by kernel_rfl
theorem iVDup {ρ : Nat → Int} (hF : ∀ f ∈ fVDup, f.holds ρ) : InstrOK (flatV ρ mAV) (flatV ρ xVDup) := cls hF rfl cVDup rVDup
def sVGet : Spec := ⟨[.var 9, .var 10, .var 13, .var 6, .var 11], pairs [lo 0 7, hi 7 15, lo 0 8, hi 8 7, lo 0 12, hip 12 3], false⟩
def fVGet : List Fact := [lo 2 3, hi 3 8]
noncomputable def xVGet : AV := xAV (.int .i64 13) (v 6)
theorem cVGet : chain (leafC xVGet sVGet) [eq0 6, eq0 11, eq0 9, eq0 10, eq0 13, lo 0 7, hi 7 15, lo 0 8, hi 8 7, lo (-2147483648) 12, hi 12 2147483647, lo 0 12, hip 12 3] fVGet = true := by kernel_rfl
theorem rVGet : chain (leafR xVGet sVGet) [eq0 9, eq0 10, eq0 13, eq0 6, eq0 11, lo 0 7, hi 7 15, lo 0 8, hi 8 7, lo 0 12, hip 12 3] fVGet = true := by kernel_rfl
theorem iVGet {ρ : Nat → Int} (hF : ∀ f ∈ fVGet, f.holds ρ) : InstrOK (flatV ρ mAV) (flatV ρ xVGet) := cls hF rfl cVGet rVGet
def sWts : Spec := ⟨[.var 7, .var 9, .var 6, .var 11], pairs [lo 0 8, hi 8 15, lo 0 10, hip 10 1, lo (-2147483648) 12, hi 12 2147483647, lo 0 13, hiv 13 2], false⟩
def fWts : List Fact := [lo 256 2, hi 2 4096]
noncomputable def xWts : AV := xAV (.int .i64 14) (v 6)
theorem cWts : chain (leafC xWts sWts) [eq0 6, eq0 11, eq0 7, eq0 9, lo 0 8, hi 8 15, lo 0 10, hip 10 1, lo (-2147483648) 12, hi 12 2147483647, lo (-2147483648) 13, hi 13 2147483647, lo 0 13, hiv 13 2] fWts = true := by kernel_rfl
theorem rWts : chain (leafR xWts sWts) [eq0 7, eq0 9, eq0 6, eq0 11, lo 0 8, hi 8 15, lo 0 10, hip 10 1, lo (-2147483648) 12, hi 12 2147483647, lo 0 13, hiv 13 2] fWts = true := by kernel_rfl
theorem iWts {ρ : Nat → Int} (hF : ∀ f ∈ fWts, f.holds ρ) : InstrOK (flatV ρ mAV) (flatV ρ xWts) := cls hF rfl cWts rWts
def sMac : Spec := ⟨[.var 7, .var 9, .var 10, .var 12, .var 13, .var 6, .var 11], pairs [lo 0 8, hi 8 7], false⟩
def fMac : List Fact := []
noncomputable def xMac : AV := xAV (.int .i64 15) (v 6)
theorem cMac : chain (leafC xMac sMac) [eq0 6, eq0 11, eq0 7, eq0 9, eq0 10, eq0 12, eq0 13, lo 0 8, hi 8 7] fMac = true := by kernel_rfl
theorem rMac : chain (leafR xMac sMac) [eq0 7, eq0 9, eq0 10, eq0 12, eq0 13, eq0 6, eq0 11, lo 0 8, hi 8 7] fMac = true := by kernel_rfl
theorem iMac {ρ : Nat → Int} (hF : ∀ f ∈ fMac, f.holds ρ) : InstrOK (flatV ρ mAV) (flatV ρ xMac) := cls hF rfl cMac rMac
def sClr : Spec := ⟨[.var 7, .var 8, .var 9, .var 10, .var 12, .var 13, .var 6, .var 11], pairs [], false⟩
def fClr : List Fact := []
noncomputable def xClr : AV := xAV (.int .i64 16) (v 6)
theorem cClr : chain (leafC xClr sClr) [eq0 6, eq0 11, eq0 7, eq0 8, eq0 9, eq0 10, eq0 12, eq0 13] fClr = true := by kernel_rfl
theorem rClr : chain (leafR xClr sClr) [eq0 7, eq0 8, eq0 9, eq0 10, eq0 12, eq0 13, eq0 6, eq0 11] fClr = true := by kernel_rfl
theorem iClr {ρ : Nat → Int} (hF : ∀ f ∈ fClr, f.holds ρ) : InstrOK (flatV ρ mAV) (flatV ρ xClr) := cls hF rfl cClr rClr
def sAcc : Spec := ⟨[.var 8, .var 9, .var 10, .var 12, .var 13, .var 6, .var 11], pairs [lo 0 7, hi 7 7], false⟩
def fAcc : List Fact := []
noncomputable def xAcc : AV := xAV (.int .i64 17) (v 6)
theorem cAcc : chain (leafC xAcc sAcc) [eq0 6, eq0 11, eq0 8, eq0 9, eq0 10, eq0 12, eq0 13, lo 0 7, hi 7 7] fAcc = true := by kernel_rfl
theorem rAcc : chain (leafR xAcc sAcc) [eq0 8, eq0 9, eq0 10, eq0 12, eq0 13, eq0 6, eq0 11, lo 0 7, hi 7 7] fAcc = true := by kernel_rfl
theorem iAcc {ρ : Nat → Int} (hF : ∀ f ∈ fAcc, f.holds ρ) : InstrOK (flatV ρ mAV) (flatV ρ xAcc) := cls hF rfl cAcc rAcc
def sTr : Spec := ⟨[.var 11], pairs [lo 0 7, hip 7 4, lo 0 8, hi 8 15, lo 0 9, hi 9 15, lo 0 10, hip 10 1, lo (-2147483648) 12, hi 12 2147483647, lo 1 13, hiv 13 2, lo 1 6, hi 6 2], false⟩
def fTr : List Fact := [lo 256 2, hi 2 4096]
noncomputable def xTr : AV := xAV (.int .i64 18) (v 6)
theorem cTr : chain (leafC xTr sTr) [eq0 11, lo 0 7, hip 7 4, lo 0 8, hi 8 15, lo 0 9, hi 9 15, lo 0 10, hip 10 1, lo (-2147483648) 12, hi 12 2147483647, lo (-2147483648) 13, hi 13 2147483647, lo 1 6, hi 6 2, lo 1 13, hiv 13 2] fTr = true := by kernel_rfl
theorem rTr : chain (leafR xTr sTr) [eq0 11, lo 0 7, hip 7 4, lo 0 8, hi 8 15, lo 0 9, hi 9 15, lo 0 10, hip 10 1, lo (-2147483648) 12, hi 12 2147483647, lo 1 13, hiv 13 2, lo 1 6, hi 6 2] fTr = true := by kernel_rfl
theorem iTr {ρ : Nat → Int} (hF : ∀ f ∈ fTr, f.holds ρ) : InstrOK (flatV ρ mAV) (flatV ρ xTr) := cls hF rfl cTr rTr
def sWait : Spec := ⟨[.var 8, .var 9, .var 10, .var 12, .var 13, .var 6, .var 11], pairs [lo 0 7, hip 7 4], false⟩
def fWait : List Fact := []
noncomputable def xWait : AV := xAV (.int .i64 19) (v 6)
theorem cWait : chain (leafC xWait sWait) [eq0 6, eq0 11, eq0 8, eq0 9, eq0 10, eq0 12, eq0 13, lo 0 7, hip 7 4] fWait = true := by kernel_rfl
theorem rWait : chain (leafR xWait sWait) [eq0 8, eq0 9, eq0 10, eq0 12, eq0 13, eq0 6, eq0 11, lo 0 7, hip 7 4] fWait = true := by kernel_rfl
theorem iWait {ρ : Nat → Int} (hF : ∀ f ∈ fWait, f.holds ρ) : InstrOK (flatV ρ mAV) (flatV ρ xWait) := cls hF rfl cWait rWait
end Go.Proofs.Yteabbkagekdehaa
