/- All instructions once more, with more facts of the right ones (printed by gen_cp2.py). -/
import Derived.Test.YteabbkagekdehaaCp1
import Derived.Test.YteabbkagekdehaaCkA
set_option linter.unusedVariables false
set_option linter.unusedSimpArgs false
set_option maxRecDepth 100000
namespace Go.Proofs.Yteabbkagekdehaa
open Go.AE Go.RowKit
theorem clsK4 {ρ : Nat → Int} {F : List Fact} (hF : ∀ f ∈ F, f.holds ρ) {x : AV} (hx : flat x = true) (hc : leafK x F = true) : CodeOK (flatV ρ mAV) (flatV ρ x) 4 ∧ Says 78 [flatV ρ mAV, flatV ρ x] (.int .i64 4) := by
  simp only [leafK, Bool.and_eq_true] at hc
  obtain ⟨e1, a1, b1⟩ := eqI_some hc.1
  obtain ⟨e2, a2, b2⟩ := eqI_some hc.2
  cases b1
  cases b2
  exact ⟨codeRun_ok hF (by rfl) hx a1, refRun_ok hF (by rfl) hx a2⟩
/-- what is known of a right instruction -/
def Right (ρ : Nat → Int) : Prop := (1 ≤ ρ 5 ∧ ρ 5 ≤ 19) ∧ (ρ 5 = 3 → 0 ≤ ρ 13 ∧ ρ 13 ≤ 1000000) ∧ (ρ 5 = 18 → 0 ≤ ρ 7 ∧ ρ 7 ≤ ρ 4 - 1 ∧ 1 ≤ ρ 13 ∧ ρ 13 ≤ ρ 2) ∧ (ρ 5 = 19 → 0 ≤ ρ 7 ∧ ρ 7 ≤ ρ 4 - 1)
def InstrF (ρ : Nat → Int) : Prop := ∃ e : Int, CodeOK (flatV ρ mAV) (flatV ρ xAll) e ∧ Says 78 [flatV ρ mAV, flatV ρ xAll] (.int .i64 e) ∧ (e = 0 → Right ρ)
theorem InstrF.of {ρ : Nat → Int} {x : AV} (h1 : 1 ≤ ρ 5 ∧ ρ 5 ≤ 19) (h3 : ρ 5 ≠ 3 ∧ ρ 5 ≠ 18 ∧ ρ 5 ≠ 19) (h : InstrOK (flatV ρ mAV) (flatV ρ x)) (e : flatV ρ x = flatV ρ xAll) : InstrF ρ := by
  obtain ⟨n, g1, g2⟩ := h
  rw [e] at g1 g2
  exact ⟨n, g1, g2, fun _ => ⟨h1, fun h => absurd h h3.1, fun h => absurd h h3.2.1, fun h => absurd h h3.2.2⟩⟩
theorem sub1 {n : Int} (h : 1 ≤ n ∧ n ≤ 4) : binVal .sub .i64 n 1 = n - 1 := Go.IntWalk.i64_in (n - 1) (by omega)
theorem instr_all2 {ρ : Nat → Int} (hb : MachB ρ) : InstrF ρ := by
  obtain ⟨⟨a0, a1⟩, ⟨a2, a3⟩, ⟨a4, a5⟩, ⟨a6, a7⟩, ⟨a8, a9⟩⟩ := hb
  have lits : ∀ k : Int, ρ 5 = k → scV ρ (.int .i64 k) = .int .i64 (ρ 5) := fun k h => by rw [h]; rfl
  have kits : ∀ k : Int, ρ 6 = k → scV ρ (.int .i64 k) = .int .i64 (ρ 6) := fun k h => by rw [h]; rfl
  have v5 : scV ρ (v 5) = .int .i64 (ρ 5) := rfl
  have v6 : scV ρ (v 6) = .int .i64 (ρ 6) := rfl
  have hc : ρ 5 ≤ 0 ∨ 20 ≤ ρ 5 ∨ ρ 5 = 1 ∨ ρ 5 = 2 ∨ ρ 5 = 3 ∨ ρ 5 = 4 ∨ ρ 5 = 5 ∨ ρ 5 = 6 ∨ ρ 5 = 7 ∨ ρ 5 = 8 ∨ ρ 5 = 9 ∨ ρ 5 = 10 ∨ ρ 5 = 11 ∨ ρ 5 = 12 ∨ ρ 5 = 13 ∨ ρ 5 = 14 ∨ ρ 5 = 15 ∨ ρ 5 = 16 ∨ ρ 5 = 17 ∨ ρ 5 = 18 ∨ ρ 5 = 19 := by omega
  rcases hc with h | h | h | h | h | h | h | h | h | h | h | h | h | h | h | h | h | h | h | h | h
  · have g := clsK4 (ρ := ρ) (F := fKLo) (all1 (hi_h h)) (x := xK) rfl cKLo
    exact ⟨4, g.1, g.2, fun h => absurd h (by decide)⟩
  · have g := clsK4 (ρ := ρ) (F := fKHi) (all1 (lo_h h)) (x := xK) rfl cKHi
    exact ⟨4, g.1, g.2, fun h => absurd h (by decide)⟩
  · exact .of (by omega) (by omega) (iNum (by simp [fNum])) (xEq (lits _ h) v6)
  · have hk : ρ 6 ≤ 3 ∨ (4 ≤ ρ 6 ∧ ρ 6 ≤ 10) ∨ ρ 6 = 11 ∨ ρ 6 = 12 ∨ ρ 6 = 13 ∨ ρ 6 = 14 ∨ ρ 6 = 15 ∨ 16 ≤ ρ 6 := by omega
    rcases hk with g | g | g | g | g | g | g | g
    · exact .of (by omega) (by omega) (iOpLo (all1 (hi_h g))) (xEq (lits _ h) v6)
    · exact .of (by omega) (by omega) (iOpTwo (all2 (lo_h g.1) (hi_h g.2))) (xEq (lits _ h) v6)
    · exact .of (by omega) (by omega) (iOpNeg (by simp [fOpNeg])) (xEq (lits _ h) (kits _ g))
    · exact .of (by omega) (by omega) (iOpClamp (by simp [fOpClamp])) (xEq (lits _ h) (kits _ g))
    · exact .of (by omega) (by omega) (iOpShift (by simp [fOpShift])) (xEq (lits _ h) (kits _ g))
    · exact .of (by omega) (by omega) (iOpDiv (by simp [fOpDiv])) (xEq (lits _ h) (kits _ g))
    · exact .of (by omega) (by omega) (iOpSel (by simp [fOpSel])) (xEq (lits _ h) (kits _ g))
    · exact .of (by omega) (by omega) (iOpHi (all1 (lo_h g))) (xEq (lits _ h) v6)
  · have h1 := clsE (ρ := ρ) (F := fLoop) (by simp [fLoop]) (x := xLoop) rfl cLoop rLoop
    have e : flatV ρ xLoop = flatV ρ xAll := xEq (lits _ h) v6
    rw [e] at h1
    refine ⟨_, h1.1, h1.2, fun h0 => ?_⟩
    have h2 := Spec.ev0 h0
    simp only [sLoop, pairs, lo, hi, hip, hiv, List.mem_cons, List.not_mem_nil, or_false, forall_eq_or_imp, forall_eq, Sy.ev] at h2
    try rw [sub1 ⟨a8, a9⟩] at h2
    refine ⟨by omega, ?_, ?_, ?_⟩ <;> intro h5 <;> omega
  · exact .of (by omega) (by omega) (iEnd (by simp [fEnd])) (xEq (lits _ h) v6)
  · exact .of (by omega) (by omega) (iLdm (by simp [fLdm])) (xEq (lits _ h) v6)
  · exact .of (by omega) (by omega) (iStm (by simp [fStm])) (xEq (lits _ h) v6)
  · exact .of (by omega) (by omega) (iLds (by simp [fLds])) (xEq (lits _ h) v6)
  · exact .of (by omega) (by omega) (iSts (by simp [fSts])) (xEq (lits _ h) v6)
  · exact .of (by omega) (by omega) (iVLd (by simp [fVLd])) (xEq (lits _ h) v6)
  · exact .of (by omega) (by omega) (iVSt (by simp [fVSt])) (xEq (lits _ h) v6)
  · have hk : ρ 6 ≤ 3 ∨ (4 ≤ ρ 6 ∧ ρ 6 ≤ 10) ∨ ρ 6 = 11 ∨ ρ 6 = 12 ∨ ρ 6 = 13 ∨ ρ 6 = 14 ∨ ρ 6 = 15 ∨ 16 ≤ ρ 6 := by omega
    rcases hk with g | g | g | g | g | g | g | g
    · exact .of (by omega) (by omega) (iVOpLo (all1 (hi_h g))) (xEq (lits _ h) v6)
    · exact .of (by omega) (by omega) (iVOpTwo (all2 (lo_h g.1) (hi_h g.2))) (xEq (lits _ h) v6)
    · exact .of (by omega) (by omega) (iVOpNeg (by simp [fVOpNeg])) (xEq (lits _ h) (kits _ g))
    · exact .of (by omega) (by omega) (iVOpClamp (by simp [fVOpClamp])) (xEq (lits _ h) (kits _ g))
    · exact .of (by omega) (by omega) (iVOpShift (by simp [fVOpShift])) (xEq (lits _ h) (kits _ g))
    · exact .of (by omega) (by omega) (iVOpDiv (by simp [fVOpDiv])) (xEq (lits _ h) (kits _ g))
    · exact .of (by omega) (by omega) (iVOpSel (by simp [fVOpSel])) (xEq (lits _ h) (kits _ g))
    · exact .of (by omega) (by omega) (iVOpHi (all1 (lo_h g))) (xEq (lits _ h) v6)
  · exact .of (by omega) (by omega) (iVDup (by simp [fVDup])) (xEq (lits _ h) v6)
  · exact .of (by omega) (by omega) (iVGet (all2 (lo_h a6) (hi_h a7))) (xEq (lits _ h) v6)
  · exact .of (by omega) (by omega) (iWts (all2 (lo_h a4) (hi_h a5))) (xEq (lits _ h) v6)
  · exact .of (by omega) (by omega) (iMac (by simp [fMac])) (xEq (lits _ h) v6)
  · exact .of (by omega) (by omega) (iClr (by simp [fClr])) (xEq (lits _ h) v6)
  · exact .of (by omega) (by omega) (iAcc (by simp [fAcc])) (xEq (lits _ h) v6)
  · have h1 := clsE (ρ := ρ) (F := fTr) (all2 (lo_h a4) (hi_h a5)) (x := xTr) rfl cTr rTr
    have e : flatV ρ xTr = flatV ρ xAll := xEq (lits _ h) v6
    rw [e] at h1
    refine ⟨_, h1.1, h1.2, fun h0 => ?_⟩
    have h2 := Spec.ev0 h0
    simp only [sTr, pairs, lo, hi, hip, hiv, List.mem_cons, List.not_mem_nil, or_false, forall_eq_or_imp, forall_eq, Sy.ev] at h2
    try rw [sub1 ⟨a8, a9⟩] at h2
    refine ⟨by omega, ?_, ?_, ?_⟩ <;> intro h5 <;> omega
  · have h1 := clsE (ρ := ρ) (F := fWait) (by simp [fWait]) (x := xWait) rfl cWait rWait
    have e : flatV ρ xWait = flatV ρ xAll := xEq (lits _ h) v6
    rw [e] at h1
    refine ⟨_, h1.1, h1.2, fun h0 => ?_⟩
    have h2 := Spec.ev0 h0
    simp only [sWait, pairs, lo, hi, hip, hiv, List.mem_cons, List.not_mem_nil, or_false, forall_eq_or_imp, forall_eq, Sy.ev] at h2
    try rw [sub1 ⟨a8, a9⟩] at h2
    refine ⟨by omega, ?_, ?_, ?_⟩ <;> intro h5 <;> omega
/-- what is known of a right instruction of a row -/
def RightZ (m2 m4 : Int) (zs : List Int) (i : Nat) : Prop := (1 ≤ opZ zs i ∧ opZ zs i ≤ 19) ∧ (opZ zs i = 3 → 0 ≤ mZ zs i ∧ mZ zs i ≤ 1000000) ∧ (opZ zs i = 18 → 0 ≤ zs.getD (i * 9 + 2) 0 ∧ zs.getD (i * 9 + 2) 0 ≤ m4 - 1 ∧ 1 ≤ mZ zs i ∧ mZ zs i ≤ m2) ∧ (opZ zs i = 19 → 0 ≤ zs.getD (i * 9 + 2) 0 ∧ zs.getD (i * 9 + 2) 0 ≤ m4 - 1)
theorem errs_all2 {m0 m1 m2 m3 m4 : Int} (zs : List Int) (n : Nat) (hb : ∀ i, MachB (rhoI m0 m1 m2 m3 m4 zs i)) : ∃ err, ErrAt (mV m0 m1 m2 m3 m4) zs n err ∧ ∀ i, i < n → err i = 0 → RightZ m2 m4 zs i := by
  have h : ∀ i, ∃ e : Int, CodeOK (mV m0 m1 m2 m3 m4) (rowV zs i) e ∧ Says 78 [mV m0 m1 m2 m3 m4, rowV zs i] (zI e) ∧ (e = 0 → RightZ m2 m4 zs i) := fun i => by
    obtain ⟨e, h1, h2, h3⟩ := instr_all2 (hb i)
    rw [rhoI_m, rhoI_x] at h1 h2
    exact ⟨e, h1, h2, h3⟩
  refine ⟨fun i => (h i).choose, fun i _ => ⟨(h i).choose_spec.1, (h i).choose_spec.2.1, fun h3 h0 => ((h i).choose_spec.2.2 h0).2.1 h3⟩, fun i _ h0 => (h i).choose_spec.2.2 h0⟩
theorem prices_all {m0 m1 m2 m3 m4 : Int} (zs : List Int) (n : Nat) (hb : ∀ i, MachB (rhoI m0 m1 m2 m3 m4 zs i)) : ∃ pr : Nat → Nat, ∀ i, i < n → 1 ≤ opZ zs i ∧ opZ zs i ≤ 19 → Says 107 [mV m0 m1 m2 m3 m4, rowV zs i] (zI (pr i)) ∧ Says 89 [mV m0 m1 m2 m3 m4, rowV zs i] (zI (pr i)) ∧ pr i ≤ 20 := by
  have h : ∀ i, ∃ c : Nat, 1 ≤ opZ zs i ∧ opZ zs i ≤ 19 → Says 107 [mV m0 m1 m2 m3 m4, rowV zs i] (zI c) ∧ Says 89 [mV m0 m1 m2 m3 m4, rowV zs i] (zI c) ∧ c ≤ 20 := fun i => by
    by_cases hr : 1 ≤ opZ zs i ∧ opZ zs i ≤ 19
    · obtain ⟨c, h1, h2, h3, h4⟩ := price_all (hb i) hr.1 hr.2
      rw [rhoI_m, rhoI_x] at h1 h2
      obtain ⟨c', rfl⟩ : ∃ c' : Nat, c = c' := ⟨c.toNat, by omega⟩
      exact ⟨c', fun _ => ⟨h1, h2, by omega⟩⟩
    · exact ⟨0, fun h => absurd h hr⟩
  exact ⟨fun i => (h i).choose, fun i _ hi => (h i).choose_spec hi⟩
end Go.Proofs.Yteabbkagekdehaa
