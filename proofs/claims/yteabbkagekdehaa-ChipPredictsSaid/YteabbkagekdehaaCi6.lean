/- All instructions, and the machine: code and document agree (printed by gen_ci6.py). -/
import Derived.Test.YteabbkagekdehaaCi2
import Derived.Test.YteabbkagekdehaaCi3
import Derived.Test.YteabbkagekdehaaCi4
import Derived.Test.YteabbkagekdehaaCi5
import Derived.KernelRfl
set_option linter.unusedVariables false
set_option linter.unusedSimpArgs false
set_option maxRecDepth 100000
namespace Go.Proofs.Yteabbkagekdehaa
open Go.AE Go.RowKit
theorem clsE {ρ : Nat → Int} {F : List Fact} (hF : ∀ f ∈ F, f.holds ρ) {x : AV} (hx : flat x = true) {s : Spec} {ac ar : List Fact} (hc : chain (leafC x s) ac F = true) (hr : chain (leafR x s) ar F = true) :
    CodeOK (flatV ρ mAV) (flatV ρ x) (s.ev ρ) ∧ Says 78 [flatV ρ mAV, flatV ρ x] (.int .i64 (s.ev ρ)) := by
  obtain ⟨F1, h1, g1⟩ := chain_ok _ _ hc hF
  obtain ⟨F2, h2, g2⟩ := chain_ok _ _ hr hF
  obtain ⟨e1, a1, b1⟩ := eqI_some h1
  obtain ⟨e2, a2, b2⟩ := eqI_some h2
  have c1 := codeRun_ok g1 (by rfl) hx a1
  have c2 := refRun_ok g2 (by rfl) hx a2
  have d1 := Spec.run_ok g1 b1
  have d2 := Spec.run_ok g2 b2
  exact ⟨by rw [d1]; exact c1, by rw [d2]; exact c2⟩
theorem Spec.ev0 {s : Spec} {ρ : Nat → Int} (h : s.ev ρ = 0) : ∀ p ∈ s.rng, p.1.ev ρ ≤ p.2.ev ρ := by
  intro p hp
  unfold Spec.ev at h
  split at h
  · omega
  · split at h
    · omega
    · rename_i h1
      simp only [List.any_eq_true, not_exists, not_and, Bool.not_eq_true, Bool.not_eq_false', decide_eq_true_eq] at h1
      exact h1 p hp
theorem Spec.ev_or {s : Spec} (hz : s.zero = []) (hb : s.bad = false) (ρ : Nat → Int) : s.ev ρ = 0 ∨ s.ev ρ = 9 := by
  unfold Spec.ev
  rw [hz, hb]
  simp only [List.any_nil, Bool.false_eq_true, if_false]
  split
  · exact .inr rfl
  · exact .inl rfl
/-! ### The machine -/
noncomputable def intRun (f : FuncId) (F : List Fact) : Option Int :=
  (evCall (E1 F) extI 60 f [mAV] A0).bind fun p => match p.1 with
  | .int .i64 e => some e
  | _ => none
theorem intRun_ok {ρ : Nat → Int} {F : List Fact} (hF : ∀ f ∈ F, f.holds ρ) {f : FuncId} {e : Int} (h : intRun f F = some e) : Says f [flatV ρ mAV] (.int .i64 e) := by
  letI := valR ρ
  have vr : ∀ a, flat a = true → VR μ0 a (flatV ρ a) := fun a ha => (flat_ok (ρ := ρ) (μ := μ0) ha).2 rfl
  simp only [intRun, Option.bind_eq_some_iff] at h
  obtain ⟨⟨v1, A1⟩, h1, h2⟩ := h
  split at h2
  · rename_i e' hv
    simp only at hv
    subst hv
    cases h2
    exact says_of hF h1 (us := [flatV ρ mAV]) (VRs.cons (vr mAV (by rfl)) VRs.nil) (fun μ u hu => by simpa only [VR] using hu)
  · cases h2
def sMach : Spec := ⟨[], pairs [lo 1 0, hi 0 524288, lo 2 1, hi 1 8, lo 256 2, hi 2 4096, lo 2 3, hi 3 8, lo 1 4, hi 4 4], false⟩
noncomputable def leafM (f : FuncId) (F : List Fact) : Bool := eqI (intRun f F) (sMach.run F)
def aMach : List Fact := [lo 1 0, hi 0 524288, lo 2 1, hi 1 8, lo 256 2, hi 2 4096, lo 2 3, hi 3 8, lo 1 4, hi 4 4]
theorem cMach : chain (leafM 25) aMach [] = true := by kernel_rfl
theorem rfMach : chain (leafM 26) aMach [] = true := by kernel_rfl
structure MachB (ρ : Nat → Int) : Prop where
  m0 : 1 ≤ ρ 0 ∧ ρ 0 ≤ 524288
  m1 : 2 ≤ ρ 1 ∧ ρ 1 ≤ 8
  m2 : 256 ≤ ρ 2 ∧ ρ 2 ≤ 4096
  m3 : 2 ≤ ρ 3 ∧ ρ 3 ≤ 8
  m4 : 1 ≤ ρ 4 ∧ ρ 4 ≤ 4
theorem mach_all (ρ : Nat → Int) : ∃ e : Int, Says 25 [flatV ρ mAV] (.int .i64 e) ∧ Says 26 [flatV ρ mAV] (.int .i64 e) ∧ (e = 0 ∨ e = 9) ∧ (e = 0 → MachB ρ) := by
  have one : ∀ f, chain (leafM f) aMach [] = true → Says f [flatV ρ mAV] (.int .i64 (sMach.ev ρ)) := fun f h => by
    obtain ⟨F1, h1, g1⟩ := chain_ok (ρ := ρ) _ _ h (by simp)
    obtain ⟨e1, a1, b1⟩ := eqI_some h1
    rw [Spec.run_ok g1 b1]
    exact intRun_ok g1 a1
  refine ⟨sMach.ev ρ, one 25 cMach, one 26 rfMach, Spec.ev_or rfl rfl ρ, fun h => ?_⟩
  have h1 := Spec.ev0 h
  simp only [sMach, pairs, lo, hi, List.mem_cons, List.not_mem_nil, or_false, forall_eq_or_imp, forall_eq, Sy.ev] at h1
  obtain ⟨a0, a1, a2, a3, a4, a5, a6, a7, a8, a9⟩ := h1
  exact ⟨⟨a0, a1⟩, ⟨a2, a3⟩, ⟨a4, a5⟩, ⟨a6, a7⟩, ⟨a8, a9⟩⟩
/-! ### All instructions -/
noncomputable def xAll : AV := xAV (v 5) (v 6)
def InstrE (ρ : Nat → Int) : Prop := ∃ e : Int, CodeOK (flatV ρ mAV) (flatV ρ xAll) e ∧ Says 78 [flatV ρ mAV, flatV ρ xAll] (.int .i64 e) ∧ (ρ 5 = 3 → e = 0 → 0 ≤ ρ 13 ∧ ρ 13 ≤ 1000000)
theorem InstrE.of {ρ : Nat → Int} {x : AV} (h3 : ρ 5 ≠ 3) (h : InstrOK (flatV ρ mAV) (flatV ρ x)) (e : flatV ρ x = flatV ρ xAll) : InstrE ρ := by
  obtain ⟨n, h1, h2⟩ := h
  rw [e] at h1 h2
  exact ⟨n, h1, h2, fun h => absurd h h3⟩
theorem xEq {ρ : Nat → Int} {a b : AV} (h1 : scV ρ a = .int .i64 (ρ 5)) (h2 : scV ρ b = .int .i64 (ρ 6)) : flatV ρ (xAV a b) = flatV ρ xAll := by
  simp only [flatV, xAll, xAV, List.map_cons, List.map_nil, h1, h2]
  rfl
theorem lo_h {ρ : Nat → Int} {n : Int} {i : Nat} (h : n ≤ ρ i) : (lo n i).holds ρ := decide_eq_true h
theorem hi_h {ρ : Nat → Int} {n : Int} {i : Nat} (h : ρ i ≤ n) : (hi i n).holds ρ := decide_eq_true h
theorem all1 {ρ : Nat → Int} {a : Fact} (h : a.holds ρ) : ∀ f ∈ [a], f.holds ρ := fun f hf => by rw [List.mem_singleton.1 hf]; exact h
theorem all2 {ρ : Nat → Int} {a b : Fact} (h : a.holds ρ) (g : b.holds ρ) : ∀ f ∈ [a, b], f.holds ρ := fun f hf => by
  rcases List.mem_cons.1 hf with rfl | hf
  · exact h
  · rw [List.mem_singleton.1 hf]; exact g
theorem instr_all {ρ : Nat → Int} (hb : MachB ρ) : InstrE ρ := by
  obtain ⟨⟨a0, a1⟩, ⟨a2, a3⟩, ⟨a4, a5⟩, ⟨a6, a7⟩, ⟨a8, a9⟩⟩ := hb
  have lits : ∀ k : Int, ρ 5 = k → scV ρ (.int .i64 k) = .int .i64 (ρ 5) := fun k h => by rw [h]; rfl
  have kits : ∀ k : Int, ρ 6 = k → scV ρ (.int .i64 k) = .int .i64 (ρ 6) := fun k h => by rw [h]; rfl
  have v5 : scV ρ (v 5) = .int .i64 (ρ 5) := rfl
  have v6 : scV ρ (v 6) = .int .i64 (ρ 6) := rfl
  have hc : ρ 5 ≤ 0 ∨ 20 ≤ ρ 5 ∨ ρ 5 = 1 ∨ ρ 5 = 2 ∨ ρ 5 = 3 ∨ ρ 5 = 4 ∨ ρ 5 = 5 ∨ ρ 5 = 6 ∨ ρ 5 = 7 ∨ ρ 5 = 8 ∨ ρ 5 = 9 ∨ ρ 5 = 10 ∨ ρ 5 = 11 ∨ ρ 5 = 12 ∨ ρ 5 = 13 ∨ ρ 5 = 14 ∨ ρ 5 = 15 ∨ ρ 5 = 16 ∨ ρ 5 = 17 ∨ ρ 5 = 18 ∨ ρ 5 = 19 := by omega
  rcases hc with h | h | h | h | h | h | h | h | h | h | h | h | h | h | h | h | h | h | h | h | h
  · exact .of (by omega) (iKLo (all1 (hi_h h))) (xEq v5 v6)
  · exact .of (by omega) (iKHi (all1 (lo_h h))) (xEq v5 v6)
  · exact .of (by omega) (iNum (by simp [fNum])) (xEq (lits _ h) v6)
  · have hk : ρ 6 ≤ 3 ∨ (4 ≤ ρ 6 ∧ ρ 6 ≤ 10) ∨ ρ 6 = 11 ∨ ρ 6 = 12 ∨ ρ 6 = 13 ∨ ρ 6 = 14 ∨ ρ 6 = 15 ∨ 16 ≤ ρ 6 := by omega
    rcases hk with g | g | g | g | g | g | g | g
    · exact .of (by omega) (iOpLo (all1 (hi_h g))) (xEq (lits _ h) v6)
    · exact .of (by omega) (iOpTwo (all2 (lo_h g.1) (hi_h g.2))) (xEq (lits _ h) v6)
    · exact .of (by omega) (iOpNeg (by simp [fOpNeg])) (xEq (lits _ h) (kits _ g))
    · exact .of (by omega) (iOpClamp (by simp [fOpClamp])) (xEq (lits _ h) (kits _ g))
    · exact .of (by omega) (iOpShift (by simp [fOpShift])) (xEq (lits _ h) (kits _ g))
    · exact .of (by omega) (iOpDiv (by simp [fOpDiv])) (xEq (lits _ h) (kits _ g))
    · exact .of (by omega) (iOpSel (by simp [fOpSel])) (xEq (lits _ h) (kits _ g))
    · exact .of (by omega) (iOpHi (all1 (lo_h g))) (xEq (lits _ h) v6)
  · have h1 := clsE (ρ := ρ) (F := fLoop) (by simp [fLoop]) (x := xLoop) rfl cLoop rLoop
    have e : flatV ρ xLoop = flatV ρ xAll := xEq (lits _ h) v6
    rw [e] at h1
    refine ⟨_, h1.1, h1.2, fun _ h0 => ?_⟩
    have h2 := Spec.ev0 h0
    simp only [sLoop, pairs, lo, hi, List.mem_cons, List.not_mem_nil, or_false, forall_eq_or_imp, forall_eq, Sy.ev] at h2
    omega
  · exact .of (by omega) (iEnd (by simp [fEnd])) (xEq (lits _ h) v6)
  · exact .of (by omega) (iLdm (by simp [fLdm])) (xEq (lits _ h) v6)
  · exact .of (by omega) (iStm (by simp [fStm])) (xEq (lits _ h) v6)
  · exact .of (by omega) (iLds (by simp [fLds])) (xEq (lits _ h) v6)
  · exact .of (by omega) (iSts (by simp [fSts])) (xEq (lits _ h) v6)
  · exact .of (by omega) (iVLd (by simp [fVLd])) (xEq (lits _ h) v6)
  · exact .of (by omega) (iVSt (by simp [fVSt])) (xEq (lits _ h) v6)
  · have hk : ρ 6 ≤ 3 ∨ (4 ≤ ρ 6 ∧ ρ 6 ≤ 10) ∨ ρ 6 = 11 ∨ ρ 6 = 12 ∨ ρ 6 = 13 ∨ ρ 6 = 14 ∨ ρ 6 = 15 ∨ 16 ≤ ρ 6 := by omega
    rcases hk with g | g | g | g | g | g | g | g
    · exact .of (by omega) (iVOpLo (all1 (hi_h g))) (xEq (lits _ h) v6)
    · exact .of (by omega) (iVOpTwo (all2 (lo_h g.1) (hi_h g.2))) (xEq (lits _ h) v6)
    · exact .of (by omega) (iVOpNeg (by simp [fVOpNeg])) (xEq (lits _ h) (kits _ g))
    · exact .of (by omega) (iVOpClamp (by simp [fVOpClamp])) (xEq (lits _ h) (kits _ g))
    · exact .of (by omega) (iVOpShift (by simp [fVOpShift])) (xEq (lits _ h) (kits _ g))
    · exact .of (by omega) (iVOpDiv (by simp [fVOpDiv])) (xEq (lits _ h) (kits _ g))
    · exact .of (by omega) (iVOpSel (by simp [fVOpSel])) (xEq (lits _ h) (kits _ g))
    · exact .of (by omega) (iVOpHi (all1 (lo_h g))) (xEq (lits _ h) v6)
  · exact .of (by omega) (iVDup (by simp [fVDup])) (xEq (lits _ h) v6)
  · exact .of (by omega) (iVGet (all2 (lo_h a6) (hi_h a7))) (xEq (lits _ h) v6)
  · exact .of (by omega) (iWts (all2 (lo_h a4) (hi_h a5))) (xEq (lits _ h) v6)
  · exact .of (by omega) (iMac (by simp [fMac])) (xEq (lits _ h) v6)
  · exact .of (by omega) (iClr (by simp [fClr])) (xEq (lits _ h) v6)
  · exact .of (by omega) (iAcc (by simp [fAcc])) (xEq (lits _ h) v6)
  · exact .of (by omega) (iTr (all2 (lo_h a4) (hi_h a5))) (xEq (lits _ h) v6)
  · exact .of (by omega) (iWait (by simp [fWait])) (xEq (lits _ h) v6)
end Go.Proofs.Yteabbkagekdehaa
