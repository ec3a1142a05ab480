/- The cycles of an instruction: price and the document's cycles agree (printed by gen_cp1.py). -/
import Derived.Test.YteabbkagekdehaaCi6
import Derived.KernelRfl
set_option linter.unusedVariables false
set_option linter.unusedSimpArgs false
set_option maxRecDepth 100000
namespace Go.Proofs.Yteabbkagekdehaa
open Go.AE Go.RowKit
def sameAV : AV → AV → Bool
  | .int .i64 a, .int .i64 b => decide (a = b)
  | .sym .i64 (.var i), .sym .i64 (.var j) => decide (i = j)
  | _, _ => false
noncomputable def costRun (f : FuncId) (x u : AV) (F : List Fact) : Bool := match (evCall (E1 F) extI 60 f [mAV, x] A0) with
  | some p => sameAV p.1 u
  | none => false
theorem costRun_ok {ρ : Nat → Int} {F : List Fact} (hF : ∀ f ∈ F, f.holds ρ) {f : FuncId} {x u : AV} (hx : flat x = true) (h : costRun f x u F = true) : Says f [flatV ρ mAV, flatV ρ x] (scV ρ u) := by
  letI := valR ρ
  have vr : ∀ a, flat a = true → VR μ0 a (flatV ρ a) := fun a ha => (flat_ok (ρ := ρ) (μ := μ0) ha).2 rfl
  unfold costRun at h
  split at h
  · rename_i p hp
    obtain ⟨v1, A1⟩ := p
    refine says_of hF hp (us := [flatV ρ mAV, flatV ρ x]) (VRs.cons (vr mAV (by rfl)) (VRs.cons (vr x hx) VRs.nil)) (fun μ w hw => ?_)
    simp only at h
    unfold sameAV at h
    split at h
    · simp only [decide_eq_true_eq] at h
      subst h
      simpa only [VR, scV] using hw
    · simp only [decide_eq_true_eq] at h
      subst h
      simp only [VR] at hw
      exact hw
    · cases h
  · cases h
/-- what an instruction costs -/
def PriceE (ρ : Nat → Int) : Prop := ∃ c : Int, Says 107 [flatV ρ mAV, flatV ρ xAll] (.int .i64 c) ∧ Says 89 [flatV ρ mAV, flatV ρ xAll] (.int .i64 c) ∧ 0 ≤ c ∧ c ≤ 20
theorem PriceE.of {ρ : Nat → Int} {x u : AV} {F : List Fact} (hF : ∀ f ∈ F, f.holds ρ) (hx : flat x = true) (h1 : costRun 107 x u F = true) (h2 : costRun 89 x u F = true) (e : flatV ρ x = flatV ρ xAll) {c : Int} (hc : scV ρ u = .int .i64 c) (h0 : 0 ≤ c) (h3 : c ≤ 20) : PriceE ρ := by
  have g1 := costRun_ok hF hx h1
  have g2 := costRun_ok hF hx h2
  rw [e, hc] at g1 g2
  exact ⟨c, g1, g2, h0, h3⟩
theorem aPr1 : costRun 107 (xAV (.int .i64 1) (v 6)) (.int .i64 1) [] = true := by kernel_rfl
theorem bPr1 : costRun 89 (xAV (.int .i64 1) (v 6)) (.int .i64 1) [] = true := by kernel_rfl
theorem aPr3 : costRun 107 (xAV (.int .i64 3) (v 6)) (.int .i64 1) [] = true := by kernel_rfl
theorem bPr3 : costRun 89 (xAV (.int .i64 3) (v 6)) (.int .i64 1) [] = true := by kernel_rfl
theorem aPr4 : costRun 107 (xAV (.int .i64 4) (v 6)) (.int .i64 0) [] = true := by kernel_rfl
theorem bPr4 : costRun 89 (xAV (.int .i64 4) (v 6)) (.int .i64 0) [] = true := by kernel_rfl
theorem aPr5 : costRun 107 (xAV (.int .i64 5) (v 6)) (.int .i64 20) [] = true := by kernel_rfl
theorem bPr5 : costRun 89 (xAV (.int .i64 5) (v 6)) (.int .i64 20) [] = true := by kernel_rfl
theorem aPr6 : costRun 107 (xAV (.int .i64 6) (v 6)) (.int .i64 20) [] = true := by kernel_rfl
theorem bPr6 : costRun 89 (xAV (.int .i64 6) (v 6)) (.int .i64 20) [] = true := by kernel_rfl
theorem aPr7 : costRun 107 (xAV (.int .i64 7) (v 6)) (.int .i64 2) [] = true := by kernel_rfl
theorem bPr7 : costRun 89 (xAV (.int .i64 7) (v 6)) (.int .i64 2) [] = true := by kernel_rfl
theorem aPr8 : costRun 107 (xAV (.int .i64 8) (v 6)) (.int .i64 2) [] = true := by kernel_rfl
theorem bPr8 : costRun 89 (xAV (.int .i64 8) (v 6)) (.int .i64 2) [] = true := by kernel_rfl
theorem aPr9 : costRun 107 (xAV (.int .i64 9) (v 6)) (.int .i64 2) [] = true := by kernel_rfl
theorem bPr9 : costRun 89 (xAV (.int .i64 9) (v 6)) (.int .i64 2) [] = true := by kernel_rfl
theorem aPr10 : costRun 107 (xAV (.int .i64 10) (v 6)) (.int .i64 2) [] = true := by kernel_rfl
theorem bPr10 : costRun 89 (xAV (.int .i64 10) (v 6)) (.int .i64 2) [] = true := by kernel_rfl
theorem aPr12 : costRun 107 (xAV (.int .i64 12) (v 6)) (.int .i64 1) [] = true := by kernel_rfl
theorem bPr12 : costRun 89 (xAV (.int .i64 12) (v 6)) (.int .i64 1) [] = true := by kernel_rfl
theorem aPr13 : costRun 107 (xAV (.int .i64 13) (v 6)) (.int .i64 1) [] = true := by kernel_rfl
theorem bPr13 : costRun 89 (xAV (.int .i64 13) (v 6)) (.int .i64 1) [] = true := by kernel_rfl
theorem aPr14 : costRun 107 (xAV (.int .i64 14) (v 6)) (v 3) [] = true := by kernel_rfl
theorem bPr14 : costRun 89 (xAV (.int .i64 14) (v 6)) (v 3) [] = true := by kernel_rfl
theorem aPr15 : costRun 107 (xAV (.int .i64 15) (v 6)) (.int .i64 2) [] = true := by kernel_rfl
theorem bPr15 : costRun 89 (xAV (.int .i64 15) (v 6)) (.int .i64 2) [] = true := by kernel_rfl
theorem aPr16 : costRun 107 (xAV (.int .i64 16) (v 6)) (.int .i64 1) [] = true := by kernel_rfl
theorem bPr16 : costRun 89 (xAV (.int .i64 16) (v 6)) (.int .i64 1) [] = true := by kernel_rfl
theorem aPr17 : costRun 107 (xAV (.int .i64 17) (v 6)) (.int .i64 1) [] = true := by kernel_rfl
theorem bPr17 : costRun 89 (xAV (.int .i64 17) (v 6)) (.int .i64 1) [] = true := by kernel_rfl
theorem aPr18 : costRun 107 (xAV (.int .i64 18) (v 6)) (.int .i64 2) [] = true := by kernel_rfl
theorem bPr18 : costRun 89 (xAV (.int .i64 18) (v 6)) (.int .i64 2) [] = true := by kernel_rfl
theorem aPr19 : costRun 107 (xAV (.int .i64 19) (v 6)) (.int .i64 1) [] = true := by kernel_rfl
theorem bPr19 : costRun 89 (xAV (.int .i64 19) (v 6)) (.int .i64 1) [] = true := by kernel_rfl
theorem aPr2Mul : costRun 107 (xAV (.int .i64 2) (.int .i64 6)) (.int .i64 3) [] = true := by kernel_rfl
theorem bPr2Mul : costRun 89 (xAV (.int .i64 2) (.int .i64 6)) (.int .i64 3) [] = true := by kernel_rfl
theorem aPr2Div : costRun 107 (xAV (.int .i64 2) (.int .i64 14)) (.int .i64 8) [] = true := by kernel_rfl
theorem bPr2Div : costRun 89 (xAV (.int .i64 2) (.int .i64 14)) (.int .i64 8) [] = true := by kernel_rfl
theorem aPr2Not : costRun 107 (xAV (.int .i64 2) (v 6)) (.int .i64 1) [.eq (.var 6) (.lit 6) false, .eq (.var 6) (.lit 14) false] = true := by kernel_rfl
theorem bPr2Not : costRun 89 (xAV (.int .i64 2) (v 6)) (.int .i64 1) [.eq (.var 6) (.lit 6) false, .eq (.var 6) (.lit 14) false] = true := by kernel_rfl
theorem aPr11Mul : costRun 107 (xAV (.int .i64 11) (.int .i64 6)) (.int .i64 3) [] = true := by kernel_rfl
theorem bPr11Mul : costRun 89 (xAV (.int .i64 11) (.int .i64 6)) (.int .i64 3) [] = true := by kernel_rfl
theorem aPr11Div : costRun 107 (xAV (.int .i64 11) (.int .i64 14)) (.int .i64 8) [] = true := by kernel_rfl
theorem bPr11Div : costRun 89 (xAV (.int .i64 11) (.int .i64 14)) (.int .i64 8) [] = true := by kernel_rfl
theorem aPr11Not : costRun 107 (xAV (.int .i64 11) (v 6)) (.int .i64 1) [.eq (.var 6) (.lit 6) false, .eq (.var 6) (.lit 14) false] = true := by kernel_rfl
theorem bPr11Not : costRun 89 (xAV (.int .i64 11) (v 6)) (.int .i64 1) [.eq (.var 6) (.lit 6) false, .eq (.var 6) (.lit 14) false] = true := by kernel_rfl
theorem ne_h {ρ : Nat → Int} {n : Int} {i : Nat} (h : ρ i ≠ n) : Fact.holds ρ (.eq (.var i) (.lit n) false) := decide_eq_false h
theorem price_all {ρ : Nat → Int} (hb : MachB ρ) (h1 : 1 ≤ ρ 5) (h19 : ρ 5 ≤ 19) : PriceE ρ := by
  obtain ⟨l0, l1⟩ := hb.m3
  have lits : ∀ k : Int, ρ 5 = k → scV ρ (.int .i64 k) = .int .i64 (ρ 5) := fun k h => by rw [h]; rfl
  have kits : ∀ k : Int, ρ 6 = k → scV ρ (.int .i64 k) = .int .i64 (ρ 6) := fun k h => by rw [h]; rfl
  have v6 : scV ρ (v 6) = .int .i64 (ρ 6) := rfl
  have nil : ∀ f ∈ ([] : List Fact), f.holds ρ := by simp
  have hc : ρ 5 = 1 ∨ ρ 5 = 2 ∨ ρ 5 = 3 ∨ ρ 5 = 4 ∨ ρ 5 = 5 ∨ ρ 5 = 6 ∨ ρ 5 = 7 ∨ ρ 5 = 8 ∨ ρ 5 = 9 ∨ ρ 5 = 10 ∨ ρ 5 = 11 ∨ ρ 5 = 12 ∨ ρ 5 = 13 ∨ ρ 5 = 14 ∨ ρ 5 = 15 ∨ ρ 5 = 16 ∨ ρ 5 = 17 ∨ ρ 5 = 18 ∨ ρ 5 = 19 := by omega
  rcases hc with h | h | h | h | h | h | h | h | h | h | h | h | h | h | h | h | h | h | h
  · exact .of nil rfl aPr1 bPr1 (xEq (lits _ h) v6) rfl (by decide) (by decide)
  · by_cases hm : ρ 6 = 6
    · exact .of nil rfl aPr2Mul bPr2Mul (xEq (lits _ h) (kits _ hm)) rfl (by decide) (by decide)
    · by_cases hd : ρ 6 = 14
      · exact .of nil rfl aPr2Div bPr2Div (xEq (lits _ h) (kits _ hd)) rfl (by decide) (by decide)
      · exact .of (all2 (ne_h hm) (ne_h hd)) rfl aPr2Not bPr2Not (xEq (lits _ h) v6) rfl (by decide) (by decide)
  · exact .of nil rfl aPr3 bPr3 (xEq (lits _ h) v6) rfl (by decide) (by decide)
  · exact .of nil rfl aPr4 bPr4 (xEq (lits _ h) v6) rfl (by decide) (by decide)
  · exact .of nil rfl aPr5 bPr5 (xEq (lits _ h) v6) rfl (by decide) (by decide)
  · exact .of nil rfl aPr6 bPr6 (xEq (lits _ h) v6) rfl (by decide) (by decide)
  · exact .of nil rfl aPr7 bPr7 (xEq (lits _ h) v6) rfl (by decide) (by decide)
  · exact .of nil rfl aPr8 bPr8 (xEq (lits _ h) v6) rfl (by decide) (by decide)
  · exact .of nil rfl aPr9 bPr9 (xEq (lits _ h) v6) rfl (by decide) (by decide)
  · exact .of nil rfl aPr10 bPr10 (xEq (lits _ h) v6) rfl (by decide) (by decide)
  · by_cases hm : ρ 6 = 6
    · exact .of nil rfl aPr11Mul bPr11Mul (xEq (lits _ h) (kits _ hm)) rfl (by decide) (by decide)
    · by_cases hd : ρ 6 = 14
      · exact .of nil rfl aPr11Div bPr11Div (xEq (lits _ h) (kits _ hd)) rfl (by decide) (by decide)
      · exact .of (all2 (ne_h hm) (ne_h hd)) rfl aPr11Not bPr11Not (xEq (lits _ h) v6) rfl (by decide) (by decide)
  · exact .of nil rfl aPr12 bPr12 (xEq (lits _ h) v6) rfl (by decide) (by decide)
  · exact .of nil rfl aPr13 bPr13 (xEq (lits _ h) v6) rfl (by decide) (by decide)
  · exact .of nil rfl aPr14 bPr14 (xEq (lits _ h) v6) (c := ρ 3) rfl (by omega) (by omega)
  · exact .of nil rfl aPr15 bPr15 (xEq (lits _ h) v6) rfl (by decide) (by decide)
  · exact .of nil rfl aPr16 bPr16 (xEq (lits _ h) v6) rfl (by decide) (by decide)
  · exact .of nil rfl aPr17 bPr17 (xEq (lits _ h) v6) rfl (by decide) (by decide)
  · exact .of nil rfl aPr18 bPr18 (xEq (lits _ h) v6) rfl (by decide) (by decide)
  · exact .of nil rfl aPr19 bPr19 (xEq (lits _ h) v6) rfl (by decide) (by decide)
end Go.Proofs.Yteabbkagekdehaa
