/- ServeRings: the cases, and what a run in each case shows. -/
import Derived.Test.YthhhpaeheccelaaGreatSvRange
set_option linter.unusedVariables false
set_option linter.unusedSimpArgs false
set_option maxRecDepth 100000
namespace Go.Proofs.YthhhpaeheccelaaGreat
noncomputable section
open Go.AE Go.RowKit
def extR (W : Nat) : FuncId → Option (List AV → AHeap → Option (AV × AHeap))
  | 7 => some extServes
  | 13 => some (extNext W)
  | 46 => some (extWord W)
  | _ => none
theorem extR_ok (r : Raw) (W : Nat) (F : List Fact) : letI := r.val W
    ExtOK Tryz.prog ((envOf Tryz.prog).know F) (extR W) := by
  letI := r.val W
  have hf : ∀ f g, extR W f = some g → (f = 7 ∧ g = extServes) ∨ (f = 13 ∧ g = extNext W) ∨ (f = 46 ∧ g = extWord W) := by
    intro f g h
    unfold extR at h
    split at h
    · cases h; exact .inl ⟨rfl, rfl⟩
    · cases h; exact .inr (.inl ⟨rfl, rfl⟩)
    · cases h; exact .inr (.inr ⟨rfl, rfl⟩)
    · cases h
  refine ⟨fun f g h => ?_, fun f g h args A v A' h2 => ?_, fun f g h args A v A' h2 μ w us R hJ hus hfr => ?_⟩
  · rcases hf f g h with ⟨rfl, _⟩ | ⟨rfl, _⟩ | ⟨rfl, _⟩ <;> kernel_rfl
  · rcases hf f g h with ⟨rfl, rfl⟩ | ⟨rfl, rfl⟩ | ⟨rfl, rfl⟩
    · exact extServes_n h2
    · exact extNext_n h2
    · exact extWord_n h2
  · rcases hf f g h with ⟨rfl, rfl⟩ | ⟨rfl, rfl⟩ | ⟨rfl, rfl⟩
    · exact ext_closed serves_calls h2 R hus
    · exact extNext_ok r W h2 μ w us R hJ hus
    · exact extWord_ok r W h2 μ w us R hJ hus
def wordFacts (W : Nat) : List Fact := (List.range W).flatMap fun i => [.le (.lit (-2147483648)) (.var (2 + i)) true, .le (.var (2 + i)) (.lit 2147483647) true]
def baseFacts (n m : Nat) : List Fact := [.eq (.md 0 6) (.lit n) true, .eq (.md 1 6) (.lit m) true] ++ wordFacts (n * m)
/-- what is drawn behind the words of m lists of n -/
def ringTree (n m : Nat) : Dec :=
  if m = 0 then .leaf else
  .flip (2 + n * m) 5 (.pick (2 + n * m + 1) m fun _ => .flip (2 + n * m + 2) 3 .leaf (.flip (2 + n * m + 3) 3 (.pick (2 + n * m + 4) 2 fun _ => .leaf) (if n = 0 then .leaf else .pick (2 + n * m + 4) 2 fun _ => .leaf))) .leaf
noncomputable def ringEv (W : Nat) (F : List Fact) : Bool := okT (evCall ((envOf Tryz.prog).know F) (extR W) 1200 5 [.opq 0] A0)
theorem ring_leaf (r : Raw) {w : World} (hJ : r.J μ0 w) {W : Nat} {F : List Fact} (hF : ∀ f ∈ F, f.holds (rhoW r W)) (h : ringEv W F = true) :
    Calls Tryz.prog 5 #[.slice r.a r.len r.cap] w fun e w' => e = .returned (.bool true) ∧ Below w.heap.size w w' := by
  letI := r.val W
  obtain ⟨A', h⟩ := okT_some h
  exact opaque_run hmixed hF (extR_ok r W F) h w hJ rfl
theorem isW_low {W k : Nat} (h : k < 2) : isW W k = false := by simp [isW, ble_dec]; omega
theorem rho_word (r : Raw) (W i : Nat) (hi : i < W) (hW : W ≤ 25) : -2147483648 ≤ rhoW r W (2 + i) ∧ rhoW r W (2 + i) ≤ 2147483647 := by
  have h1 : isW W (2 + i) = true := by simp [isW, ble_dec, blt_dec]; omega
  have h2 : rhoW r W (2 + i) = r.word (posW r W (2 + i)) := by simp only [rhoW, if_neg (show ¬ 1000 ≤ 2 + i by omega), h1, if_true]
  rw [h2]
  exact r.word_in _
theorem ring_base (r : Raw) {n m : Nat} (h0 : r.at 0 % 6 = (n : Int)) (h1 : r.at 1 % 6 = (m : Int)) (hn : n ≤ 5) (hm : m ≤ 5) : ∀ f ∈ baseFacts n m, f.holds (rhoW r (n * m)) := by
  have hW : n * m ≤ 25 := Nat.mul_le_mul hn hm
  have e0 : rhoW r (n * m) 0 = r.at 0 := by simp [rhoW, isW_low, posW]
  have e1 : rhoW r (n * m) 1 = r.at 1 := by simp [rhoW, isW_low, posW]
  intro f hf
  rcases List.mem_append.1 hf with hf | hf
  · rcases List.mem_cons.1 hf with rfl | hf
    · exact decide_eq_true (by show rhoW r (n * m) 0 % ((6 : Nat) : Int) = _; rw [e0]; exact h0)
    · rcases List.mem_cons.1 hf with rfl | hf
      · exact decide_eq_true (by show rhoW r (n * m) 1 % ((6 : Nat) : Int) = _; rw [e1]; exact h1)
      · cases hf
  · obtain ⟨i, hi, hf⟩ := List.mem_flatMap.1 hf
    obtain ⟨q1, q2⟩ := rho_word r (n * m) i (List.mem_range.1 hi) hW
    rcases List.mem_cons.1 hf with rfl | hf
    · exact decide_eq_true q1
    · rcases List.mem_cons.1 hf with rfl | hf
      · exact decide_eq_true q2
      · cases hf
theorem ring_pair (r : Raw) {w : World} (hJ : r.J μ0 w) {n m : Nat} (h0 : r.at 0 % 6 = (n : Int)) (h1 : r.at 1 % 6 = (m : Int)) (hn : n ≤ 5) (hm : m ≤ 5) (h : (ringTree n m).ok (ringEv (n * m)) (baseFacts n m) = true) :
    Calls Tryz.prog 5 #[.slice r.a r.len r.cap] w fun e w' => e = .returned (.bool true) ∧ Below w.heap.size w w' :=
  Dec.sound (ρ := rhoW r (n * m)) (fun F hF h => ring_leaf r hJ hF h) (ringTree n m) (baseFacts n m) (ring_base r h0 h1 hn hm) h
end
end Go.Proofs.YthhhpaeheccelaaGreat
