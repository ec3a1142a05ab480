/- ChipLimits: the runs joined: whatever the list, the call returns true. -/
import Derived.Test.YteabbkagekdehaaLeaf0
import Derived.Test.YteabbkagekdehaaLeaf1
import Derived.Test.YteabbkagekdehaaLeaf2
import Derived.Test.YteabbkagekdehaaLeaf3
import Derived.Test.YteabbkagekdehaaLeaf4
import Derived.Test.YteabbkagekdehaaLeaf5
set_option linter.unusedVariables false
set_option maxRecDepth 100000
namespace Go.Proofs.Yteabbkagekdehaa
open Go.AE Go.RowKit
theorem mod3 (x : Int) : x % 3 = 0 ∨ x % 3 = 1 ∨ x % 3 = 2 := by omega
theorem mod2 (x : Int) : x % 2 = 0 ∨ x % 2 = 1 := by omega
theorem hold_md {ρ : Nat → Int} {i : Nat} {n : Nat} {m : Int} {b : Bool} (h : decide (ρ i % (n : Int) = m) = b) : (Fact.eq (.md i n) (.lit m) b).holds ρ := h
theorem hold_tab {ρ : Nat → Int} {l : List Int} {i : Nat} {n : Nat} {m v : Int} (h : ρ i % (n : Int) = v) (hl : decide (l.getD v.toNat 0 = m) = true) : (Fact.eq (.tab l (.md i n)) (.lit m) true).holds ρ := by
  simp only [Fact.holds, Sy.ev, h]; exact hl
theorem lim_leaf (r : Raw) {w : World} (hJ : r.J μ0 w) {F : List Fact} (hF : ∀ f ∈ F, f.holds r.at) (h : okT (evCall ((envOf Try.prog).know F) extLim 300 3 [.opq 0] A0) = true) :
    Calls Try.prog 3 #[.slice r.a r.len r.cap] w fun e w' => e = .returned (.bool true) ∧ Below w.heap.size w w' := by
  letI := r.val
  obtain ⟨A', h⟩ := okT_some h
  exact opaque_run hmixed hF (extLim_ok r F) h w hJ rfl
theorem lim_calls (r : Raw) {w : World} (hJ : r.J μ0 w) : Calls Try.prog 3 #[.slice r.a r.len r.cap] w fun e w' => e = .returned (.bool true) ∧ Below w.heap.size w w' := by
  rcases mod3 (r.at 0) with h0 | h0 | h0
  · have t0 : (Fact.eq (.tab [15, 16, 17] (.md 0 3)) (.lit 15) true).holds r.at := hold_tab (v := 0) h0 (by decide)
    rcases mod2 (r.at 16) with h1 | h1
    · have t1 : (Fact.eq (.md 16 2) (.lit 0) true).holds r.at := hold_md (by rw [show ((2 : Nat) : Int) = 2 from rfl, h1]; rfl)
      rcases mod2 (r.at 17) with h2 | h2
      · have t2 : (Fact.eq (.tab [39, 40] (.md 17 2)) (.lit 39) true).holds r.at := hold_tab (v := 0) h2 (by decide)
        rcases mod3 (r.at 18) with h3 | h3 | h3
        · have t3 : (Fact.eq (.tab [499998, 499999, 500000] (.md 18 3)) (.lit 499998) true).holds r.at := hold_tab (v := 0) h3 (by decide)
          exact lim_leaf r hJ (F := F_n15f39x499998) (fun f hf => by simp only [F_n15f39x499998, List.mem_cons, List.not_mem_nil, or_false] at hf; rcases hf with rfl | rfl | rfl | rfl <;> assumption) T_n15f39x499998
        · have t3 : (Fact.eq (.tab [499998, 499999, 500000] (.md 18 3)) (.lit 499999) true).holds r.at := hold_tab (v := 1) h3 (by decide)
          exact lim_leaf r hJ (F := F_n15f39x499999) (fun f hf => by simp only [F_n15f39x499999, List.mem_cons, List.not_mem_nil, or_false] at hf; rcases hf with rfl | rfl | rfl | rfl <;> assumption) T_n15f39x499999
        · have t3 : (Fact.eq (.tab [499998, 499999, 500000] (.md 18 3)) (.lit 500000) true).holds r.at := hold_tab (v := 2) h3 (by decide)
          exact lim_leaf r hJ (F := F_n15f39x500000) (fun f hf => by simp only [F_n15f39x500000, List.mem_cons, List.not_mem_nil, or_false] at hf; rcases hf with rfl | rfl | rfl | rfl <;> assumption) T_n15f39x500000
      · have t2 : (Fact.eq (.tab [39, 40] (.md 17 2)) (.lit 40) true).holds r.at := hold_tab (v := 1) h2 (by decide)
        rcases mod3 (r.at 18) with h3 | h3 | h3
        · have t3 : (Fact.eq (.tab [499998, 499999, 500000] (.md 18 3)) (.lit 499998) true).holds r.at := hold_tab (v := 0) h3 (by decide)
          exact lim_leaf r hJ (F := F_n15f40x499998) (fun f hf => by simp only [F_n15f40x499998, List.mem_cons, List.not_mem_nil, or_false] at hf; rcases hf with rfl | rfl | rfl | rfl <;> assumption) T_n15f40x499998
        · have t3 : (Fact.eq (.tab [499998, 499999, 500000] (.md 18 3)) (.lit 499999) true).holds r.at := hold_tab (v := 1) h3 (by decide)
          exact lim_leaf r hJ (F := F_n15f40x499999) (fun f hf => by simp only [F_n15f40x499999, List.mem_cons, List.not_mem_nil, or_false] at hf; rcases hf with rfl | rfl | rfl | rfl <;> assumption) T_n15f40x499999
        · have t3 : (Fact.eq (.tab [499998, 499999, 500000] (.md 18 3)) (.lit 500000) true).holds r.at := hold_tab (v := 2) h3 (by decide)
          exact lim_leaf r hJ (F := F_n15f40x500000) (fun f hf => by simp only [F_n15f40x500000, List.mem_cons, List.not_mem_nil, or_false] at hf; rcases hf with rfl | rfl | rfl | rfl <;> assumption) T_n15f40x500000
    · have t1 : (Fact.eq (.md 16 2) (.lit 0) false).holds r.at := hold_md (by rw [show ((2 : Nat) : Int) = 2 from rfl, h1]; rfl)
      exact lim_leaf r hJ (F := F_n15) (fun f hf => by simp only [F_n15, List.mem_cons, List.not_mem_nil, or_false] at hf; rcases hf with rfl | rfl <;> assumption) T_n15
  · have t0 : (Fact.eq (.tab [15, 16, 17] (.md 0 3)) (.lit 16) true).holds r.at := hold_tab (v := 1) h0 (by decide)
    rcases mod2 (r.at 17) with h1 | h1
    · have t1 : (Fact.eq (.md 17 2) (.lit 0) true).holds r.at := hold_md (by rw [show ((2 : Nat) : Int) = 2 from rfl, h1]; rfl)
      rcases mod2 (r.at 18) with h2 | h2
      · have t2 : (Fact.eq (.tab [39, 40] (.md 18 2)) (.lit 39) true).holds r.at := hold_tab (v := 0) h2 (by decide)
        rcases mod3 (r.at 19) with h3 | h3 | h3
        · have t3 : (Fact.eq (.tab [499998, 499999, 500000] (.md 19 3)) (.lit 499998) true).holds r.at := hold_tab (v := 0) h3 (by decide)
          exact lim_leaf r hJ (F := F_n16f39x499998) (fun f hf => by simp only [F_n16f39x499998, List.mem_cons, List.not_mem_nil, or_false] at hf; rcases hf with rfl | rfl | rfl | rfl <;> assumption) T_n16f39x499998
        · have t3 : (Fact.eq (.tab [499998, 499999, 500000] (.md 19 3)) (.lit 499999) true).holds r.at := hold_tab (v := 1) h3 (by decide)
          exact lim_leaf r hJ (F := F_n16f39x499999) (fun f hf => by simp only [F_n16f39x499999, List.mem_cons, List.not_mem_nil, or_false] at hf; rcases hf with rfl | rfl | rfl | rfl <;> assumption) T_n16f39x499999
        · have t3 : (Fact.eq (.tab [499998, 499999, 500000] (.md 19 3)) (.lit 500000) true).holds r.at := hold_tab (v := 2) h3 (by decide)
          exact lim_leaf r hJ (F := F_n16f39x500000) (fun f hf => by simp only [F_n16f39x500000, List.mem_cons, List.not_mem_nil, or_false] at hf; rcases hf with rfl | rfl | rfl | rfl <;> assumption) T_n16f39x500000
      · have t2 : (Fact.eq (.tab [39, 40] (.md 18 2)) (.lit 40) true).holds r.at := hold_tab (v := 1) h2 (by decide)
        rcases mod3 (r.at 19) with h3 | h3 | h3
        · have t3 : (Fact.eq (.tab [499998, 499999, 500000] (.md 19 3)) (.lit 499998) true).holds r.at := hold_tab (v := 0) h3 (by decide)
          exact lim_leaf r hJ (F := F_n16f40x499998) (fun f hf => by simp only [F_n16f40x499998, List.mem_cons, List.not_mem_nil, or_false] at hf; rcases hf with rfl | rfl | rfl | rfl <;> assumption) T_n16f40x499998
        · have t3 : (Fact.eq (.tab [499998, 499999, 500000] (.md 19 3)) (.lit 499999) true).holds r.at := hold_tab (v := 1) h3 (by decide)
          exact lim_leaf r hJ (F := F_n16f40x499999) (fun f hf => by simp only [F_n16f40x499999, List.mem_cons, List.not_mem_nil, or_false] at hf; rcases hf with rfl | rfl | rfl | rfl <;> assumption) T_n16f40x499999
        · have t3 : (Fact.eq (.tab [499998, 499999, 500000] (.md 19 3)) (.lit 500000) true).holds r.at := hold_tab (v := 2) h3 (by decide)
          exact lim_leaf r hJ (F := F_n16f40x500000) (fun f hf => by simp only [F_n16f40x500000, List.mem_cons, List.not_mem_nil, or_false] at hf; rcases hf with rfl | rfl | rfl | rfl <;> assumption) T_n16f40x500000
    · have t1 : (Fact.eq (.md 17 2) (.lit 0) false).holds r.at := hold_md (by rw [show ((2 : Nat) : Int) = 2 from rfl, h1]; rfl)
      exact lim_leaf r hJ (F := F_n16) (fun f hf => by simp only [F_n16, List.mem_cons, List.not_mem_nil, or_false] at hf; rcases hf with rfl | rfl <;> assumption) T_n16
  · have t0 : (Fact.eq (.tab [15, 16, 17] (.md 0 3)) (.lit 17) true).holds r.at := hold_tab (v := 2) h0 (by decide)
    rcases mod2 (r.at 18) with h1 | h1
    · have t1 : (Fact.eq (.md 18 2) (.lit 0) true).holds r.at := hold_md (by rw [show ((2 : Nat) : Int) = 2 from rfl, h1]; rfl)
      rcases mod2 (r.at 19) with h2 | h2
      · have t2 : (Fact.eq (.tab [39, 40] (.md 19 2)) (.lit 39) true).holds r.at := hold_tab (v := 0) h2 (by decide)
        rcases mod3 (r.at 20) with h3 | h3 | h3
        · have t3 : (Fact.eq (.tab [499998, 499999, 500000] (.md 20 3)) (.lit 499998) true).holds r.at := hold_tab (v := 0) h3 (by decide)
          exact lim_leaf r hJ (F := F_n17f39x499998) (fun f hf => by simp only [F_n17f39x499998, List.mem_cons, List.not_mem_nil, or_false] at hf; rcases hf with rfl | rfl | rfl | rfl <;> assumption) T_n17f39x499998
        · have t3 : (Fact.eq (.tab [499998, 499999, 500000] (.md 20 3)) (.lit 499999) true).holds r.at := hold_tab (v := 1) h3 (by decide)
          exact lim_leaf r hJ (F := F_n17f39x499999) (fun f hf => by simp only [F_n17f39x499999, List.mem_cons, List.not_mem_nil, or_false] at hf; rcases hf with rfl | rfl | rfl | rfl <;> assumption) T_n17f39x499999
        · have t3 : (Fact.eq (.tab [499998, 499999, 500000] (.md 20 3)) (.lit 500000) true).holds r.at := hold_tab (v := 2) h3 (by decide)
          exact lim_leaf r hJ (F := F_n17f39x500000) (fun f hf => by simp only [F_n17f39x500000, List.mem_cons, List.not_mem_nil, or_false] at hf; rcases hf with rfl | rfl | rfl | rfl <;> assumption) T_n17f39x500000
      · have t2 : (Fact.eq (.tab [39, 40] (.md 19 2)) (.lit 40) true).holds r.at := hold_tab (v := 1) h2 (by decide)
        rcases mod3 (r.at 20) with h3 | h3 | h3
        · have t3 : (Fact.eq (.tab [499998, 499999, 500000] (.md 20 3)) (.lit 499998) true).holds r.at := hold_tab (v := 0) h3 (by decide)
          exact lim_leaf r hJ (F := F_n17f40x499998) (fun f hf => by simp only [F_n17f40x499998, List.mem_cons, List.not_mem_nil, or_false] at hf; rcases hf with rfl | rfl | rfl | rfl <;> assumption) T_n17f40x499998
        · have t3 : (Fact.eq (.tab [499998, 499999, 500000] (.md 20 3)) (.lit 499999) true).holds r.at := hold_tab (v := 1) h3 (by decide)
          exact lim_leaf r hJ (F := F_n17f40x499999) (fun f hf => by simp only [F_n17f40x499999, List.mem_cons, List.not_mem_nil, or_false] at hf; rcases hf with rfl | rfl | rfl | rfl <;> assumption) T_n17f40x499999
        · have t3 : (Fact.eq (.tab [499998, 499999, 500000] (.md 20 3)) (.lit 500000) true).holds r.at := hold_tab (v := 2) h3 (by decide)
          exact lim_leaf r hJ (F := F_n17f40x500000) (fun f hf => by simp only [F_n17f40x500000, List.mem_cons, List.not_mem_nil, or_false] at hf; rcases hf with rfl | rfl | rfl | rfl <;> assumption) T_n17f40x500000
    · have t1 : (Fact.eq (.md 18 2) (.lit 0) false).holds r.at := hold_md (by rw [show ((2 : Nat) : Int) = 2 from rfl, h1]; rfl)
      exact lim_leaf r hJ (F := F_n17) (fun f hf => by simp only [F_n17, List.mem_cons, List.not_mem_nil, or_false] at hf; rcases hf with rfl | rfl <;> assumption) T_n17
end Go.Proofs.Yteabbkagekdehaa
