/- Functions over rows of words that are all known: slices.Equal, slices.ContainsFunc with the test on words, isWord, wrap, Wrapped. -/
import Derived.Test.YthhhpaeheccelaaGreatSvRing
import Derived.BigQuiet
import Derived.Deep.QuietTactic
set_option linter.unusedVariables false
set_option linter.unusedSimpArgs false
set_option maxRecDepth 100000
namespace Go.Proofs.YthhhpaeheccelaaGreat
open Go.AE Go.RowKit Go.IntWalk
theorem eq8_c {g1 o1 g2 o2 n cap1 cap2 : Nat} {f : Nat → Int} {w : World} (h1 : Hid (∀ j, j < n → w.cell? ⟨g1, o1 + j, none⟩ = some (.int .i64 (f j)))) (h2 : Hid (∀ j, j < n → w.cell? ⟨g2, o2 + j, none⟩ = some (.int .i64 (f j)))) (hn : n ≤ 1000000) :
    Calls Tryz.prog 8 #[.slice (some ⟨g1, o1, none⟩) n cap1, .slice (some ⟨g2, o2, none⟩) n cap2] w fun e w' => e = .returned (.bool true) ∧ ∃ q, w' = w.drewN q := by
  go_enter Tryz.func8, Tryz.ntmps8
  go_wp2_with fail
  go_loopw [13] (fun v13 wr => ∃ j : Nat, v13 = .int .i64 (j : Int) ∧ j ≤ n ∧ ∃ q, wr = w.drewN q) (fun v13 _ => n - (intOf' v13).toNat)
  case atStart => exact ⟨0, rfl, Nat.zero_le _, 0, rfl⟩
  case round =>
    obtain ⟨j, rfl, hj, HQ⟩ := hrel
    have hq : Hid (∃ q, wr = w.drewN q) := HQ
    by_cases hlt : j < n
    · have hltI : (j : Int) < (n : Int) := by omega
      have c1 : wr.cell? ⟨g1, o1 + j, none⟩ = some (.int .i64 (f j)) := by obtain ⟨q, rfl⟩ := HQ; exact h1.out j hlt
      have c2 : wr.cell? ⟨g2, o2 + j, none⟩ = some (.int .i64 (f j)) := by obtain ⟨q, rfl⟩ := HQ; exact h2.out j hlt
      clear HQ
      generalize f j = x at c1 c2
      go_wp2_with fail
      go_quiet (fail)
      clear c1 c2
      go_wp2_with fail
      go_roundw
      case rel => exact ⟨j + 1, by go_num, by omega, by obtain ⟨q, hq⟩ := hq.out; exact ⟨q + nq, by rw [hq, World.drewN_drewN]⟩⟩
      case measure => simp [intOf']; omega
    · have hltI : ¬ (j : Int) < (n : Int) := by omega
      clear HQ
      go_wp2_with fail
      go_ret
      exact ⟨rfl, hq.out⟩
theorem word54_c (x : Int) (w : World) (h1 : -2147483648 ≤ x) (h2 : x ≤ 2147483647) : Calls Tryz.prog 54 #[.int .i64 x] w fun e w' => e = .returned (.bool false) ∧ ∃ q, w' = w.drewN q := by
  go_enter Tryz.func54, Tryz.ntmps54
  go_wp2_with fail
  all_goals go_ret
  all_goals first | exact ⟨rfl, 0, rfl⟩ | exact ⟨by simp; omega, 0, rfl⟩
theorem index74_c {g o n cap : Nat} {f : Nat → Int} {w : World} (h1 : Hid (∀ j, j < n → w.cell? ⟨g, o + j, none⟩ = some (.int .i64 (f j)))) (hf : Hid (∀ j, j < n → -2147483648 ≤ f j ∧ f j ≤ 2147483647)) (hn : n ≤ 1000000) :
    Calls Tryz.prog 74 #[.slice (some ⟨g, o, none⟩) n cap, .func (.func 54) #[] #[]] w fun e w' => e = .returned (.int .i64 (-1)) ∧ ∃ q, w' = w.drewN q := by
  go_enter Tryz.func74, Tryz.ntmps74
  go_wp2_with fail
  go_loopw [8] (fun v8 wr => ∃ j q : Nat, v8 = .int .i64 (j : Int) ∧ j ≤ n ∧ wr = w.drewN q) (fun v8 _ => n - (intOf' v8).toNat)
  case atStart => exact ⟨0, 0, rfl, Nat.zero_le _, rfl⟩
  case round =>
    obtain ⟨j, q, rfl, hj, rfl⟩ := hrel
    by_cases hlt : j < n
    · have hltI : (j : Int) < (n : Int) := by omega
      have c1 : (w.drewN q).cell? ⟨g, o + j, none⟩ = some (.int .i64 (f j)) := h1.out j hlt
      obtain ⟨b1, b2⟩ := hf.out j hlt
      generalize f j = x at c1 b1 b2
      have HC : Hid (∀ q', Calls Tryz.prog 54 #[.int .i64 x] (w.drewN q') fun e w' => e = .returned (.bool false) ∧ ∃ q'', w' = (w.drewN q').drewN q'') := fun q' => word54_c x _ b1 b2
      clear b1 b2
      go_wp2_with fail
      refine (HC.out _).mono ?_
      rintro e w1 ⟨rfl, q', rfl⟩
      clear c1
      go_wp2_with fail
      go_roundw
      case rel => exact ⟨j + 1, q + q', by go_num, by omega, rfl⟩
      case measure => simp [intOf']; omega
    · have hltI : ¬ (j : Int) < (n : Int) := by omega
      go_wp2_with fail
      go_ret
      exact ⟨rfl, q, rfl⟩
theorem all53_c {g o n cap : Nat} {f : Nat → Int} {w : World} (h1 : Hid (∀ j, j < n → w.cell? ⟨g, o + j, none⟩ = some (.int .i64 (f j)))) (hf : Hid (∀ j, j < n → -2147483648 ≤ f j ∧ f j ≤ 2147483647)) (hn : n ≤ 1000000) :
    Calls Tryz.prog 53 #[.slice (some ⟨g, o, none⟩) n cap, .func (.func 54) #[] #[]] w fun e w' => e = .returned (.bool false) ∧ ∃ q, w' = w.drewN q := by
  have hc := index74_c (cap := cap) h1 hf hn
  clear h1 hf
  go_enter Tryz.func53, Tryz.ntmps53
  go_wp2_with fail
  refine hc.mono ?_
  rintro e w1 ⟨rfl, q, rfl⟩
  go_wp2_with fail
  go_ret
  exact ⟨rfl, q, rfl⟩
/-! ### small ones, by the evaluator itself -/
abbrev val1 (n : Int) : Val := { ρ := fun _ => n, o := fun _ => .nilFunc, J := fun _ _ => True, keep := fun _ _ => trivial }
def symOf : Option (AV × AHeap) → Option Sy
  | some (.sym .i64 z, _) => some z
  | _ => none
theorem symOf_some {r : Option (AV × AHeap)} {z : Sy} (h : symOf r = some z) : ∃ A', r = some (.sym .i64 z, A') := by
  unfold symOf at h
  split at h
  · cases h; exact ⟨_, rfl⟩
  · cases h
theorem run1 {F : List Fact} {n : Int} (hF : ∀ f ∈ F, f.holds (fun _ => n)) {fn : Nat} {v : AV} {A' : AHeap} (h : evCall ((envOf Tryz.prog).know F) noExt 20 fn [.sym .i64 (.var 0)] A0 = some (v, A')) (w : World) :
    letI := val1 n
    Calls Tryz.prog fn #[.int .i64 n] w fun e w' => ∃ u μ', e = .returned u ∧ VR μ' v u ∧ Below w.heap.size w w' := by
  letI : Val := val1 n
  refine ((evCall_ok (know_ok (envOf_ok Tryz.prog) hF) hmixed noExt_ok 20).ok fn _ A0 _ A' h μ0 w [.int .i64 n] (Rel.empty w) trivial (VRs.cons (by simp only [VR]; rfl) VRs.nil) (fun _ _ _ _ => rfl)).mono ?_
  rintro e w' ⟨u, μ', rfl, hu, _, X⟩
  exact ⟨u, μ', rfl, hu, X.below⟩
theorem wrap50_c (n : Int) (w : World) : Calls Tryz.prog 50 #[.int .i64 n] w fun e w' => e = .returned (.int .i64 (IntKind.i64.wrap (IntKind.i32.wrap n))) ∧ Below w.heap.size w w' := by
  have h : symOf (evCall ((envOf Tryz.prog).know []) noExt 20 50 [.sym .i64 (.var 0)] A0) = some (.wr .i64 (.wr .i32 (.var 0))) := by kernel_rfl
  obtain ⟨A', h⟩ := symOf_some h
  refine (run1 (n := n) (fun f hf => by cases hf) h w).mono ?_
  rintro e w' ⟨u, μ', rfl, hu, B⟩
  simp only [VR, Sy.ev] at hu
  exact ⟨by rw [hu]; rfl, B⟩
theorem wrapped25_c (n : Int) (w : World) : Calls Tryz.prog 25 #[.int .i64 n] w fun e w' => e = .returned (.int .i64 (IntKind.i64.wrap (IntKind.i32.wrap n))) ∧ Below w.heap.size w w' := by
  have h : symOf (evCall ((envOf Tryz.prog).know []) noExt 20 25 [.sym .i64 (.var 0)] A0) = some (.wr .i64 (.wr .i32 (.var 0))) := by kernel_rfl
  obtain ⟨A', h⟩ := symOf_some h
  refine (run1 (n := n) (fun f hf => by cases hf) h w).mono ?_
  rintro e w' ⟨u, μ', rfl, hu, B⟩
  simp only [VR, Sy.ev] at hu
  exact ⟨by rw [hu]; rfl, B⟩
theorem word49_c (n : Int) (w : World) (h1 : -2147483648 ≤ n) (h2 : n ≤ 2147483647) : Calls Tryz.prog 49 #[.int .i64 n] w fun e w' => e = .returned (.bool true) ∧ Below w.heap.size w w' := by
  have h : okT (evCall ((envOf Tryz.prog).know [.le (.lit (-2147483648)) (.var 0) true, .le (.var 0) (.lit 2147483647) true]) noExt 20 49 [.sym .i64 (.var 0)] A0) = true := by kernel_rfl
  obtain ⟨A', h⟩ := okT_some h
  refine (run1 (n := n) (fun f hf => ?_) h w).mono ?_
  · rcases List.mem_cons.1 hf with rfl | hf
    · exact decide_eq_true h1
    · rcases List.mem_cons.1 hf with rfl | hf
      · exact decide_eq_true h2
      · cases hf
  · rintro e w' ⟨u, μ', rfl, hu, B⟩
    simp only [VR] at hu
    exact ⟨by rw [hu], B⟩
end Go.Proofs.YthhhpaeheccelaaGreat
