/- ServeRanges: a run of the abstract evaluator for each case of the two numbers. -/
import Derived.Test.YthhhpaeheccelaaGreatSvServes
set_option linter.unusedVariables false
set_option linter.unusedSimpArgs false
set_option maxRecDepth 100000
namespace Go.Proofs.YthhhpaeheccelaaGreat
noncomputable section
open Go.AE Go.RowKit
def extServes (args : List AV) (H : AHeap) : Option (AV × AHeap) := match args with | [] => some (.bool true, H) | _ => none
def extV : FuncId → Option (List AV → AHeap → Option (AV × AHeap))
  | 7 => some extServes
  | _ => none
theorem extServes_n {args : List AV} {A : AHeap} {v : AV} {A' : AHeap} (h : extServes args A = some (v, A')) : A.n ≤ A'.n := by
  unfold extServes at h
  split at h
  · cases h; exact Nat.le_refl _
  · cases h
theorem extV_ok [Val] (F : List Fact) : ExtOK Tryz.prog ((envOf Tryz.prog).know F) extV := by
  have hf : ∀ f g, extV f = some g → f = 7 ∧ g = extServes := by
    intro f g h
    unfold extV at h
    split at h
    · cases h; exact ⟨rfl, rfl⟩
    · cases h
  refine ⟨fun f g h => ?_, fun f g h args A v A' h2 => ?_, fun f g h args A v A' h2 μ w us R hJ hus hfr => ?_⟩
  · obtain ⟨rfl, _⟩ := hf f g h; kernel_rfl
  · obtain ⟨rfl, rfl⟩ := hf f g h; exact extServes_n h2
  · obtain ⟨rfl, rfl⟩ := hf f g h; exact ext_closed serves_calls h2 R hus
def rho2 (s d : Int) : Nat → Int
  | 0 => s
  | _ => d
abbrev val2 (s d : Int) : Val := { ρ := rho2 s d, o := fun _ => .nilFunc, J := fun _ _ => True, keep := fun _ _ => trivial }
def rangesLeaves : List (List Fact) :=
  [[.le (.lit 1) (.var 1) false], [.le (.lit 1) (.var 1) true, .le (.var 1) (.lit 4) false]] ++
  ((List.range 4).flatMap fun j =>
    [[.eq (.var 1) (.lit ((j : Int) + 1)) true, .le (.lit ((j : Int) + 1)) (.var 0) false], [.eq (.var 1) (.lit ((j : Int) + 1)) true, .le (.lit ((j : Int) + 1)) (.var 0) true, .le (.var 0) (.lit 16) false]] ++
    ((List.range (16 - j)).map fun (i : Nat) => [.eq (.var 1) (.lit ((j : Int) + 1)) true, .eq (.var 0) (.lit ((j : Int) + 1 + (i : Int))) true]))
theorem ranges_all : (rangesLeaves.all fun F => okT (evCall ((envOf Tryz.prog).know F) extV 400 3 [.sym .i64 (.var 0), .sym .i64 (.var 1)] A0)) = true := by kernel_rfl
theorem ranges_cover (s d : Int) : ∃ F, F ∈ rangesLeaves ∧ ∀ f ∈ F, f.holds (rho2 s d) := by
  by_cases h1 : 1 ≤ d
  · by_cases h4 : d ≤ 4
    · obtain ⟨j, hj, hd⟩ : ∃ j : Nat, j < 4 ∧ d = (j : Int) + 1 := ⟨(d - 1).toNat, by omega, by omega⟩
      have fd : (Fact.eq (.var 1) (.lit ((j : Int) + 1)) true).holds (rho2 s d) := decide_eq_true hd
      by_cases hs : (j : Int) + 1 ≤ s
      · have fs : (Fact.le (.lit ((j : Int) + 1)) (.var 0) true).holds (rho2 s d) := decide_eq_true hs
        by_cases h16 : s ≤ 16
        · obtain ⟨i, hi, hse⟩ : ∃ i : Nat, i < 16 - j ∧ s = (j : Int) + 1 + (i : Int) := ⟨(s - j - 1).toNat, by omega, by omega⟩
          have fe : (Fact.eq (.var 0) (.lit ((j : Int) + 1 + (i : Int))) true).holds (rho2 s d) := decide_eq_true hse
          refine ⟨[.eq (.var 1) (.lit ((j : Int) + 1)) true, .eq (.var 0) (.lit ((j : Int) + 1 + (i : Int))) true], ?_, fun f hf => ?_⟩
          · exact List.mem_append_right _ (List.mem_flatMap.2 ⟨j, List.mem_range.2 hj, List.mem_append_right _ (List.mem_map.2 ⟨i, List.mem_range.2 hi, rfl⟩)⟩)
          · rcases List.mem_cons.1 hf with rfl | hf
            · exact fd
            · rcases List.mem_cons.1 hf with rfl | hf
              · exact fe
              · cases hf
        · have ff : (Fact.le (.var 0) (.lit 16) false).holds (rho2 s d) := decide_eq_false h16
          refine ⟨[.eq (.var 1) (.lit ((j : Int) + 1)) true, .le (.lit ((j : Int) + 1)) (.var 0) true, .le (.var 0) (.lit 16) false], ?_, fun f hf => ?_⟩
          · exact List.mem_append_right _ (List.mem_flatMap.2 ⟨j, List.mem_range.2 hj, List.mem_append_left _ (List.mem_cons_of_mem _ List.mem_cons_self)⟩)
          · rcases List.mem_cons.1 hf with rfl | hf
            · exact fd
            · rcases List.mem_cons.1 hf with rfl | hf
              · exact fs
              · rcases List.mem_cons.1 hf with rfl | hf
                · exact ff
                · cases hf
      · have fs : (Fact.le (.lit ((j : Int) + 1)) (.var 0) false).holds (rho2 s d) := decide_eq_false hs
        refine ⟨[.eq (.var 1) (.lit ((j : Int) + 1)) true, .le (.lit ((j : Int) + 1)) (.var 0) false], ?_, fun f hf => ?_⟩
        · exact List.mem_append_right _ (List.mem_flatMap.2 ⟨j, List.mem_range.2 hj, List.mem_append_left _ List.mem_cons_self⟩)
        · rcases List.mem_cons.1 hf with rfl | hf
          · exact fd
          · rcases List.mem_cons.1 hf with rfl | hf
            · exact fs
            · cases hf
    · refine ⟨[.le (.lit 1) (.var 1) true, .le (.var 1) (.lit 4) false], ?_, fun f hf => ?_⟩
      · exact List.mem_append_left _ (List.mem_cons_of_mem _ List.mem_cons_self)
      · rcases List.mem_cons.1 hf with rfl | hf
        · exact decide_eq_true h1
        · rcases List.mem_cons.1 hf with rfl | hf
          · exact decide_eq_false h4
          · cases hf
  · refine ⟨[.le (.lit 1) (.var 1) false], List.mem_append_left _ List.mem_cons_self, fun f hf => ?_⟩
    rcases List.mem_cons.1 hf with rfl | hf
    · exact decide_eq_false h1
    · cases hf
theorem ranges_calls (s d : Int) (w : World) : Calls Tryz.prog 3 #[.int .i64 s, .int .i64 d] w fun e w' => e = .returned (.bool true) ∧ Below w.heap.size w w' := by
  obtain ⟨F, hm, hF⟩ := ranges_cover s d
  have h := List.all_eq_true.1 ranges_all F hm
  obtain ⟨A', h⟩ := okT_some h
  letI : Val := val2 s d
  refine ((evCall_ok (know_ok (envOf_ok Tryz.prog) hF) hmixed (extV_ok F) 400).ok 3 _ A0 _ A' h μ0 w [.int .i64 s, .int .i64 d] (Rel.empty w) trivial (VRs.cons (by simp only [VR]; rfl) (VRs.cons (by simp only [VR]; rfl) VRs.nil)) (fun _ _ _ _ => rfl)).mono ?_
  rintro e w' ⟨u, μ', rfl, hu, _, X⟩
  simp only [VR] at hu
  subst hu
  exact ⟨rfl, X.below⟩
end
end Go.Proofs.YthhhpaeheccelaaGreat
