/- The functions that the run of ChipLimits takes by their contracts. -/
import Derived.Test.YteabbkagekdehaaNextExt
import Derived.Test.YteabbkagekdehaaGetExt2
set_option linter.unusedVariables false
set_option maxRecDepth 100000
namespace Go.Proofs.Yteabbkagekdehaa
open Go.AE Go.RowKit
def extGet (args : List AV) (H : AHeap) : Option (AV × AHeap) :=
  match args with
  | [.ptr b g o, .int .u8 x] => ((List.range 6).find? fun j => decide (gKey j = x)).bind fun j => some (.ptr b g (o + gFld j), H)
  | _ => none
theorem extGet_inv {args : List AV} {A : AHeap} {v : AV} {A' : AHeap} (h : extGet args A = some (v, A')) : ∃ b g o j, j < 6 ∧ args = [.ptr b g o, .int .u8 (gKey j)] ∧ v = .ptr b g (o + gFld j) ∧ A' = A := by
  unfold extGet at h
  split at h
  · rename_i b g o x
    simp only [Option.bind_eq_some_iff, Option.some.injEq, Prod.mk.injEq] at h
    obtain ⟨j, h1, rfl, rfl⟩ := h
    have h2 := List.find?_some h1
    have h3 := List.mem_of_find?_eq_some h1
    simp only [decide_eq_true_eq] at h2
    subst h2
    exact ⟨b, g, o, j, List.mem_range.1 h3, rfl, rfl, rfl⟩
  · cases h
theorem extGet_ok [Val] {args : List AV} {A : AHeap} {v : AV} {A' : AHeap} (h : extGet args A = some (v, A')) {μ : Mu} {w : World} {us : List Value} (R : Rel A μ w) (hus : VRs μ args us) :
    Calls Try.prog 96 us.toArray w fun e w' => ∃ u μ', e = .returned u ∧ VR μ' v u ∧ Rel A' μ' w' ∧ Ext A A' μ μ' w w' := by
  obtain ⟨b, g, o, j, hj, rfl, rfl, rfl⟩ := extGet_inv h
  simp only [VRs] at hus
  obtain ⟨u1, us1, rfl, hu1, u2, us2, rfl, hu2, rfl⟩ := hus
  simp only [VR] at hu1 hu2
  obtain ⟨c, sz, hm, rfl⟩ := hu1
  subst hu2
  refine (get_calls hj c o w (R.bound _ _ _ _ hm)).mono ?_
  rintro e w' ⟨rfl, B⟩
  exact ⟨_, μ, rfl, by simp only [VR]; exact ⟨c, sz, hm, rfl⟩, R.grow B, Ext.grow B⟩
noncomputable def chipsRun : Bool := okT (evCall (envOf Try.prog) noExt 200 12 [] A0)
theorem chipsRun_true : chipsRun = true := by kernel_rfl
theorem chips_calls (w : World) : Calls Try.prog 12 #[] w fun e w' => e = .returned (.bool true) ∧ Below w.heap.size w w' := by
  obtain ⟨A', h⟩ := okT_some chipsRun_true
  exact closed_run hmixed h w
def extChips (args : List AV) (H : AHeap) : Option (AV × AHeap) := match args with | [] => some (.bool true, H) | _ => none
def extLim : FuncId → Option (List AV → AHeap → Option (AV × AHeap))
  | 12 => some extChips
  | 23 => some extNext
  | 96 => some extGet
  | _ => none
theorem fnSome {f : Nat} (h : ((envOf Try.prog).fn f).isSome = true) : ((envOf Try.prog).fn f).isSome = true := h
theorem extLim_ok (r : Raw) (F : List Fact) : letI := r.val
    ExtOK Try.prog ((envOf Try.prog).know F) extLim := by
  letI := r.val
  have hf : ∀ f g, extLim f = some g → (f = 12 ∧ g = extChips) ∨ (f = 23 ∧ g = extNext) ∨ (f = 96 ∧ g = extGet) := by
    intro f g h
    unfold extLim at h
    split at h
    · cases h; exact .inl ⟨rfl, rfl⟩
    · cases h; exact .inr (.inl ⟨rfl, rfl⟩)
    · cases h; exact .inr (.inr ⟨rfl, rfl⟩)
    · cases h
  refine ⟨fun f g h => ?_, fun f g h args A v A' h2 => ?_, fun f g h args A v A' h2 μ w us R hJ hus hfr => ?_⟩
  · rcases hf f g h with ⟨rfl, _⟩ | ⟨rfl, _⟩ | ⟨rfl, _⟩ <;> kernel_rfl
  · rcases hf f g h with ⟨rfl, rfl⟩ | ⟨rfl, rfl⟩ | ⟨rfl, rfl⟩
    · unfold extChips at h2
      split at h2
      · cases h2; exact Nat.le_refl _
      · cases h2
    · exact extNext_n h2
    · obtain ⟨_, _, _, _, _, _, _, rfl⟩ := extGet_inv h2; exact Nat.le_refl _
  · rcases hf f g h with ⟨rfl, rfl⟩ | ⟨rfl, rfl⟩ | ⟨rfl, rfl⟩
    · exact ext_closed chips_calls h2 R hus
    · exact extNext_ok r h2 μ w us R hJ hus hfr
    · exact extGet_ok h2 R hus
end Go.Proofs.Yteabbkagekdehaa
