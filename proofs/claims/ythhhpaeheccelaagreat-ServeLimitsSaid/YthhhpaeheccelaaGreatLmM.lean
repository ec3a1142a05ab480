/- All functions that the law's runs take otherwise. -/
import Derived.Test.YthhhpaeheccelaaGreatLmMod
set_option linter.unusedVariables false
set_option linter.unusedSimpArgs false
namespace Go.Proofs.YthhhpaeheccelaaGreat
noncomputable section
open Go.AE Go.RowKit
def extM (q : Bool) (f : FuncId) : Option (List AV → AHeap → Option (AV × AHeap)) :=
  bif Nat.beq f 56 then some extCheck else bif Nat.beq f 86 then some extEntry else extL q f
theorem extM_ok (r : Raw) (q : Bool) {V : Val} [LawVal r q] (E : Env) (hE : E.fn = (envOf Tryz.prog).fn) : ExtOK Tryz.prog E (extM q) := by
  have hL := extL_ok r q E hE
  have hf : ∀ f g, extM q f = some g → (f = 56 ∧ g = extCheck) ∨ (f = 86 ∧ g = extEntry) ∨ extL q f = some g := by
    intro f g h
    unfold extM at h
    cases h1 : Nat.beq f 56 with
    | true => simp only [h1, cond_true, Option.some.injEq] at h; exact .inl ⟨by simpa using h1, h.symm⟩
    | false =>
      simp only [h1, cond_false] at h
      cases h2 : Nat.beq f 86 with
      | true => simp only [h2, cond_true, Option.some.injEq] at h; exact .inr (.inl ⟨by simpa using h2, h.symm⟩)
      | false => simp only [h2, cond_false] at h; exact .inr (.inr h)
  refine ⟨fun f g h => ?_, fun f g h args A v A' h2 => ?_, fun f g h args A v A' h2 μ w us R hJ hus hfr => ?_⟩
  · rcases hf f g h with ⟨rfl, _⟩ | ⟨rfl, _⟩ | h
    · rw [hE]; kernel_rfl
    · rw [hE]; kernel_rfl
    · exact hL.fn f g h
  · rcases hf f g h with ⟨rfl, rfl⟩ | ⟨rfl, rfl⟩ | h
    · obtain ⟨_, _, _, rfl⟩ := extCheck_inv h2; exact Nat.le_refl _
    · obtain ⟨_, _, _, _, _, _, _, _, _, rfl⟩ := extEntry_inv h2; simp
    · exact hL.n f g h _ _ _ _ h2
  · rcases hf f g h with ⟨rfl, rfl⟩ | ⟨rfl, rfl⟩ | h
    · exact extCheck_ok h2 R hus
    · exact extEntry_ok h2 R hus hfr
    · exact hL.ok f g h _ _ _ _ h2 μ w us R hJ hus hfr
noncomputable def evm (E : Env) (q : Bool) : ACall := evCall E (extM q) 400
noncomputable def envF (m sd : Int) : Env := (envOf Tryz.prog).know [.eq (.md 0 8) (.lit m) true, .eq (.md 1 9) (.lit sd) true]
end
end Go.Proofs.YthhhpaeheccelaaGreat
