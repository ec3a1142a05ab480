/- The greatest: the code's and the document's are the same. -/
import Derived.Test.YteabbkagekdehaaCp10
import Derived.Test.YteabbkagekdehaaPln
set_option linter.unusedVariables false
namespace Go.Proofs.Yteabbkagekdehaa
theorem RelG.max {s s' : Nat × (Nat → Nat)} (h : RelG s s') : ∀ Q, max s.1 (mxTo s.2 Q) = max s'.1 (mxTo s'.2 Q)
  | 0 => by simp only [mxTo]; rw [h.1]
  | Q + 1 => by
    have ih := RelG.max h Q
    have h1 := h.1
    simp only [mxTo]
    rcases h.2 Q with e | ⟨e, l⟩
    · rw [e]; omega
    · rw [e]; omega
end Go.Proofs.Yteabbkagekdehaa
