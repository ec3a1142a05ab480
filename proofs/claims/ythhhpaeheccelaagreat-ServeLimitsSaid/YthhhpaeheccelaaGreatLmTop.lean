/- ServeLimits: all cases of what is drawn. -/
import Derived.Test.YthhhpaeheccelaaGreatLmTop0
import Derived.Test.YthhhpaeheccelaaGreatLmC0
import Derived.Test.YthhhpaeheccelaaGreatLmC1
import Derived.Test.YthhhpaeheccelaaGreatLmC2
import Derived.Test.YthhhpaeheccelaaGreatLmC3
import Derived.Test.YthhhpaeheccelaaGreatLmC4
import Derived.Test.YthhhpaeheccelaaGreatLmC5
import Derived.Test.YthhhpaeheccelaaGreatLmC6
import Derived.Test.YthhhpaeheccelaaGreatLmC7
import Derived.Test.YthhhpaeheccelaaGreatLmC8
set_option linter.unusedVariables false
set_option maxRecDepth 100000
namespace Go.Proofs.YthhhpaeheccelaaGreat
open Go.AE Go.RowKit Go.IntWalk
theorem limits_calls (r : Raw) {w : World} (hJ : r.J μ0 w) : Calls Tryz.prog 4 #[.slice r.a r.len r.cap] w fun e w' => e = .returned (.bool true) ∧ Below w.heap.size w w' := by
  refine law_start r hJ fun μ a w' S => ?_
  have b1 := Int.emod_nonneg (rhoW r 0 0) (b := 8) (by omega)
  have b2 := Int.emod_lt_of_pos (rhoW r 0 0) (b := 8) (by omega)
  have c1 := Int.emod_nonneg (rhoW r 0 1) (b := 9) (by omega)
  have c2 := Int.emod_lt_of_pos (rhoW r 0 1) (b := 9) (by omega)
  have h0 : rhoW r 0 0 % 8 = 0 ∨ rhoW r 0 0 % 8 = 1 ∨ rhoW r 0 0 % 8 = 2 ∨ rhoW r 0 0 % 8 = 3 ∨ rhoW r 0 0 % 8 = 4 ∨ rhoW r 0 0 % 8 = 5 ∨ rhoW r 0 0 % 8 = 6 ∨ rhoW r 0 0 % 8 = 7 := by omega
  have h1 : rhoW r 0 1 % 9 = 0 ∨ rhoW r 0 1 % 9 = 1 ∨ rhoW r 0 1 % 9 = 2 ∨ rhoW r 0 1 % 9 = 3 ∨ rhoW r 0 1 % 9 = 4 ∨ rhoW r 0 1 % 9 = 5 ∨ rhoW r 0 1 % 9 = 6 ∨ rhoW r 0 1 % 9 = 7 ∨ rhoW r 0 1 % 9 = 8 := by omega
  clear b1 b2 c1 c2
  rcases h1 with h1 | h1 | h1 | h1 | h1 | h1 | h1 | h1 | h1
  · rcases h0 with h0 | h0 | h0 | h0 | h0 | h0 | h0 | h0
    · exact seed_case (m := 1) S (by rw [h0]; rfl) h1 (by decide) pre0_1 (fun S' hq => chain0 (by decide) S' hq)
    · exact seed_case (m := 2) S (by rw [h0]; rfl) h1 (by decide) pre0_2 (fun S' hq => chain0 (by decide) S' hq)
    · exact seed_case (m := 3) S (by rw [h0]; rfl) h1 (by decide) pre0_3 (fun S' hq => chain0 (by decide) S' hq)
    · exact seed_case (m := 4) S (by rw [h0]; rfl) h1 (by decide) pre0_4 (fun S' hq => chain0 (by decide) S' hq)
    · exact seed_case (m := 5) S (by rw [h0]; rfl) h1 (by decide) pre0_5 (fun S' hq => chain0 (by decide) S' hq)
    · exact seed_case (m := 6) S (by rw [h0]; rfl) h1 (by decide) pre0_6 (fun S' hq => chain0 (by decide) S' hq)
    · exact seed_case (m := 7) S (by rw [h0]; rfl) h1 (by decide) pre0_7 (fun S' hq => chain0 (by decide) S' hq)
    · exact seed_case (m := 8) S (by rw [h0]; rfl) h1 (by decide) pre0_8 (fun S' hq => chain0 (by decide) S' hq)
  · rcases h0 with h0 | h0 | h0 | h0 | h0 | h0 | h0 | h0
    · exact seed_case (m := 1) S (by rw [h0]; rfl) h1 (by decide) pre1_1 (fun S' hq => chain1 (by decide) S' hq)
    · exact seed_case (m := 2) S (by rw [h0]; rfl) h1 (by decide) pre1_2 (fun S' hq => chain1 (by decide) S' hq)
    · exact seed_case (m := 3) S (by rw [h0]; rfl) h1 (by decide) pre1_3 (fun S' hq => chain1 (by decide) S' hq)
    · exact seed_case (m := 4) S (by rw [h0]; rfl) h1 (by decide) pre1_4 (fun S' hq => chain1 (by decide) S' hq)
    · exact seed_case (m := 5) S (by rw [h0]; rfl) h1 (by decide) pre1_5 (fun S' hq => chain1 (by decide) S' hq)
    · exact seed_case (m := 6) S (by rw [h0]; rfl) h1 (by decide) pre1_6 (fun S' hq => chain1 (by decide) S' hq)
    · exact seed_case (m := 7) S (by rw [h0]; rfl) h1 (by decide) pre1_7 (fun S' hq => chain1 (by decide) S' hq)
    · exact seed_case (m := 8) S (by rw [h0]; rfl) h1 (by decide) pre1_8 (fun S' hq => chain1 (by decide) S' hq)
  · rcases h0 with h0 | h0 | h0 | h0 | h0 | h0 | h0 | h0
    · exact seed_case (m := 1) S (by rw [h0]; rfl) h1 (by decide) pre2_1 (fun S' hq => chain2 (by decide) S' hq)
    · exact seed_case (m := 2) S (by rw [h0]; rfl) h1 (by decide) pre2_2 (fun S' hq => chain2 (by decide) S' hq)
    · exact seed_case (m := 3) S (by rw [h0]; rfl) h1 (by decide) pre2_3 (fun S' hq => chain2 (by decide) S' hq)
    · exact seed_case (m := 4) S (by rw [h0]; rfl) h1 (by decide) pre2_4 (fun S' hq => chain2 (by decide) S' hq)
    · exact seed_case (m := 5) S (by rw [h0]; rfl) h1 (by decide) pre2_5 (fun S' hq => chain2 (by decide) S' hq)
    · exact seed_case (m := 6) S (by rw [h0]; rfl) h1 (by decide) pre2_6 (fun S' hq => chain2 (by decide) S' hq)
    · exact seed_case (m := 7) S (by rw [h0]; rfl) h1 (by decide) pre2_7 (fun S' hq => chain2 (by decide) S' hq)
    · exact seed_case (m := 8) S (by rw [h0]; rfl) h1 (by decide) pre2_8 (fun S' hq => chain2 (by decide) S' hq)
  · rcases h0 with h0 | h0 | h0 | h0 | h0 | h0 | h0 | h0
    · exact seed_case (m := 1) S (by rw [h0]; rfl) h1 (by decide) pre3_1 (fun S' hq => chain3 (by decide) S' hq)
    · exact seed_case (m := 2) S (by rw [h0]; rfl) h1 (by decide) pre3_2 (fun S' hq => chain3 (by decide) S' hq)
    · exact seed_case (m := 3) S (by rw [h0]; rfl) h1 (by decide) pre3_3 (fun S' hq => chain3 (by decide) S' hq)
    · exact seed_case (m := 4) S (by rw [h0]; rfl) h1 (by decide) pre3_4 (fun S' hq => chain3 (by decide) S' hq)
    · exact seed_case (m := 5) S (by rw [h0]; rfl) h1 (by decide) pre3_5 (fun S' hq => chain3 (by decide) S' hq)
    · exact seed_case (m := 6) S (by rw [h0]; rfl) h1 (by decide) pre3_6 (fun S' hq => chain3 (by decide) S' hq)
    · exact seed_case (m := 7) S (by rw [h0]; rfl) h1 (by decide) pre3_7 (fun S' hq => chain3 (by decide) S' hq)
    · exact seed_case (m := 8) S (by rw [h0]; rfl) h1 (by decide) pre3_8 (fun S' hq => chain3 (by decide) S' hq)
  · rcases h0 with h0 | h0 | h0 | h0 | h0 | h0 | h0 | h0
    · exact seed_case (m := 1) S (by rw [h0]; rfl) h1 (by decide) pre4_1 (fun S' hq => chain4 (by decide) S' hq)
    · exact seed_case (m := 2) S (by rw [h0]; rfl) h1 (by decide) pre4_2 (fun S' hq => chain4 (by decide) S' hq)
    · exact seed_case (m := 3) S (by rw [h0]; rfl) h1 (by decide) pre4_3 (fun S' hq => chain4 (by decide) S' hq)
    · exact seed_case (m := 4) S (by rw [h0]; rfl) h1 (by decide) pre4_4 (fun S' hq => chain4 (by decide) S' hq)
    · exact seed_case (m := 5) S (by rw [h0]; rfl) h1 (by decide) pre4_5 (fun S' hq => chain4 (by decide) S' hq)
    · exact seed_case (m := 6) S (by rw [h0]; rfl) h1 (by decide) pre4_6 (fun S' hq => chain4 (by decide) S' hq)
    · exact seed_case (m := 7) S (by rw [h0]; rfl) h1 (by decide) pre4_7 (fun S' hq => chain4 (by decide) S' hq)
    · exact seed_case (m := 8) S (by rw [h0]; rfl) h1 (by decide) pre4_8 (fun S' hq => chain4 (by decide) S' hq)
  · rcases h0 with h0 | h0 | h0 | h0 | h0 | h0 | h0 | h0
    · exact seed_case (m := 1) S (by rw [h0]; rfl) h1 (by decide) pre5_1 (fun S' hq => chain5 (by decide) S' hq)
    · exact seed_case (m := 2) S (by rw [h0]; rfl) h1 (by decide) pre5_2 (fun S' hq => chain5 (by decide) S' hq)
    · exact seed_case (m := 3) S (by rw [h0]; rfl) h1 (by decide) pre5_3 (fun S' hq => chain5 (by decide) S' hq)
    · exact seed_case (m := 4) S (by rw [h0]; rfl) h1 (by decide) pre5_4 (fun S' hq => chain5 (by decide) S' hq)
    · exact seed_case (m := 5) S (by rw [h0]; rfl) h1 (by decide) pre5_5 (fun S' hq => chain5 (by decide) S' hq)
    · exact seed_case (m := 6) S (by rw [h0]; rfl) h1 (by decide) pre5_6 (fun S' hq => chain5 (by decide) S' hq)
    · exact seed_case (m := 7) S (by rw [h0]; rfl) h1 (by decide) pre5_7 (fun S' hq => chain5 (by decide) S' hq)
    · exact seed_case (m := 8) S (by rw [h0]; rfl) h1 (by decide) pre5_8 (fun S' hq => chain5 (by decide) S' hq)
  · rcases h0 with h0 | h0 | h0 | h0 | h0 | h0 | h0 | h0
    · exact seed_case (m := 1) S (by rw [h0]; rfl) h1 (by decide) pre6_1 (fun S' hq => chain6 (by decide) S' hq)
    · exact seed_case (m := 2) S (by rw [h0]; rfl) h1 (by decide) pre6_2 (fun S' hq => chain6 (by decide) S' hq)
    · exact seed_case (m := 3) S (by rw [h0]; rfl) h1 (by decide) pre6_3 (fun S' hq => chain6 (by decide) S' hq)
    · exact seed_case (m := 4) S (by rw [h0]; rfl) h1 (by decide) pre6_4 (fun S' hq => chain6 (by decide) S' hq)
    · exact seed_case (m := 5) S (by rw [h0]; rfl) h1 (by decide) pre6_5 (fun S' hq => chain6 (by decide) S' hq)
    · exact seed_case (m := 6) S (by rw [h0]; rfl) h1 (by decide) pre6_6 (fun S' hq => chain6 (by decide) S' hq)
    · exact seed_case (m := 7) S (by rw [h0]; rfl) h1 (by decide) pre6_7 (fun S' hq => chain6 (by decide) S' hq)
    · exact seed_case (m := 8) S (by rw [h0]; rfl) h1 (by decide) pre6_8 (fun S' hq => chain6 (by decide) S' hq)
  · rcases h0 with h0 | h0 | h0 | h0 | h0 | h0 | h0 | h0
    · exact seed_case (m := 1) S (by rw [h0]; rfl) h1 (by decide) pre7_1 (fun S' hq => chain7 (by decide) S' hq)
    · exact seed_case (m := 2) S (by rw [h0]; rfl) h1 (by decide) pre7_2 (fun S' hq => chain7 (by decide) S' hq)
    · exact seed_case (m := 3) S (by rw [h0]; rfl) h1 (by decide) pre7_3 (fun S' hq => chain7 (by decide) S' hq)
    · exact seed_case (m := 4) S (by rw [h0]; rfl) h1 (by decide) pre7_4 (fun S' hq => chain7 (by decide) S' hq)
    · exact seed_case (m := 5) S (by rw [h0]; rfl) h1 (by decide) pre7_5 (fun S' hq => chain7 (by decide) S' hq)
    · exact seed_case (m := 6) S (by rw [h0]; rfl) h1 (by decide) pre7_6 (fun S' hq => chain7 (by decide) S' hq)
    · exact seed_case (m := 7) S (by rw [h0]; rfl) h1 (by decide) pre7_7 (fun S' hq => chain7 (by decide) S' hq)
    · exact seed_case (m := 8) S (by rw [h0]; rfl) h1 (by decide) pre7_8 (fun S' hq => chain7 (by decide) S' hq)
  · rcases h0 with h0 | h0 | h0 | h0 | h0 | h0 | h0 | h0
    · exact seed_case (m := 1) S (by rw [h0]; rfl) h1 (by decide) pre8_1 (fun S' hq => chain8 (by decide) S' hq)
    · exact seed_case (m := 2) S (by rw [h0]; rfl) h1 (by decide) pre8_2 (fun S' hq => chain8 (by decide) S' hq)
    · exact seed_case (m := 3) S (by rw [h0]; rfl) h1 (by decide) pre8_3 (fun S' hq => chain8 (by decide) S' hq)
    · exact seed_case (m := 4) S (by rw [h0]; rfl) h1 (by decide) pre8_4 (fun S' hq => chain8 (by decide) S' hq)
    · exact seed_case (m := 5) S (by rw [h0]; rfl) h1 (by decide) pre8_5 (fun S' hq => chain8 (by decide) S' hq)
    · exact seed_case (m := 6) S (by rw [h0]; rfl) h1 (by decide) pre8_6 (fun S' hq => chain8 (by decide) S' hq)
    · exact seed_case (m := 7) S (by rw [h0]; rfl) h1 (by decide) pre8_7 (fun S' hq => chain8 (by decide) S' hq)
    · exact seed_case (m := 8) S (by rw [h0]; rfl) h1 (by decide) pre8_8 (fun S' hq => chain8 (by decide) S' hq)
end Go.Proofs.YthhhpaeheccelaaGreat
