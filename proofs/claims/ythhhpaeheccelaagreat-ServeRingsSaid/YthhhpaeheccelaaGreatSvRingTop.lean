/- ServeRings: whatever the list of numbers, the call returns true. -/
import Derived.Test.YthhhpaeheccelaaGreatSvRgA
import Derived.Test.YthhhpaeheccelaaGreatSvRgB
import Derived.Test.YthhhpaeheccelaaGreatSvRgC
import Derived.Test.YthhhpaeheccelaaGreatSvRgD
import Derived.Test.YthhhpaeheccelaaGreatSvRgE
import Derived.Test.YthhhpaeheccelaaGreatSvRgH0
import Derived.Test.YthhhpaeheccelaaGreatSvRgH1
import Derived.Test.YthhhpaeheccelaaGreatSvRgH2
import Derived.Test.YthhhpaeheccelaaGreatSvRgH3
import Derived.Test.YthhhpaeheccelaaGreatSvRgH4
import Derived.Test.YthhhpaeheccelaaGreatSvRgH5
set_option linter.unusedVariables false
namespace Go.Proofs.YthhhpaeheccelaaGreat
open Go.AE Go.RowKit
theorem ring_calls (r : Raw) {w : World} (hJ : r.J μ0 w) : Calls Tryz.prog 5 #[.slice r.a r.len r.cap] w fun e w' => e = .returned (.bool true) ∧ Below w.heap.size w w' := by
  obtain ⟨n, hn, h0⟩ : ∃ n : Nat, n ≤ 5 ∧ r.at 0 % 6 = (n : Int) := ⟨(r.at 0 % 6).toNat, by omega, by omega⟩
  obtain ⟨m, hm, h1⟩ : ∃ m : Nat, m ≤ 5 ∧ r.at 1 % 6 = (m : Int) := ⟨(r.at 1 % 6).toNat, by omega, by omega⟩
  have cn : n = 0 ∨ n = 1 ∨ n = 2 ∨ n = 3 ∨ n = 4 ∨ n = 5 := by omega
  have cm : m = 0 ∨ m = 1 ∨ m = 2 ∨ m = 3 ∨ m = 4 ∨ m = 5 := by omega
  rcases cm with rfl | rfl | rfl | rfl | rfl | rfl
  · rcases cn with rfl | rfl | rfl | rfl | rfl | rfl
    · exact ring_pair r hJ h0 h1 hn hm ring_0_0
    · exact ring_pair r hJ h0 h1 hn hm ring_1_0
    · exact ring_pair r hJ h0 h1 hn hm ring_2_0
    · exact ring_pair r hJ h0 h1 hn hm ring_3_0
    · exact ring_pair r hJ h0 h1 hn hm ring_4_0
    · exact ring_pair r hJ h0 h1 hn hm ring_5_0
  · rcases cn with rfl | rfl | rfl | rfl | rfl | rfl
    · exact ring_pair1 r hJ h0 h1 hn hm ring_0_1
    · exact ring_pair1 r hJ h0 h1 hn hm ring_1_1
    · exact ring_pair1 r hJ h0 h1 hn hm ring_2_1
    · exact ring_pair1 r hJ h0 h1 hn hm ring_3_1
    · exact ring_pair1 r hJ h0 h1 hn hm ring_4_1
    · exact ring_pair1 r hJ h0 h1 hn hm ring_5_1
  · rcases cn with rfl | rfl | rfl | rfl | rfl | rfl
    · exact ring_pair r hJ h0 h1 hn hm ring_0_2
    · exact ring_pair r hJ h0 h1 hn hm ring_1_2
    · exact ring_pair r hJ h0 h1 hn hm ring_2_2
    · exact ring_pair r hJ h0 h1 hn hm ring_3_2
    · exact ring_pair r hJ h0 h1 hn hm ring_4_2
    · exact ring_pair r hJ h0 h1 hn hm ring_5_2
  · rcases cn with rfl | rfl | rfl | rfl | rfl | rfl
    · exact ring_pair r hJ h0 h1 hn hm ring_0_3
    · exact ring_pair r hJ h0 h1 hn hm ring_1_3
    · exact ring_pair r hJ h0 h1 hn hm ring_2_3
    · exact ring_pair r hJ h0 h1 hn hm ring_3_3
    · exact ring_pair r hJ h0 h1 hn hm ring_4_3
    · exact ring_pair r hJ h0 h1 hn hm ring_5_3
  · rcases cn with rfl | rfl | rfl | rfl | rfl | rfl
    · exact ring_pair r hJ h0 h1 hn hm ring_0_4
    · exact ring_pair r hJ h0 h1 hn hm ring_1_4
    · exact ring_pair r hJ h0 h1 hn hm ring_2_4
    · exact ring_pair r hJ h0 h1 hn hm ring_3_4
    · exact ring_pair r hJ h0 h1 hn hm ring_4_4
    · exact ring_pair r hJ h0 h1 hn hm ring_5_4
  · rcases cn with rfl | rfl | rfl | rfl | rfl | rfl
    · exact ring_pair r hJ h0 h1 hn hm ring_0_5
    · exact ring_pair r hJ h0 h1 hn hm ring_1_5
    · exact ring_pair r hJ h0 h1 hn hm ring_2_5
    · exact ring_pair r hJ h0 h1 hn hm ring_3_5
    · exact ring_pair r hJ h0 h1 hn hm ring_4_5
    · exact ring_pair r hJ h0 h1 hn hm ring_5_5
end Go.Proofs.YthhhpaeheccelaaGreat
