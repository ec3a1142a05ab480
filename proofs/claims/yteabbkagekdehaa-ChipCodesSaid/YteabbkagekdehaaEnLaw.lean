/- The plain law of words of instructions: what groups of four words mean. -/
set_option linter.unusedVariables false
namespace Go.Proofs.Yteabbkagekdehaa
/-- a group of four words is right -/
def GrpOK (p q r s : Int) : Prop := 0 ≤ p ∧ p ≤ 4194303 ∧ 0 ≤ q ∧ q ≤ 2097151 ∧ (-2147483648 ≤ r ∧ r ≤ 2147483647) ∧ (-2147483648 ≤ s ∧ s ≤ 2147483647) ∧ -1000 ≤ q / 32 % 2048 - 1024 ∧ q / 32 % 2048 - 1024 ≤ 1000
instance (p q r s : Int) : Decidable (GrpOK p q r s) := by unfold GrpOK; exact inferInstance
/-- its instruction -/
def grpRow (p q r s : Int) : List Int := [p % 64, p / 64 % 64, p / 4096 % 32, p / 131072 % 32, q % 32, q / 32 % 2048 - 1024, q / 65536 % 32, r, s]
def grp (xs : List Int) (j : Nat) : Option (List Int) :=
  if GrpOK (xs.getD (4 * j) 0) (xs.getD (4 * j + 1) 0) (xs.getD (4 * j + 2) 0) (xs.getD (4 * j + 3) 0) then some (grpRow (xs.getD (4 * j) 0) (xs.getD (4 * j + 1) 0) (xs.getD (4 * j + 2) 0) (xs.getD (4 * j + 3) 0)) else none
/-- the instructions of so many groups -/
def decTo (xs : List Int) : Nat → Option (List Int)
  | 0 => some []
  | k + 1 => match decTo xs k, grp xs k with
    | some l, some g => some (l ++ g)
    | _, _ => none
theorem decTo_len {xs : List Int} : ∀ {k : Nat} {l : List Int}, decTo xs k = some l → l.length = k * 9
  | 0, l, h => by simp [decTo] at h; simp [← h]
  | k + 1, l, h => by
    simp only [decTo] at h
    split at h
    · rename_i l1 g h1 h2
      cases h
      have := decTo_len h1
      have hg : g.length = 9 := by
        unfold grp at h2
        split at h2
        · cases h2; rfl
        · cases h2
      rw [List.length_append]
      omega
    · cases h
theorem decTo_none {xs : List Int} {k : Nat} (h : decTo xs k = none) : ∀ m, k ≤ m → decTo xs m = none := by
  intro m hm
  induction m with
  | zero => rw [show (0 : Nat) = k by omega]; exact h
  | succ m ih =>
    by_cases hk : k = m + 1
    · rw [← hk]; exact h
    · simp only [decTo]
      rw [ih (by omega)]
theorem decTo_step {xs : List Int} {k : Nat} {l g : List Int} (h : decTo xs k = some l) (hg : grp xs k = some g) : decTo xs (k + 1) = some (l ++ g) := by
  simp only [decTo, h, hg]
theorem decTo_bad {xs : List Int} {k n : Nat} (hg : grp xs k = none) (hn : k < n) : decTo xs n = none := by
  refine decTo_none (k := k + 1) ?_ n hn
  simp only [decTo, hg]
  cases decTo xs k <;> rfl
/-- the document's test: the words of the fields are the words -/
theorem back_p {p : Int} : p % 64 + 64 * (p / 64 % 64) + 4096 * (p / 4096 % 32) + 131072 * (p / 131072 % 32) = p ↔ 0 ≤ p ∧ p ≤ 4194303 := by omega
theorem back_q {q : Int} : q % 32 + 32 * (q / 32 % 2048 - 1024 + 1024) + 65536 * (q / 65536 % 32) = q ↔ 0 ≤ q ∧ q ≤ 2097151 := by omega
end Go.Proofs.Yteabbkagekdehaa
