/- Stream.Next and Below, walked: the number that a call hands out and the cell that it writes. Conditions: as each theorem types them. -/
import Derived.Test.YthhhpaeheccelaaGreatRows
import Derived.WalkKit
import Derived.ProofKit
import Derived.Below
import Derived.BigRegion
namespace Go.Proofs.YthhhpaeheccelaaGreat
open Go.ChangeShapes Go.WideShapes Go.ChangeAt Go.RowKit Go.IntWalk
set_option linter.unusedVariables false
theorem tmod_emod (x n : Int) (h1 : 1 ≤ n) : x % n = if x.tmod n < 0 then x.tmod n + n else x.tmod n := by
  have h2 := Int.tmod_add_mul_tdiv x n
  have h3 : x.tmod n < n := Int.tmod_lt_of_pos x (by omega)
  have h4 : -n < x.tmod n := by
    have := Int.tmod_lt_of_pos (-x) (b := n) (by omega)
    rw [Int.neg_tmod] at this
    omega
  split
  · rename_i h
    have : x % n = (x.tmod n + n) % n := by
      conv => lhs; rw [← h2]
      rw [Int.add_mul_emod_self_left, Int.add_emod_right]
    rw [this, Int.emod_eq_of_lt (by omega) (by omega)]
  · rename_i h
    have : x % n = (x.tmod n) % n := by
      conv => lhs; rw [← h2]
      rw [Int.add_mul_emod_self_left]
    rw [this, Int.emod_eq_of_lt (by omega) (by omega)]
theorem below_walk (x n : Int) (w : World) (h1 : 1 ≤ n) (h2 : n ≤ 4294967296) :
    Calls Tryz.prog 36 #[.int .i64 x, .int .i64 n] w fun e w' => e = .returned (.int .i64 (x % n)) ∧ w' = w := by
  have hn : (n < 1) = False := by simp; omega
  have hn0 : n ≠ 0 := by omega
  have h3 : x.tmod n < n := Int.tmod_lt_of_pos x (by omega)
  have h4 : -n < x.tmod n := by
    have := Int.tmod_lt_of_pos (-x) (b := n) (by omega)
    rw [Int.neg_tmod] at this
    omega
  have hm := tmod_emod x n h1
  by_cases hx : x.tmod n < 0
  · rw [if_pos hx] at hm
    go_enter Tryz.func36, Tryz.ntmps36
    go_wp2
    go_ret
    exact ⟨by rw [hm]; rfl, rfl⟩
  · rw [if_neg hx] at hm
    go_enter Tryz.func36, Tryz.ntmps36
    go_wp2
    go_ret
    exact ⟨rfl, rfl⟩
theorem next_walk0 (c o : Nat) (a : Option Addr) (cap : Nat) (k n : Int) (w : World) (hL : w.cell? ⟨c, o, none⟩ = some (.slice a 0 cap)) (hk : w.cell? ⟨c, o + 1, none⟩ = some (.int .i64 k)) (hz : ¬ w.frozen? ⟨c, o + 1, none⟩ = true)
    (hL' : (w.setCell ⟨c, o + 1, none⟩ (.int .i64 (k + 1))).cell? ⟨c, o, none⟩ = some (.slice a 0 cap)) (hk' : (w.setCell ⟨c, o + 1, none⟩ (.int .i64 (k + 1))).cell? ⟨c, o + 1, none⟩ = some (.int .i64 (k + 1))) (k0 : 0 ≤ k) (k1 : k < 1000000000) (h1 : 1 ≤ n) (h2 : n ≤ 4294967296) :
    Calls Tryz.prog 13 #[.pointer (some ⟨c, o, none⟩), .int .i64 n] w fun e w' => e = .returned (.int .i64 ((wrap64 ((k + 1) * 7919)) % n)) ∧ w' = w.setCell ⟨c, o + 1, none⟩ (.int .i64 (k + 1)) := by
  have hw : wrap64 (k + 1) = k + 1 := wrap64_in _ (by omega)
  have hw2 : wrap64 ((k + 1) * 7919) = (k + 1) * 7919 := wrap64_in _ (by omega)
  have hn : (n < 1) = False := by simp; omega
  have hp : ((k + 1) * 7919 % n < 0) = False := by simp; exact Int.emod_nonneg _ (by omega)
  go_enter Tryz.func13, Tryz.ntmps13
  go_wp2
  go_ret
  exact ⟨by rw [hw2]; rfl, rfl⟩
theorem tmod_lt' (x n : Int) (h1 : 1 ≤ n) : -n < x.tmod n ∧ x.tmod n < n := by
  have h3 : x.tmod n < n := Int.tmod_lt_of_pos x (by omega)
  have h4 : -n < x.tmod n := by
    have := Int.tmod_lt_of_pos (-x) (b := n) (by omega)
    rw [Int.neg_tmod] at this
    omega
  exact ⟨h4, h3⟩
/-- the raw number of call k of a stream with element z at its place -/
def rawOf (z k len : Int) : Int := wrap64 (z % 1073741824 + wrap64 (wrap64 (k / len) * wrap64 (7919 + k % len)))
def SameBut (w w' : World) : Prop := w'.heap = w.heap ∧ w'.os = w.os ∧ w'.tape = w.tape ∧ w'.output = w.output
theorem next_walk1 (c o : Nat) (b off : Nat) (len cap : Nat) (k n z : Int) (w : World) (hlen : 1 ≤ len) (hlen2 : len ≤ maxLen) (hL : w.cell? ⟨c, o, none⟩ = some (.slice (some ⟨b, off, none⟩) len cap)) (hk : w.cell? ⟨c, o + 1, none⟩ = some (.int .i64 k)) (hz : ¬ w.frozen? ⟨c, o + 1, none⟩ = true)
    (hL' : (w.setCell ⟨c, o + 1, none⟩ (.int .i64 (k + 1))).cell? ⟨c, o, none⟩ = some (.slice (some ⟨b, off, none⟩) len cap)) (hk' : (w.setCell ⟨c, o + 1, none⟩ (.int .i64 (k + 1))).cell? ⟨c, o + 1, none⟩ = some (.int .i64 (k + 1)))
    (hel : (w.setCell ⟨c, o + 1, none⟩ (.int .i64 (k + 1))).cell? ⟨b, off + (k % (len : Int)).toNat, none⟩ = some (.int .i64 z)) (k0 : 0 ≤ k) (k1 : k < 1000000000) (h1 : 1 ≤ n) (h2 : n ≤ 4294967296) :
    Calls Tryz.prog 13 #[.pointer (some ⟨c, o, none⟩), .int .i64 n] w fun e w' => e = .returned (.int .i64 (rawOf z k len % n)) ∧ SameBut (w.setCell ⟨c, o + 1, none⟩ (.int .i64 (k + 1))) w' := by
  have hw : wrap64 (k + 1) = k + 1 := wrap64_in _ (by omega)
  have hw1 : wrap64 (k + 1 - 1) = k := by rw [wrap64_in _ (by omega)]; omega
  have hl0 : ((len : Int) == 0) = false := by simp; omega
  have hl1 : (len : Int) ≠ 0 := by omega
  have ht : k.tmod (len : Int) = k % len := Int.tmod_eq_emod_of_nonneg k0
  have hd : k.tdiv (len : Int) = k / len := Int.tdiv_eq_ediv_of_nonneg k0
  have hi0 : 0 ≤ k % (len : Int) := Int.emod_nonneg _ hl1
  have hi1 : k % (len : Int) < len := Int.emod_lt_of_pos _ (by omega)
  have hr0 : 0 ≤ k / (len : Int) := Int.ediv_nonneg k0 (by omega)
  have hzr := tmod_lt' z 1073741824 (by omega)
  have hzm := tmod_emod z 1073741824 (by omega)
  have hn : (n < 1) = False := by simp; omega
  have hn0 : n ≠ 0 := by omega
  have fin : ∀ X : Int, X = rawOf z k len → (X.tmod n < 0 → wrap64 (X.tmod n + n) = rawOf z k len % n) ∧ (¬ X.tmod n < 0 → X.tmod n = rawOf z k len % n) := by
    intro X hX
    subst hX
    have hr := tmod_lt' (rawOf z k len) n h1
    have hm := tmod_emod (rawOf z k len) n h1
    refine ⟨fun h => ?_, fun h => ?_⟩
    · rw [if_pos h] at hm; rw [hm, wrap64_in _ (by omega)]
    · rw [if_neg h] at hm; rw [hm]
  have done : ∀ X : Int, X = rawOf z k len → ∀ w', SameBut (w.setCell ⟨c, o + 1, none⟩ (.int .i64 (k + 1))) w' →
      (X.tmod n < 0 → Ending.returned (.int .i64 (wrap64 (X.tmod n + n))) = Ending.returned (.int .i64 (rawOf z k len % n)) ∧ SameBut (w.setCell ⟨c, o + 1, none⟩ (.int .i64 (k + 1))) w') ∧
      (0 ≤ X.tmod n → Ending.returned (.int .i64 (X.tmod n)) = Ending.returned (.int .i64 (rawOf z k len % n)) ∧ SameBut (w.setCell ⟨c, o + 1, none⟩ (.int .i64 (k + 1))) w') := by
    intro X hX w' hs
    obtain ⟨f1, f2⟩ := fin X hX
    exact ⟨fun h => ⟨by rw [f1 h], hs⟩, fun h => ⟨by rw [f2 (by omega)], hs⟩⟩
  clear fin
  by_cases hz0 : z.tmod 1073741824 < 0
  · rw [if_pos hz0] at hzm
    have hB : wrap64 (z.tmod 1073741824 + 1073741824 + wrap64 (wrap64 (k / len) * wrap64 (7919 + k % len))) = rawOf z k len := by
      unfold rawOf; rw [hzm]
    have fin := done _ hB _ ⟨rfl, rfl, rfl, rfl⟩
    clear hB done
    go_enter Tryz.func13, Tryz.ntmps13
    go_wp2
    go_region
    go_wp2
    go_region
    go_wp2
    all_goals go_ret
    all_goals first
      | exact ⟨(fin.1 (by assumption)).1, rfl, rfl, rfl, rfl⟩
      | exact ⟨(fin.2 (by assumption)).1, rfl, rfl, rfl, rfl⟩
  · rw [if_neg hz0] at hzm
    have hB : wrap64 (z.tmod 1073741824 + wrap64 (wrap64 (k / len) * wrap64 (7919 + k % len))) = rawOf z k len := by
      unfold rawOf; rw [hzm]
    have fin := done _ hB _ ⟨rfl, rfl, rfl, rfl⟩
    clear hB done
    go_enter Tryz.func13, Tryz.ntmps13
    go_wp2
    go_region
    go_wp2
    go_region
    go_wp2
    all_goals go_ret
    all_goals first
      | exact ⟨(fin.1 (by assumption)).1, rfl, rfl, rfl, rfl⟩
      | exact ⟨(fin.2 (by assumption)).1, rfl, rfl, rfl, rfl⟩
end Go.Proofs.YthhhpaeheccelaaGreat
