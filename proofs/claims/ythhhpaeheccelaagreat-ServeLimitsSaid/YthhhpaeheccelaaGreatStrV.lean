/- The stream of numbers: what each of its methods hands out, exactly. -/
import Derived.Test.YthhhpaeheccelaaGreatAeD
import Derived.Test.YthhhpaeheccelaaGreatNextW
set_option linter.unusedVariables false
set_option linter.unusedSimpArgs false
namespace Go.Proofs.YthhhpaeheccelaaGreat
open Go.AE Go.RowKit Go.IntWalk
/-- the list of numbers that came in -/
structure Raw where
  a : Option Addr
  len : Nat
  cap : Nat
  zs : List Int
def Raw.at (r : Raw) (c : Nat) : Int := if r.len = 0 then wrap64 (((c : Int) + 1) * 7919) else rawOf (r.zs.getD (c % r.len) 0) c r.len
/-- the stream at block s has handed out k numbers -/
structure Stv (r : Raw) (s k : Nat) (w : World) : Prop where
  l : w.cell? ⟨s, 0, none⟩ = some (.slice r.a r.len r.cap)
  at' : w.cell? ⟨s, 1, none⟩ = some (.int .i64 k)
  fz : w.frozen? ⟨s, 1, none⟩ = false
  raw : r.len = 0 ∨ ∃ b off, r.a = some ⟨b, off, none⟩ ∧ b ≠ s ∧ r.len ≤ maxLen ∧ ∀ i, i < r.len → w.cell? ⟨b, off + i, none⟩ = some (.int .i64 (r.zs.getD i 0))
theorem heap_set2 (w : World) (a : Addr) (x y : Value) : ((w.setCell a x).setCell a y).heap = (w.setCell a y).heap := by
  simp only [World.setCell]
  apply Array.ext
  · simp
  · intro i h1 h2
    simp only [Array.getElem_modify]
    split
    · cases hh : w.heap[i]'(by simpa using h1) with
      | cells c e f =>
        simp only [hh]
        cases a.spot <;> simp
      | _ => simp [hh]
    · rfl
theorem SameBut.trans2 {w w1 w2 : World} {a : Addr} {x y : Value} (h : SameBut (w.setCell a x) w1) (k : SameBut (w1.setCell a y) w2) : SameBut (w.setCell a y) w2 := by
  obtain ⟨h1, h2, h3, h4⟩ := h
  obtain ⟨k1, k2, k3, k4⟩ := k
  refine ⟨?_, k2.trans h2, k3.trans h3, k4.trans h4⟩
  rw [k1, ← heap_set2 w a x y]
  simp only [World.setCell] at h1 ⊢
  rw [h1]
theorem Stv.put {r : Raw} {s k k' : Nat} {w w' : World} (S : Stv r s k w) (h : SameBut (w.setCell ⟨s, 1, none⟩ (.int .i64 k')) w') : Stv r s k' w' := by
  obtain ⟨g1, g2, g3, g4⟩ := h
  have hbl : ∀ b : Nat, w'.heap[b]? = (w.setCell ⟨s, 1, none⟩ (.int .i64 (k' : Int))).heap[b]? := fun b => by rw [g1]
  have hb : ∀ b, b ≠ s → (w.setCell ⟨s, 1, none⟩ (.int .i64 (k' : Int))).heap[b]? = w.heap[b]? := fun b hb => Below.heap_setCell _ _ _ _ (by simpa using hb)
  refine ⟨?_, ?_, ?_, ?_⟩
  · rw [World.cell?_of_block (hbl s), World.cell?_setCell_other _ _ _ _ (by simp)]; exact S.l
  · rw [World.cell?_of_block (hbl s)]; exact World.cell?_setCell_same _ _ _ S.at'
  · rw [World.frozen?_of_block (hbl s), World.frozen?_setCell]; exact S.fz
  · rcases S.raw with h0 | ⟨b, off, h1, h2, h3, h4⟩
    · exact .inl h0
    · refine .inr ⟨b, off, h1, h2, h3, fun i hi => ?_⟩
      rw [World.cell?_of_block (w := w) (by rw [hbl]; exact hb b h2)]; exact h4 i hi
theorem next_v {r : Raw} {s k : Nat} {w : World} (n : Int) (S : Stv r s k w) (hk : k < 1000000000) (h1 : 1 ≤ n) (h2 : n ≤ 4294967296) :
    Calls Tryz.prog 13 #[.pointer (some ⟨s, 0, none⟩), .int .i64 n] w fun e w' => ∃ v : Int, v = r.at k % n ∧ e = .returned (.int .i64 v) ∧ SameBut (w.setCell ⟨s, 1, none⟩ (.int .i64 ((k + 1 : Nat) : Int))) w' := by
  have hfz : ¬ w.frozen? ⟨s, 0 + 1, none⟩ = true := by simp [S.fz]
  have hat : w.cell? ⟨s, 0 + 1, none⟩ = some (.int .i64 k) := by simpa using S.at'
  have e1 : (w.setCell ⟨s, 0 + 1, none⟩ (.int .i64 ((k : Int) + 1))).cell? ⟨s, 0, none⟩ = some (.slice r.a r.len r.cap) := by
    rw [World.cell?_setCell_other _ _ _ _ (by simp)]; exact S.l
  have e2 : (w.setCell ⟨s, 0 + 1, none⟩ (.int .i64 ((k : Int) + 1))).cell? ⟨s, 0 + 1, none⟩ = some (.int .i64 ((k : Int) + 1)) := World.cell?_setCell_same _ _ _ hat
  have hb : ∀ b, b ≠ s → (w.setCell ⟨s, 0 + 1, none⟩ (.int .i64 ((k : Int) + 1))).heap[b]? = w.heap[b]? := fun b hb => Below.heap_setCell _ _ _ _ (by simpa using hb)
  have hcast : ((k + 1 : Nat) : Int) = (k : Int) + 1 := by omega
  by_cases hl : r.len = 0
  · have q := S.l
    rw [hl] at q e1
    refine (next_walk0 s 0 r.a r.cap k n w q hat hfz e1 e2 (by omega) (by omega) h1 h2).mono ?_
    rintro e w' ⟨rfl, rfl⟩
    exact ⟨_, by simp only [Raw.at, hl, if_true], rfl, by rw [hcast]; exact ⟨rfl, rfl, rfl, rfl⟩⟩
  · rcases S.raw with h0 | ⟨b, off, j1, j2, j3, j4⟩
    · exact absurd h0 hl
    have hmod : (k : Int) % (r.len : Int) = ((k % r.len : Nat) : Int) := (Int.natCast_emod _ _).symm
    have hlt : k % r.len < r.len := Nat.mod_lt _ (by omega)
    have e3 : (w.setCell ⟨s, 0 + 1, none⟩ (.int .i64 ((k : Int) + 1))).cell? ⟨b, off + ((k : Int) % (r.len : Int)).toNat, none⟩ = some (.int .i64 (r.zs.getD (k % r.len) 0)) := by
      rw [World.cell?_of_block (w := w) (hb b j2), hmod, Int.toNat_natCast]
      exact j4 _ hlt
    have q := S.l
    rw [j1] at q e1
    refine (next_walk1 s 0 b off r.len r.cap k n (r.zs.getD (k % r.len) 0) w (by omega) j3 q hat hfz e1 e2 e3 (by omega) (by omega) h1 h2).mono ?_
    rintro e w' ⟨rfl, hs⟩
    exact ⟨_, by simp only [Raw.at, if_neg hl], rfl, by rw [hcast]; exact hs⟩
/-- Range -/
theorem range_v {r : Raw} {s k : Nat} {w : World} (lo hi : Int) (S : Stv r s k w) (hk : k < 1000000000) (h1 : lo ≤ hi) (h2 : -4294967296 ≤ lo) (h3 : hi ≤ 4294967296) (h4 : hi - lo < 4294967296) :
    Calls Tryz.prog 12 #[.pointer (some ⟨s, 0, none⟩), .int .i64 lo, .int .i64 hi] w fun e w' => ∃ v : Int, v = lo + r.at k % (hi - lo + 1) ∧ e = .returned (.int .i64 v) ∧ SameBut (w.setCell ⟨s, 1, none⟩ (.int .i64 ((k + 1 : Nat) : Int))) w' := by
  have hc := next_v (hi - lo + 1) S hk (by omega) (by omega)
  have ht : ¬ hi < lo := by omega
  have b1 : 0 ≤ r.at k % (hi - lo + 1) := Int.emod_nonneg _ (by omega)
  have b2 : r.at k % (hi - lo + 1) < hi - lo + 1 := Int.emod_lt_of_pos _ (by omega)
  go_enter Tryz.func12, Tryz.ntmps12
  go_wp2_with (go_at_call 13; refine hc.mono ?_; rintro e w' ⟨v, hv, rfl, hS⟩)
  all_goals go_ret
  all_goals exact ⟨_, by first | rfl | omega, rfl, hS⟩
/-- the word that begins at place p -/
def Raw.word (r : Raw) (p : Nat) : Int :=
  if r.at p % 6 = 0 then -2147483648 + r.at (p + 1) % 3 else if r.at p % 6 = 1 then 2147483647 - r.at (p + 1) % 3
  else if r.at p % 6 = 2 then r.at (p + 1) % 1073741824 * 4 + r.at (p + 2) % 4 + -2147483648 else -9 + r.at (p + 1) % 19
def Raw.wstep (r : Raw) (p : Nat) : Nat := if r.at p % 6 = 2 then 3 else 2
theorem Raw.word_in (r : Raw) (p : Nat) : -2147483648 ≤ r.word p ∧ r.word p ≤ 2147483647 := by
  unfold Raw.word
  split
  · omega
  · split
    · omega
    · split <;> omega
theorem word_v {r : Raw} {s k : Nat} {w : World} (S : Stv r s k w) (hk : k < 100000000) :
    Calls Tryz.prog 46 #[.pointer (some ⟨s, 0, none⟩)] w fun e w' => ∃ v : Int, v = r.word k ∧ e = .returned (.int .i64 v) ∧ SameBut (w.setCell ⟨s, 1, none⟩ (.int .i64 ((k + r.wstep k : Nat) : Int))) w' := by
  have h0 := next_v 6 S (by omega) (by omega) (by omega)
  have hw := r.word_in k
  have b0 : 0 ≤ r.at k % 6 := by omega
  rcases (show r.at k % 6 = 0 ∨ r.at k % 6 = 1 ∨ r.at k % 6 = 2 ∨ 3 ≤ r.at k % 6 by omega) with m | m | m | m
  · have e1 : r.word k = -2147483648 + r.at (k + 1) % 3 := by simp [Raw.word, m]
    have e2 : r.wstep k = 2 := by simp [Raw.wstep, m]
    rw [m] at h0
    rw [e1, e2]
    clear hw e1 e2
    go_enter Tryz.func46, Tryz.ntmps46
    go_wp2_with fail
    refine h0.mono ?_
    rintro e w1 ⟨v, rfl, rfl, B1⟩
    have h1 := next_v 3 (S.put B1) (by omega) (by omega) (by omega)
    go_wp2_with fail
    refine h1.mono ?_
    rintro e w2 ⟨v, hv, rfl, B2⟩
    have hv1 : 0 ≤ v ∧ v < 3 := by omega
    go_wp2_with fail
    all_goals go_ret
    all_goals exact ⟨_, by omega, rfl, B1.trans2 B2⟩
  · have e1 : r.word k = 2147483647 - r.at (k + 1) % 3 := by simp [Raw.word, m]
    have e2 : r.wstep k = 2 := by simp [Raw.wstep, m]
    rw [m] at h0
    rw [e1, e2]
    clear hw e1 e2
    go_enter Tryz.func46, Tryz.ntmps46
    go_wp2_with fail
    refine h0.mono ?_
    rintro e w1 ⟨v, rfl, rfl, B1⟩
    have h1 := next_v 3 (S.put B1) (by omega) (by omega) (by omega)
    go_wp2_with fail
    refine h1.mono ?_
    rintro e w2 ⟨v, hv, rfl, B2⟩
    have hv1 : 0 ≤ v ∧ v < 3 := by omega
    go_wp2_with fail
    all_goals go_ret
    all_goals exact ⟨_, by omega, rfl, B1.trans2 B2⟩
  · have e1 : r.word k = r.at (k + 1) % 1073741824 * 4 + r.at (k + 2) % 4 + -2147483648 := by simp [Raw.word, m]
    have e2 : r.wstep k = 3 := by simp [Raw.wstep, m]
    rw [m] at h0
    rw [e1, e2]
    clear hw e1 e2
    go_enter Tryz.func46, Tryz.ntmps46
    go_wp2_with fail
    refine h0.mono ?_
    rintro e w1 ⟨v, rfl, rfl, B1⟩
    have S1 := S.put B1
    have h1 := next_v 1073741824 S1 (by omega) (by omega) (by omega)
    go_wp2_with fail
    refine h1.mono ?_
    rintro e w2 ⟨v, hv, rfl, B2⟩
    have hv1 : 0 ≤ v ∧ v < 1073741824 := by omega
    have h2 := next_v 4 (S1.put B2) (by omega) (by omega) (by omega)
    go_wp2_with fail
    refine h2.mono ?_
    rintro e w3 ⟨u, hu, rfl, B3⟩
    have hu1 : 0 ≤ u ∧ u < 4 := by omega
    have hu' : u = r.at (k + 2) % 4 := hu
    clear hu
    go_wp2_with fail
    all_goals go_ret
    all_goals exact ⟨_, by omega, rfl, (B1.trans2 B2).trans2 B3⟩
  · have e1 : r.word k = -9 + r.at (k + 1) % 19 := by
      have g0 : ¬ r.at k % 6 = 0 := by omega
      have g1 : ¬ r.at k % 6 = 1 := by omega
      have g2 : ¬ r.at k % 6 = 2 := by omega
      simp [Raw.word, g0, g1, g2]
    have e2 : r.wstep k = 2 := by
      have g2 : ¬ r.at k % 6 = 2 := by omega
      simp [Raw.wstep, g2]
    rw [e1, e2]
    clear hw e1 e2
    go_enter Tryz.func46, Tryz.ntmps46
    go_wp2_with fail
    refine h0.mono ?_
    rintro e w1 ⟨v, hv, rfl, B1⟩
    have g0 : ¬ v = 0 := by omega
    have g1 : ¬ v = 1 := by omega
    have g2 : ¬ v = 2 := by omega
    have h1 := range_v (-9) 9 (S.put B1) (by omega) (by omega) (by omega) (by omega) (by omega)
    go_wp2_with fail
    refine h1.mono ?_
    rintro e w2 ⟨u, hu, rfl, B2⟩
    go_wp2_with fail
    all_goals go_ret
    all_goals exact ⟨_, by omega, rfl, B1.trans2 B2⟩
end Go.Proofs.YthhhpaeheccelaaGreat
