/- The document's 'executed': how many instructions are executed in a block. -/
import Derived.Test.YteabbkagekdehaaPln
import Derived.Test.YteabbkagekdehaaHcD
set_option linter.unusedVariables false
set_option linter.unusedSimpArgs false
set_option maxRecDepth 100000
namespace Go.Proofs.Yteabbkagekdehaa
open Go.AE Go.RowKit Go.IntWalk
/-- a row of instructions lies there -/
def RowZ (w : World) (a : Option Addr) (n : Nat) (zs : List Int) : Prop := n = 0 ∨ ∃ g, a = some ⟨g, 0, none⟩ ∧ g < w.heap.size ∧ ∀ j, j < n * 9 → w.cell? ⟨g, j, none⟩ = some (.int .i64 (zs.getD j 0))
theorem RowZ.below {w w' : World} {a : Option Addr} {n : Nat} {zs : List Int} (h : RowZ w a n zs) (B : Below w.heap.size w w') : RowZ w' a n zs := by
  rcases h with h | ⟨g, h1, h2, h3⟩
  · exact .inl h
  · exact .inr ⟨g, h1, Nat.lt_of_lt_of_le h2 B.size, fun j hj => by rw [B.cell (by exact h2)]; exact h3 j hj⟩
theorem RowZ.of {w : World} {base n cap : Nat} {a : Option Addr} {zs : List Int} (h : w.ownsRow base 29 9 (.slice a n cap) n (zcells zs)) : RowZ w a n zs := by
  have hlen : zs.length = n * 9 := by have := h.1; simpa [zcells] using this
  rcases h.2 with ⟨hv, h0⟩ | ⟨g, cap', cur, hv, _⟩
  · exact .inl h0
  · simp only [Value.slice.injEq] at hv
    obtain ⟨rfl, _, rfl⟩ := hv
    refine .inr ⟨g, rfl, (h.lt g rfl).2, fun j hj => ?_⟩
    rw [h.cellAt j hj, List.getElem?_eq_getElem (by have := h.1; omega)]
    simp only [zcells, List.getElem_map]
    rw [List.getD_eq_getElem?_getD, List.getElem?_eq_getElem (by omega), Option.getD_some]
abbrev opZ (zs : List Int) (i : Nat) : Int := zs.getD (i * 9) 0
abbrev mZ (zs : List Int) (i : Nat) : Int := zs.getD (i * 9 + 8) 0
theorem step_plain' {S a0 x : Nat} (hs : S = 40000001) (h : min a0 S = x) : min ((x : Int) + 1) 40000001 = ((min (a0 + 1) S : Nat) : Int) := by omega
theorem step_plain {a0 x : Nat} (h : min a0 SX = x) : Value.int .i64 (min ((x : Int) + 1) 40000001) = Value.int .i64 ((min (a0 + 1) SX : Nat) : Int) :=
  congrArg _ (step_plain' (by unfold SX; rfl) h)
theorem step_loop' {S a0 x b y m : Nat} (hs : S = 40000001) (h : min a0 S = x) (hb : min b S = y) : min ((x : Int) + 1 + (m : Int) * ((y : Int) + 1)) 40000001 = ((min (a0 + (1 + m * (b + 1))) S : Nat) : Int) := by
  have e1 : (m : Int) * ((y : Int) + 1) = ((m * (y + 1) : Nat) : Int) := by simp
  have e2 : min (m * (b + 1)) S = min (m * (y + 1)) S := by
    rw [← hb]
    by_cases h0 : m = 0
    · simp [h0]
    · by_cases hle : b ≤ S
      · rw [Nat.min_eq_left hle]
      · have g1 : S ≤ m * (b + 1) := Nat.le_trans (by omega : S ≤ b + 1) (Nat.le_mul_of_pos_left _ (by omega))
        have g2 : S ≤ m * (min b S + 1) := Nat.le_trans (by omega : S ≤ min b S + 1) (Nat.le_mul_of_pos_left _ (by omega))
        omega
  rw [e1]
  generalize m * (b + 1) = X at *
  generalize m * (y + 1) = Y at *
  omega
theorem step_loop {a0 x b y m : Nat} (h : min a0 SX = x) (hb : min b SX = y) : Value.int .i64 (min ((x : Int) + 1 + (m : Int) * ((y : Int) + 1)) 40000001) = Value.int .i64 ((min (a0 + (1 + m * (b + 1))) SX : Nat) : Int) :=
  congrArg _ (step_loop' (by unfold SX; rfl) h hb)
set_option maxHeartbeats 2000000 in
theorem executed_c {w : World} {a : Option Addr} {n cap : Nat} {zs : List Int} (hr : RowZ w a n zs) (hn : n ≤ 100000) : ∀ (k p c e : Nat), n - p ≤ k → Blk n (opZ zs) (mZ zs) p c e →
    Calls Try.prog 79 #[.slice a n cap, .int .i64 p] w fun en w' => en = .returned (.tuple #[.int .i64 ((min c SX : Nat) : Int), .int .i64 e]) ∧ w' = w := by
  intro k
  induction k using Nat.strongRecOn with
  | ind k ih =>
    intro p c e hk B0
    have hge := B0.ge
    have HI : Hid _ := ih
    have HB : Hid _ := B0
    clear ih B0
    go_enter Try.func79, Try.ntmps79
    go_wp2_with fail
    go_loopw [1, 6] (fun v1 v6 wr => ∃ (q a0 c1 : Nat), v1 = .int .i64 q ∧ v6 = .int .i64 ((min a0 SX : Nat) : Int) ∧ Blk n (opZ zs) (mZ zs) q c1 e ∧ a0 + c1 = c ∧ p ≤ q ∧ wr = w)
      (fun v1 _ _ => n - (intOf v1).toNat)
    case atStart => exact ⟨p, 0, c, rfl, rfl, HB.out, by omega, Nat.le_refl _, rfl⟩
    case round =>
      obtain ⟨q, a0, c1, rfl, rfl, B, hsum, hpq, rfl⟩ := hrel
      have hB := B.ge
      obtain ⟨x, hx⟩ : ∃ x, min a0 SX = x := ⟨_, rfl⟩
      have hx1 : x ≤ 40000001 := by rw [← hx]; exact Nat.min_le_right _ _
      rw [hx]
      have HX : Hid _ := hx
      clear hx
      rcases B.inv with ⟨rfl, rfl, h⟩ | ⟨c', rfl, hqn, h4, h3, B'⟩ | ⟨c', b', e1, m, rfl, hqn, h3, hm, hm1, Bb, he1, h41, Bc⟩
      · by_cases hq : q = n
        · have hlt : ¬ (q : Int) < (n : Int) := by omega
          clear h
          go_wp2_with fail
          go_ret2
          exact ⟨by simp [← hsum, HX.out], rfl⟩
        · obtain ⟨hqn, h4⟩ : q < n ∧ opZ zs q = 4 := by omega
          have hlt : (q : Int) < (n : Int) := by omega
          rcases hr with h0 | ⟨g, rfl, hg, hcell⟩
          · omega
          · have hc0 : wr.cell? ⟨g, q * 9, none⟩ = some (.int .i64 4) := by rw [hcell _ (by omega)]; exact congrArg _ (congrArg _ h4)
            clear h h4 hcell
            go_wp2_with fail
            go_ret2
            exact ⟨by simp [← hsum, HX.out], rfl⟩
      · have hlt : (q : Int) < (n : Int) := by omega
        rcases id hr with h0 | ⟨g, rfl, hg, hcell⟩
        · omega
        · obtain ⟨o, ho⟩ : ∃ o, opZ zs q = o := ⟨_, rfl⟩
          have hc0 : wr.cell? ⟨g, q * 9, none⟩ = some (.int .i64 o) := by rw [hcell _ (by omega)]; exact congrArg _ (congrArg _ ho)
          rw [ho] at h3 h4
          have h3b : (o == 3) = false := by simp [h3]
          have h4b : (o == 4) = false := by simp [h4]
          replace B' : Hid _ := B'
          replace hr : Hid _ := hr
          clear hcell ho
          go_wp2_with fail
          go_roundw
          case rel => exact ⟨q + 1, a0 + 1, c', by go_num, step_plain HX.out, B'.out, by omega, by omega, by trivial⟩
          case measure => simp [intOf]; omega
      · have hlt : (q : Int) < (n : Int) := by omega
        rcases id hr with h0 | ⟨g, rfl, hg, hcell⟩
        · omega
        · have hc0 : wr.cell? ⟨g, q * 9, none⟩ = some (.int .i64 3) := by rw [hcell _ (by omega)]; exact congrArg _ (congrArg _ h3)
          have hc8 : wr.cell? ⟨g, q * 9 + 8, none⟩ = some (.int .i64 m) := by rw [hcell _ (by omega)]; exact congrArg _ (congrArg _ hm)
          have hge1 := Bb.ge
          have hrec := HI.out (n - (q + 1)) (by omega) (q + 1) b' e1 (Nat.le_refl _) Bb
          replace Bb : Hid _ := Bb
          replace Bc : Hid _ := Bc
          replace HI : Hid _ := HI
          replace hr : Hid _ := hr
          obtain ⟨y, hy⟩ : ∃ y, min b' SX = y := ⟨_, rfl⟩
          have hy1 : y ≤ 40000001 := by rw [← hy]; exact Nat.min_le_right _ _
          rw [hy] at hrec
          replace hy : Hid _ := hy
          have hmul : m * (y + 1) ≤ 1000000 * 40000002 := Nat.mul_le_mul hm1 (by omega)
          have hmul2 : 0 ≤ (m : Int) * ((y : Int) + 1) ∧ (m : Int) * ((y : Int) + 1) ≤ 40000002000000 := by
            have : (m : Int) * ((y : Int) + 1) = ((m * (y + 1) : Nat) : Int) := by simp
            omega
          obtain ⟨hmulA, hmulB⟩ := hmul2
          clear hcell h3 hm hmul B
          have eq1 : ((q + 1 : Nat) : Int) = (q : Int) + 1 := by omega
          rw [eq1] at hrec
          clear eq1
          go_wp2_with fail
          refine hrec.mono ?_
          rintro en w' ⟨rfl, rfl⟩
          clear hrec
          go_wp2_with fail
          go_roundw
          case rel => exact ⟨e1 + 1, a0 + (1 + m * (b' + 1)), c', by go_num, step_loop HX.out hy.out, Bc.out, by omega, by omega, by trivial⟩
          case measure => simp [intOf]; omega
end Go.Proofs.Yteabbkagekdehaa
