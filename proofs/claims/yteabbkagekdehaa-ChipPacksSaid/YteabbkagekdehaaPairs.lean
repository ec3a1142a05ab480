/- Stream.Pairs: whatever the numbers, at most six pairs, in memory of the call's own. -/
import Derived.Test.YteabbkagekdehaaLives
set_option linter.unusedVariables false
set_option linter.unusedSimpArgs false
namespace Go.Proofs.Yteabbkagekdehaa
open Go.AE Go.RowKit Go.IntWalk
theorem info83 : (Try.prog.info? 83).map (fun i => (i.zero, i.size, i.bytes)) = some (some (.agg #[.int .i64 0, .int .i64 0]), 2, 16) := by kernel_rfl
def pc (x : Int × Int) : List Value := [.int .i64 x.1, .int .i64 x.2]
def pcells (L : List (Int × Int)) : List Value := L.flatMap pc
theorem pcells_len (L : List (Int × Int)) : (pcells L).length = L.length * 2 := by
  induction L with
  | nil => rfl
  | cons x L ih => simp only [pcells, List.flatMap_cons, List.length_append] at ih ⊢; rw [ih]; simp [pc]; omega
theorem pcells_snoc (L : List (Int × Int)) (x : Int × Int) : pcells (L ++ [x]) = pcells L ++ pc x := by simp [pcells]
theorem pcells_get : ∀ (L : List (Int × Int)) (j : Nat), j < L.length → (pcells L)[j * 2]? = some (.int .i64 (L.getD j (0, 0)).1) ∧ (pcells L)[j * 2 + 1]? = some (.int .i64 (L.getD j (0, 0)).2)
  | [], j, h => by simp at h
  | y :: L, 0, _ => ⟨rfl, rfl⟩
  | y :: L, j + 1, h => by
    have ih := pcells_get L j (by simpa using h)
    have e : ∀ i, (j + 1) * 2 + i = j * 2 + i + 1 + 1 := fun i => by omega
    have e0 := e 0
    simp only [Nat.add_zero] at e0
    rw [e 1, e0]
    exact ih
set_option maxHeartbeats 1000000 in
set_option maxRecDepth 10000 in
theorem pairs_c {r : Raw} {n0 s k : Nat} {w : World} {nn : Int} (S : Strm r n0 s k w) (hk : k < 100000000) (hn1 : 1 ≤ nn) (hn2 : nn ≤ 100) :
    Calls Try.prog 16 #[.pointer (some ⟨s, 0, none⟩), .int .i64 nn] w fun e w' => ∃ a cap, ∃ (L : List (Int × Int)) (k' : Nat), e = .returned (.slice a L.length cap) ∧ L.length ≤ 6 ∧ w'.ownsRow w.heap.size 83 2 (.slice a L.length cap) L.length (pcells L) ∧ Strm r n0 s k' w' ∧ k' ≤ k + 40 ∧ Oth s w w' := by
  obtain ⟨i0, hi, hz0, hz1, hz2⟩ := info_parts info83
  have hs := S.lt
  go_enter Try.func16, Try.ntmps16
  go_wp2_with fail
  refine (next_c S (by omega) (by omega) (by omega)).mono ?_
  rintro e w2 ⟨n, rfl, q0, q1, S2, O2, -⟩
  obtain ⟨N, rfl⟩ : ∃ N : Nat, n = N := ⟨n.toNat, by omega⟩
  have hN : N ≤ 6 := by omega
  clear S q0 q1
  go_wp2_with fail
  go_loopw [5, 9] (fun v i wr => ∃ (j k1 : Nat) (L : List (Int × Int)), i = .int .i64 j ∧ L.length ≤ j ∧ j ≤ N ∧ k1 ≤ k + 1 + 3 * j ∧ wr.ownsRow w.heap.size 83 2 v L.length (pcells L) ∧ Strm r n0 s k1 wr ∧ Oth s w wr)
    (fun _ i _ => N - (intOf i).toNat)
  case atStart => exact ⟨0, k + 1, [], rfl, Nat.le_refl _, by omega, by omega, World.ownsRow_nil _ _ _ _, S2, O2⟩
  case round =>
    obtain ⟨j, k1, L, rfl, hL, hj, hk1, hown, S3, O3⟩ := hrel
    obtain ⟨a, c, rfl⟩ := ownsRow_shape hown
    clear O2 S2
    go_wp2_with fail
    · refine (next_c S3 (by omega) (by omega) (by omega)).mono ?_
      rintro e w3 ⟨x, rfl, x0, x1, S4, O4, -⟩
      have hown := ownsRow_oth hown O4 hs
      have O4 : Oth s w w3 := O3.trans O4
      go_wp2_with fail
      refine (next_c S4 (by omega) (by omega) (by omega)).mono ?_
      rintro e w4 ⟨y, rfl, y0, y1, S5, O5, -⟩
      have hown := ownsRow_oth hown O5 hs
      have O5 : Oth s w w4 := O4.trans O5
      clear S4 O4 S3 O3
      obtain ⟨w5, hw5⟩ : ∃ w5, w4.alloc (.cells #[.int .i64 x, .int .i64 y] 83) = w5 := ⟨_, rfl⟩
      have S6 : Strm r n0 s (k1 + 1 + 1) w5 := by rw [← hw5]; exact S5.below (below_alloc w4 _)
      have O6 : Oth s w w5 := by rw [← hw5]; exact O5.trans (Oth.of_below (below_alloc w4 _))
      have hown6 : w5.ownsRow w.heap.size 83 2 (.slice a L.length c) L.length (pcells L) := by rw [← hw5]; exact hown.alloc _
      obtain ⟨Y, hY⟩ : ∃ Y, w4.heap.size = Y := ⟨_, rfl⟩
      have d0 : w5.cell? ⟨Y, 0, none⟩ = some (.int .i64 x) := by rw [← hw5, ← hY, cell_of_row _ w4.heap.size 0 _ 83 (0, 0) (heap_alloc_new w4 _)]; rfl
      have d1 : w5.cell? ⟨Y, 1, none⟩ = some (.int .i64 y) := by rw [← hw5, ← hY, cell_of_row _ w4.heap.size 1 _ 83 (0, 0) (heap_alloc_new w4 _)]; rfl
      have hsY : Y ≠ s := by have := S5.lt; omega
      have hYl : Y < w5.heap.size := by rw [← hw5]; simp; omega
      clear S5 O5 hown
      by_cases he : x = y
      · have hez : (x == y) = true := by simp [he]
        have HE : Hid (x = y) := he
        clear he
        go_wp2_with fail
        refine (flip_c S6 (by omega) (by omega) (by omega)).mono ?_
        rintro e w6 ⟨b, rfl, S7, O7, -⟩
        have hown7 := ownsRow_oth hown6 O7 hs
        have d0 : w6.cell? ⟨Y, 0, none⟩ = some (.int .i64 x) := by rw [O7.cell (by exact hYl) (by exact hsY)]; exact d0
        have d1 : w6.cell? ⟨Y, 1, none⟩ = some (.int .i64 y) := by rw [O7.cell (by exact hYl) (by exact hsY)]; exact d1
        have O7 : Oth s w w6 := O6.trans O7
        clear hY hw5
        cases b
        · go_wp2_with fail
          go_roundw
          case rel => exact ⟨j + 1, _, L, by go_num, by omega, by omega, by omega, hown7, S7, O7⟩
          case measure => simp [intOf]; omega
        · go_wp2_with (at_builtin; refine wpList_append_own _ rfl (.tmp 28) (.tmp 30) 39 rfl w.heap.size 83 i0 _ 2 16 Try.underlying39 hi hz0 hz1 hz2 rfl (by decide) _ _ _ rfl (hown7.alloc _) ⟨w6.heap.size, 0, none⟩ 1 1 (pc (x, y)) rfl rfl (by intro j u hj; match j, hj with | 0, hj => (simp [pc] at hj; subst hj; simp [Addr.add]) | 1, hj => (simp [pc] at hj; subst hj; simp [Addr.add])) (by simp [pc, Value.oneCell']) (by unfold maxLen; omega) (by omega) (by have := O7.size; simp; omega) ?_; intro v' w8 hown8 hg8 hnil)
          have hrow : ∀ k, (Value.slice a L.length c).ownBlock = some k → w.heap.size ≤ k := fun k hk => (hown7.lt k hk).1
          have O9 : Oth s w w8 := (O7.trans (Oth.of_below (below_alloc w6 _))).grown hg8 hrow
          have S9 : Strm r n0 s (k1 + 1 + 1 + 1) w8 := (S7.below (below_alloc w6 _)).grown hg8 fun k hk => Nat.lt_of_lt_of_le hs (hrow k hk)
          clear hg8 hnil
          go_roundw
          case rel => exact ⟨j + 1, (k1 + 1 + 1 + 1), L ++ [(x, y)], by go_num, by simp; omega, by omega, by omega, by simpa [pcells_snoc] using hown8, S9, O9⟩
          case measure => simp [intOf]; omega
      · have hez : (x == y) = false := by simp [he]
        have HE : Hid (¬ x = y) := he
        clear he
        go_wp2_with (at_builtin; refine wpList_append_own _ rfl (.tmp 28) (.tmp 30) 39 rfl w.heap.size 83 i0 _ 2 16 Try.underlying39 hi hz0 hz1 hz2 rfl (by decide) _ _ _ rfl (hown6.alloc _) ⟨w5.heap.size, 0, none⟩ 1 1 (pc (x, y)) rfl rfl (by intro j u hj; match j, hj with | 0, hj => (simp [pc] at hj; subst hj; simp [Addr.add]) | 1, hj => (simp [pc] at hj; subst hj; simp [Addr.add])) (by simp [pc, Value.oneCell']) (by unfold maxLen; omega) (by omega) (by have := O6.size; simp; omega) ?_; intro v' w8 hown8 hg8 hnil)
        have hrow : ∀ k, (Value.slice a L.length c).ownBlock = some k → w.heap.size ≤ k := fun k hk => (hown6.lt k hk).1
        have O9 : Oth s w w8 := (O6.trans (Oth.of_below (below_alloc w5 _))).grown hg8 hrow
        have S9 : Strm r n0 s (k1 + 1 + 1) w8 := (S6.below (below_alloc w5 _)).grown hg8 fun k hk => Nat.lt_of_lt_of_le hs (hrow k hk)
        clear hg8 hnil
        go_roundw
        case rel => exact ⟨j + 1, (k1 + 1 + 1), L ++ [(x, y)], by go_num, by simp; omega, by omega, by omega, by simpa [pcells_snoc] using hown8, S9, O9⟩
        case measure => simp [intOf]; omega
    · refine (flip_c S3 (by omega) (by omega) (by omega)).mono ?_
      rintro e w3 ⟨b, rfl, S4, O4, -⟩
      have hown := ownsRow_oth hown O4 hs
      have O4 : Oth s w w3 := O3.trans O4
      cases b
      · go_wp2_with fail
        go_ret
        exact ⟨a, c, L, _, rfl, by omega, hown, S4, by omega, O4⟩
      · have hpos : 0 < L.length := by assumption
        go_wp2_with fail
        refine (pick_n (n := 2) [-1, nn] S4 (by omega) rfl (by decide) (by decide) rfl).mono ?_
        rintro e w5 ⟨z, rfl, hz, S6, O6⟩
        have hown := ownsRow_oth hown O6 hs
        have O6 : Oth s w w5 := O4.trans O6
        obtain ⟨g, rfl⟩ : ∃ g, a = some ⟨g, 0, none⟩ := by
          rcases hown.2 with ⟨h, h0⟩ | ⟨g, cap, cur, h, _⟩
          · omega
          · simp only [Value.slice.injEq] at h; exact ⟨g, h.1⟩
        have hgb : w.heap.size ≤ g := (hown.lt g rfl).1
        have hc1 : ∃ u, w5.cell? ⟨g, 1, none⟩ = some u := by
          rw [hown.cellAt 1 (by omega)]
          exact ⟨_, List.getElem?_eq_getElem (by rw [pcells_len]; omega)⟩
        obtain ⟨u, hc1⟩ := hc1
        have f1 : w5.frozen? ⟨g, 1, none⟩ = false := hown.frozenAt _
        have hz0 : (0 : Int) < (L.length : Int) := by omega
        obtain ⟨r1, g1⟩ := hown.stored 1 (.int .i64 z)
        have hset : (pcells L).set 1 (.int .i64 z) = pcells (L.set 0 ((L.getD 0 (0, 0)).1, z)) := by
          cases L with
          | nil => simp at hpos
          | cons x L => simp [pcells, pc]
        rw [hset] at r1
        have HR1 : Hid _ := r1
        have HG1 : Hid _ := g1
        clear r1 g1 hset hown
        go_wp2_with fail
        go_ret
        have hl : (L.set 0 ((L.getD 0 (0, 0)).1, z)).length = L.length := by simp
        exact ⟨some ⟨g, 0, none⟩, c, L.set 0 ((L.getD 0 (0, 0)).1, z), _, by rw [hl]; rfl, by rw [hl]; omega, by rw [hl]; exact HR1.out, S6.grown HG1.out (fun k hk => by simp only [Option.some.injEq] at hk; omega), by omega, O6.grown HG1.out (fun k hk => by simp only [Option.some.injEq] at hk; omega)⟩
    · go_ret
      exact ⟨a, c, L, _, rfl, by omega, hown, S3, by omega, O3⟩
end Go.Proofs.Yteabbkagekdehaa
