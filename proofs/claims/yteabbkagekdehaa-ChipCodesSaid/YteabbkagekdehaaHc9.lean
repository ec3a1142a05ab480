/- Stream.SpoiledCode: whatever the numbers, at most one instruction more, in memory of the call's own. -/
import Derived.Test.YteabbkagekdehaaHc7
import Derived.Test.YteabbkagekdehaaHc8
set_option linter.unusedVariables false
set_option linter.unusedSimpArgs false
set_option maxRecDepth 100000
namespace Go.Proofs.Yteabbkagekdehaa
open Go.AE Go.RowKit Go.IntWalk
theorem exc {w : World} {base g cap n kk : Nat} {zs : List Int} (hown : w.ownsRow base 29 9 (.slice (some ⟨g, 0, none⟩) n cap) n (zcells zs)) (f : Nat) (h : kk * 9 + f < n * 9) : ∃ z : Int, w.cell? ⟨g, kk * 9 + f, none⟩ = some (.int .i64 z) :=
  (ownsRow_ints hown).2.2.2.2 _ h
theorem zset (zs : List Int) (j : Nat) (z : Int) : (zcells zs).set j (.int .i64 z) = zcells (zs.set j z) := by simp [zcells, List.map_set]
section
variable {r : Raw} {n0 s : Nat} {w : World}
set_option maxHeartbeats 4000000 in
theorem spoiled_c {k n base : Nat} {v : Value} {zs : List Int} (S : Strm r n0 s k w) (hk : k < 500000) (hown : w.ownsRow base 29 9 v n (zcells zs)) (hn : n ≤ 50000) :
    Calls Try.prog 24 #[.pointer (some ⟨s, 0, none⟩), v] w (PostCode r n0 s w (n + 1) (k + 5)) := by
  have hs := S.lt
  obtain ⟨i0, hi, hz0, hz1, hz2⟩ := info_parts info29
  go_enter Try.func24, Try.ntmps24
  go_wp2_with fail
  refine (clone9_c hown (by omega)).mono ?_
  rintro e w1 ⟨a, cap, rfl, hown1, hB1⟩
  have S1 := S.below hB1
  have O1 : Oth s w w1 := Oth.of_below hB1
  clear hown S hB1
  by_cases h0 : n = 0
  · subst h0
    go_wp2_with fail
    refine (range_c S1 (by omega) (by omega) (by omega) (by omega) (by omega)).mono ?_
    rintro e w2 ⟨z, rfl, z0, z1, S2, O2, -⟩
    have hown2 := ownsRow_oth hown1 O2 hs
    have O2 : Oth s w w2 := O1.trans O2
    clear hown1 z0 z1
    have HN : Hid (∀ j u, (zcells [z, 0, 0, 0, 0, 0, 0, 0, 0])[j]? = some u → (w2.alloc (.cells #[.int .i64 z, .int .i64 0, .int .i64 0, .int .i64 0, .int .i64 0, .int .i64 0, .int .i64 0, .int .i64 0, .int .i64 0] 29)).cell? ((⟨w2.heap.size, 0, none⟩ : Addr).add j) = some u) := fun j u hu => by
      rw [addr_add, cell_of_row _ w2.heap.size j _ 29 (0, 0) (heap_alloc_new w2 _)]
      simpa [zcells] using hu
    go_wp2_with (at_builtin; refine wpList_append_own _ rfl (.tmp 12) (.tmp 16) 26 rfl w.heap.size 29 i0 _ 9 72 Try.underlying26 hi hz0 hz1 hz2 rfl (by decide) _ _ _ rfl (hown2.alloc _) ⟨w2.heap.size, 0, none⟩ 1 1 (zcells [z, 0, 0, 0, 0, 0, 0, 0, 0]) rfl rfl HN.out (zcells_one _) (by unfold maxLen; omega) (by omega) (by have := O2.size; simp; omega) ?_; intro v' w4 hown4 hg4 hnil)
    obtain ⟨a', c', rfl⟩ := ownsRow_shape hown4
    have hrow : ∀ k, (Value.slice a 0 cap).ownBlock = some k → w.heap.size ≤ k := fun k hk => (hown2.lt k hk).1
    have S4 := (S2.below (below_alloc w2 _)).grown hg4 fun k hk => Nat.lt_of_lt_of_le hs (hrow k hk)
    have O4 := (O2.trans (Oth.of_below (below_alloc w2 _))).grown hg4 hrow
    have F4 : PostCode r n0 s w (0 + 1) (k + 5) (.returned (.slice a' (0 + 1) c')) w4 := ⟨a', 0 + 1, c', zs ++ [z, 0, 0, 0, 0, 0, 0, 0, 0], _, rfl, Nat.le_refl _, by rw [show zcells (zs ++ [z, 0, 0, 0, 0, 0, 0, 0, 0]) = zcells zs ++ zcells [z, 0, 0, 0, 0, 0, 0, 0, 0] by simp [zcells]]; exact hown4, S4, by omega, O4⟩
    have F4 : Hid _ := F4
    clear hown4 hg4 hnil hown2
    go_ret
    exact F4.out
  · obtain ⟨g, rfl⟩ : ∃ g, a = some ⟨g, 0, none⟩ := by
      rcases hown1.2 with ⟨h, h0⟩ | ⟨g, cap, cur, h, _⟩
      · omega
      · simp only [Value.slice.injEq] at h; exact ⟨g, h.1⟩
    have h0I : ¬ ((n : Int) = 0) := by omega
    go_wp2_with fail
    refine (next_c S1 (by omega) (by omega) (by omega)).mono ?_
    rintro e w2 ⟨kx, rfl, k0, k1, S2, O2, -⟩
    obtain ⟨kk, rfl⟩ : ∃ kk : Nat, kx = kk := ⟨kx.toNat, by omega⟩
    obtain ⟨m, rfl⟩ : ∃ m, n = kk + 1 + m := ⟨n - kk - 1, by omega⟩
    have hown2 := ownsRow_oth hown1 O2 hs
    have O2 : Oth s w w2 := O1.trans O2
    have e1 : kk < kk + 1 + m := by omega
    clear hown1 O1 S1
    go_wp2_with fail
    refine (next_c S2 (by omega) (by omega) (by omega)).mono ?_
    rintro e w3 ⟨sw, rfl, s0, s1, S3, O3, -⟩
    have hown3 := ownsRow_oth hown2 O3 hs
    have O3 : Oth s w w3 := O2.trans O3
    have hgb : w.heap.size ≤ g := (hown3.lt g rfl).1
    clear hown2 O2 S2
    have FIN : Hid (∀ (K : Nat) (w4 : World), Strm r n0 s K w4 → Oth s w w4 → w4.ownsRow w.heap.size 29 9 (.slice (some ⟨g, 0, none⟩) (kk + 1 + m) cap) (kk + 1 + m) (zcells zs) → ∀ (f : Nat) (z : Int), K ≤ k + 5 →
        PostCode r n0 s w (kk + 1 + m + 1) (k + 5) (.returned (.slice (some ⟨g, 0, none⟩) (kk + 1 + m) cap)) (w4.setCell ⟨g, kk * 9 + f, none⟩ (.int .i64 z))) := by
      intro K w4 S4 O4 hown4 f z hK
      obtain ⟨r1, g1⟩ := hown4.stored (kk * 9 + f) (.int .i64 z)
      rw [zset] at r1
      exact ⟨_, _, _, _, K, rfl, by omega, r1, S4.grown g1 (fun k hk => by simp only [Option.some.injEq] at hk; omega), hK, O4.grown g1 (fun k hk => by simp only [Option.some.injEq] at hk; omega)⟩
    have FI0 : Hid (∀ (K : Nat) (w4 : World), Strm r n0 s K w4 → Oth s w w4 → w4.ownsRow w.heap.size 29 9 (.slice (some ⟨g, 0, none⟩) (kk + 1 + m) cap) (kk + 1 + m) (zcells zs) → K ≤ k + 5 →
        PostCode r n0 s w (kk + 1 + m + 1) (k + 5) (.returned (.slice (some ⟨g, 0, none⟩) (kk + 1 + m) cap)) w4) := fun _ _ S4 O4 hown4 hK => ⟨_, _, _, _, _, rfl, by omega, hown4, S4, hK, O4⟩
    have hsw : sw = 0 ∨ sw = 1 ∨ sw = 2 ∨ sw = 3 ∨ sw = 4 ∨ sw = 5 ∨ sw = 6 ∨ sw = 7 ∨ sw = 8 ∨ sw = 9 ∨ sw = 10 := by omega
    clear s0 s1
    rcases hsw with rfl | rfl | rfl | rfl | rfl | rfl | rfl | rfl | rfl | rfl | rfl
    · go_wp2_with fail
      refine (range_c S3 (by omega) (by omega) (by omega) (by omega) (by omega)).mono ?_
      rintro e w4 ⟨z, rfl, z0, z1, S4, O4, -⟩
      clear z0 z1
      have hown4 := ownsRow_oth hown3 O4 hs
      have O4 : Oth s w w4 := O3.trans O4
      obtain ⟨x4, hx4⟩ := exc (kk := kk) hown4 0 (by omega)
      have hf4 := hown4.frozenAt (kk * 9 + 0)
      have F4 := FIN.out _ _ S4 O4 hown4 0 z (by omega)
      have F4 : Hid _ := F4
      clear hown4 hown3
      simp only [Nat.add_zero] at hx4 hf4 F4
      go_wp2_with fail
      go_ret
      exact F4.out
    · obtain ⟨p6, hp6⟩ := exc (kk := kk) hown3 6 (by omega)
      by_cases hp : p6 = 0
      · subst hp
        go_wp2_with fail
        clear hp6
        refine (pick_n (n := 8) [0, 1, 2, 3, 4, 15, 16, 34] S3 (by omega) rfl (by decide) (by decide) rfl).mono ?_
        rintro e w4 ⟨z, rfl, hz, S4, O4⟩
        clear hz
        have hown4 := ownsRow_oth hown3 O4 hs
        have O4 : Oth s w w4 := O3.trans O4
        obtain ⟨x4, hx4⟩ := exc (kk := kk) hown4 1 (by omega)
        have hf4 := hown4.frozenAt (kk * 9 + 1)
        have F4 := FIN.out _ _ S4 O4 hown4 1 z (by omega)
        have F4 : Hid _ := F4
        clear hown4 hown3
        go_wp2_with fail
        go_ret
        exact F4.out
      · have hpB : (p6 == 0) = false := by simp [hp]
        have F4 := FI0.out _ _ S3 O3 hown3 (by omega)
        have F4 : Hid _ := F4
        have HP : Hid (¬ p6 = 0) := hp
        clear hp hown3
        go_wp2_with fail
        go_ret
        exact F4.out
    · go_wp2_with fail
      refine (pick_n (n := 7) [-1, 8, 15, 16, 1, 31, 32] S3 (by omega) rfl (by decide) (by decide) rfl).mono ?_
      rintro e w4 ⟨z, rfl, hz, S4, O4⟩
      clear hz
      have hown4 := ownsRow_oth hown3 O4 hs
      have O4 : Oth s w w4 := O3.trans O4
      obtain ⟨x4, hx4⟩ := exc (kk := kk) hown4 2 (by omega)
      have hf4 := hown4.frozenAt (kk * 9 + 2)
      have F4 := FIN.out _ _ S4 O4 hown4 2 z (by omega)
      have F4 : Hid _ := F4
      clear hown4 hown3
      go_wp2_with fail
      go_ret
      exact F4.out
    · go_wp2_with fail
      refine (pick_n (n := 5) [-1, 7, 8, 15, 16] S3 (by omega) rfl (by decide) (by decide) rfl).mono ?_
      rintro e w4 ⟨z, rfl, hz, S4, O4⟩
      clear hz
      have hown4 := ownsRow_oth hown3 O4 hs
      have O4 : Oth s w w4 := O3.trans O4
      obtain ⟨x4, hx4⟩ := exc (kk := kk) hown4 3 (by omega)
      have hf4 := hown4.frozenAt (kk * 9 + 3)
      have F4 := FIN.out _ _ S4 O4 hown4 3 z (by omega)
      have F4 : Hid _ := F4
      clear hown4 hown3
      go_wp2_with fail
      go_ret
      exact F4.out
    · go_wp2_with fail
      refine (pick_n (n := 5) [-1, 7, 8, 16, 3] S3 (by omega) rfl (by decide) (by decide) rfl).mono ?_
      rintro e w4 ⟨z, rfl, hz, S4, O4⟩
      clear hz
      have hown4 := ownsRow_oth hown3 O4 hs
      have O4 : Oth s w w4 := O3.trans O4
      obtain ⟨x4, hx4⟩ := exc (kk := kk) hown4 4 (by omega)
      have hf4 := hown4.frozenAt (kk * 9 + 4)
      have F4 := FIN.out _ _ S4 O4 hown4 4 z (by omega)
      have F4 : Hid _ := F4
      clear hown4 hown3
      go_wp2_with fail
      go_ret
      exact F4.out
    · go_wp2_with fail
      refine (pick_n (n := 8) [-1, 2, 7, 8, 1000, 1001, -1000, -1001] S3 (by omega) rfl (by decide) (by decide) rfl).mono ?_
      rintro e w4 ⟨z, rfl, hz, S4, O4⟩
      clear hz
      have hown4 := ownsRow_oth hown3 O4 hs
      have O4 : Oth s w w4 := O3.trans O4
      obtain ⟨x4, hx4⟩ := exc (kk := kk) hown4 5 (by omega)
      have hf4 := hown4.frozenAt (kk * 9 + 5)
      have F4 := FIN.out _ _ S4 O4 hown4 5 z (by omega)
      have F4 : Hid _ := F4
      clear hown4 hown3
      go_wp2_with fail
      go_ret
      exact F4.out
    · obtain ⟨q1, hq1⟩ := exc (kk := kk) hown3 1 (by omega)
      by_cases hA : 4 ≤ q1 ∧ q1 ≤ 15
      · obtain ⟨hA1, hA2⟩ := hA
        have hA0 : ¬ q1 < 4 := by omega
        go_wp2_with fail
        clear hq1
        refine (pick_n (n := 5) [0, 1, 16, 17, -1] S3 (by omega) rfl (by decide) (by decide) rfl).mono ?_
        rintro e w4 ⟨z, rfl, hz, S4, O4⟩
        clear hz
        have hown4 := ownsRow_oth hown3 O4 hs
        have O4 : Oth s w w4 := O3.trans O4
        obtain ⟨x4, hx4⟩ := exc (kk := kk) hown4 6 (by omega)
        have hf4 := hown4.frozenAt (kk * 9 + 6)
        have F4 := FIN.out _ _ S4 O4 hown4 6 z (by omega)
        have F4 : Hid _ := F4
        clear hown4 hown3
        go_wp2_with fail
        go_ret
        exact F4.out
      · by_cases hZ : q1 = 0
        · subst hZ
          go_wp2_with fail
          clear hq1
          refine (pick_n (n := 5) [0, 1, 16, 17, -1] S3 (by omega) rfl (by decide) (by decide) rfl).mono ?_
          rintro e w4 ⟨z, rfl, hz, S4, O4⟩
          clear hz
          have hown4 := ownsRow_oth hown3 O4 hs
          have O4 : Oth s w w4 := O3.trans O4
          obtain ⟨x4, hx4⟩ := exc (kk := kk) hown4 6 (by omega)
          have hf4 := hown4.frozenAt (kk * 9 + 6)
          have F4 := FIN.out _ _ S4 O4 hown4 6 z (by omega)
          have F4 : Hid _ := F4
          clear hown4 hown3
          go_wp2_with fail
          go_ret
          exact F4.out
        · have F4 := FI0.out _ _ S3 O3 hown3 (by omega)
          have F4 : Hid _ := F4
          have hZB : (q1 == 0) = false := by simp [hZ]
          have HZ : Hid (¬ q1 = 0) := hZ
          clear hown3
          by_cases hA1 : 4 ≤ q1
          · have hA2 : ¬ q1 ≤ 15 := by omega
            clear hA hZ
            go_wp2_with fail
            go_ret
            exact F4.out
          · clear hA hZ
            go_wp2_with fail
            go_ret
            exact F4.out
    · go_wp2_with fail
      refine (pick_n (n := 6) [0, 31, 32, 2147483647, 2147483648, -2147483649] S3 (by omega) rfl (by decide) (by decide) rfl).mono ?_
      rintro e w4 ⟨z, rfl, hz, S4, O4⟩
      clear hz
      have hown4 := ownsRow_oth hown3 O4 hs
      have O4 : Oth s w w4 := O3.trans O4
      obtain ⟨x4, hx4⟩ := exc (kk := kk) hown4 7 (by omega)
      have hf4 := hown4.frozenAt (kk * 9 + 7)
      have F4 := FIN.out _ _ S4 O4 hown4 7 z (by omega)
      have F4 : Hid _ := F4
      clear hown4 hown3
      go_wp2_with fail
      go_ret
      exact F4.out
    · go_wp2_with fail
      refine (pick_n (n := 7) [0, 1, 256, 257, 1000000, 1000001, -1] S3 (by omega) rfl (by decide) (by decide) rfl).mono ?_
      rintro e w4 ⟨z, rfl, hz, S4, O4⟩
      clear hz
      have hown4 := ownsRow_oth hown3 O4 hs
      have O4 : Oth s w w4 := O3.trans O4
      obtain ⟨x4, hx4⟩ := exc (kk := kk) hown4 8 (by omega)
      have hf4 := hown4.frozenAt (kk * 9 + 8)
      have F4 := FIN.out _ _ S4 O4 hown4 8 z (by omega)
      have F4 : Hid _ := F4
      clear hown4 hown3
      go_wp2_with fail
      go_ret
      exact F4.out
    · have F4 := FI0
      go_wp2_with fail
      refine (delete9_c (k := kk) (m := m) hown3 (by omega)).mono ?_
      rintro e w4 ⟨zs', rfl, r1, g1⟩
      have F5 : PostCode r n0 s w (kk + 1 + m + 1) (k + 5) (.returned (.slice (some ⟨g, 0, none⟩) (kk + m) cap)) w4 := ⟨_, _, _, zs', k + 1 + 1, rfl, by omega, r1, S3.grown g1 (fun k hk => by simp only [Option.some.injEq] at hk; omega), by omega, O3.grown g1 (fun k hk => by simp only [Option.some.injEq] at hk; omega)⟩
      have F5 : Hid _ := F5
      clear r1 g1 hown3
      go_wp2_with fail
      go_ret
      exact F5.out
    · go_wp2_with fail
      refine (pick_n (n := 3) [4, 3, 16] S3 (by omega) rfl (by decide) (by decide) rfl).mono ?_
      rintro e w4 ⟨z, rfl, hz, S4, O4⟩
      clear hz
      have hown4 := ownsRow_oth hown3 O4 hs
      have O4 : Oth s w w4 := O3.trans O4
      clear hown3 S3 O3
      have hcap : kk + 1 + m ≤ cap := (ownsRow_ints hown4).2.2.1
      have hXi : IntsTo (w4.alloc (.cells #[.int .i64 z, .int .i64 0, .int .i64 0, .int .i64 0, .int .i64 0, .int .i64 0, .int .i64 0, .int .i64 0, .int .i64 0] 29)) w4.heap.size 9 := fun j hj => by
        rw [cell_of_row _ w4.heap.size j _ 29 (0, 0) (heap_alloc_new w4 _)]
        have : j = 0 ∨ j = 1 ∨ j = 2 ∨ j = 3 ∨ j = 4 ∨ j = 5 ∨ j = 6 ∨ j = 7 ∨ j = 8 := by omega
        rcases this with rfl | rfl | rfl | rfl | rfl | rfl | rfl | rfl | rfl <;> exact ⟨_, rfl⟩
      have S5 := S4.below (below_alloc w4 (.cells #[.int .i64 z, .int .i64 0, .int .i64 0, .int .i64 0, .int .i64 0, .int .i64 0, .int .i64 0, .int .i64 0, .int .i64 0] 29))
      have O5 := O4.trans (Oth.of_below (below_alloc w4 (.cells #[.int .i64 z, .int .i64 0, .int .i64 0, .int .i64 0, .int .i64 0, .int .i64 0, .int .i64 0, .int .i64 0, .int .i64 0] 29)))
      have hgl : g < w4.heap.size := (hown4.lt g rfl).2
      have FX : Hid (∀ (a' : Option Addr) (cap' : Nat) (zs' : List Int) (w6 : World), w6.ownsRow w.heap.size 29 9 (.slice a' (kk + 1 + m + 1) cap') (kk + 1 + m + 1) (zcells zs') → (w4.alloc (.cells #[.int .i64 z, .int .i64 0, .int .i64 0, .int .i64 0, .int .i64 0, .int .i64 0, .int .i64 0, .int .i64 0, .int .i64 0] 29)).grownBy w6 (some g) → PostCode r n0 s w (kk + 1 + m + 1) (k + 5) (.returned (.slice a' (kk + 1 + m + 1) cap')) w6) := fun a' cap' zs' w6 r1 g1 =>
        ⟨_, _, _, zs', _, rfl, Nat.le_refl _, r1, S5.grown g1 (fun k hk => by simp only [Option.some.injEq] at hk; omega), by omega, O5.grown g1 (fun k hk => by simp only [Option.some.injEq] at hk; omega)⟩
      by_cases hr : kk + 1 + m + 1 ≤ cap
      · have hins := insert9_room (i := kk) (m := m) (X := w4.heap.size) (hown4.alloc _) (by omega) (heap_alloc_new w4 (.cells #[.int .i64 z, .int .i64 0, .int .i64 0, .int .i64 0, .int .i64 0, .int .i64 0, .int .i64 0, .int .i64 0, .int .i64 0] 29)) (by omega) rfl hXi hr
        clear hown4 hXi S5 O5
        go_wp2_with fail
        refine hins.mono ?_
        rintro e w6 ⟨zs', rfl, r1, g1⟩
        have F5 := FX.out _ _ _ _ r1 g1
        have F5 : Hid _ := F5
        clear r1 g1
        go_wp2_with fail
        go_ret
        exact F5.out
      · obtain rfl : cap = kk + 1 + m := by omega
        have hins := insert9_grow (i := kk) (m := m) (X := w4.heap.size) (hown4.alloc _) (by omega) (heap_alloc_new w4 (.cells #[.int .i64 z, .int .i64 0, .int .i64 0, .int .i64 0, .int .i64 0, .int .i64 0, .int .i64 0, .int .i64 0, .int .i64 0] 29)) (by omega) rfl hXi (by have := O4.size; simp; omega)
        clear hown4 hXi S5 O5
        go_wp2_with fail
        refine hins.mono ?_
        rintro e w6 ⟨a', cap', zs', rfl, r1, g1⟩
        have F5 := FX.out _ _ _ _ r1 g1
        have F5 : Hid _ := F5
        clear r1 g1
        go_wp2_with fail
        go_ret
        exact F5.out
end
end Go.Proofs.Yteabbkagekdehaa
