/- Stream.SpoiledCode: whatever the numbers, at most one instruction more, in memory of the call's own. -/
import Derived.Test.YteabbkagekdehaaHcC
import Derived.Test.YteabbkagekdehaaHc8
section
set_option linter.unusedVariables false
set_option linter.unusedSimpArgs false
set_option maxRecDepth 100000
namespace Go.Proofs.Yteabbkagekdehaa
open Go.AE Go.RowKit Go.IntWalk
theorem exc {w : World} {base g cap n kk : Nat} {zs : List Int} (hown : w.ownsRow base 29 9 (.slice (some ⟨g, 0, none⟩) n cap) n (zcells zs)) (f : Nat) (h : kk * 9 + f < n * 9) : ∃ z : Int, w.cell? ⟨g, kk * 9 + f, none⟩ = some (.int .i64 z) :=
  (ownsRow_ints hown).2.2.2.2 _ h
theorem zset (zs : List Int) (j : Nat) (z : Int) : (zcells zs).set j (.int .i64 z) = zcells (zs.set j z) := by simp [zcells, List.map_set]
section
variable {r : Raw} {n0 s : Nat} {w : World}
set_option maxHeartbeats 4000000 in
theorem spoiled_c {k n base : Nat} {v : Value} {zs : List Int} (S : Strm r n0 s k w) (hk : k < 500000) (hown : w.ownsRow base 29 9 v n (zcells zs)) (hn : n ≤ 50000) :
    Calls Try.prog 24 #[.pointer (some ⟨s, 0, none⟩), v] w (PostCode r n0 s w (n + 1) (k + 5)) := by
  have hs := S.lt
  obtain ⟨i0, hi, hz0, hz1, hz2⟩ := info_parts info29
  go_enter Try.func24, Try.ntmps24
  go_wp2_with fail
  refine (clone9_c hown (by omega)).mono ?_
  rintro e w1 ⟨a, cap, rfl, hown1, hB1⟩
  have S1 := S.below hB1
  have O1 : Oth s w w1 := Oth.of_below hB1
  clear hown S hB1
  by_cases h0 : n = 0
  · subst h0
    go_wp2_with fail
    refine (range_c S1 (by omega) (by omega) (by omega) (by omega) (by omega)).mono ?_
    rintro e w2 ⟨z, rfl, z0, z1, S2, O2, -⟩
    have hown2 := ownsRow_oth hown1 O2 hs
    have O2 : Oth s w w2 := O1.trans O2
    clear hown1 z0 z1
    have HN : Hid (∀ j u, (zcells [z, 0, 0, 0, 0, 0, 0, 0, 0])[j]? = some u → (w2.alloc (.cells #[.int .i64 z, .int .i64 0, .int .i64 0, .int .i64 0, .int .i64 0, .int .i64 0, .int .i64 0, .int .i64 0, .int .i64 0] 29)).cell? ((⟨w2.heap.size, 0, none⟩ : Addr).add j) = some u) := fun j u hu => by
      rw [addr_add, cell_of_row _ w2.heap.size j _ 29 (0, 0) (heap_alloc_new w2 _)]
      simpa [zcells] using hu
    go_wp2_with (at_builtin; refine wpList_append_own _ rfl (.tmp 12) (.tmp 16) 26 rfl w.heap.size 29 i0 _ 9 72 Try.underlying26 hi hz0 hz1 hz2 rfl (by decide) _ _ _ rfl (hown2.alloc _) ⟨w2.heap.size, 0, none⟩ 1 1 (zcells [z, 0, 0, 0, 0, 0, 0, 0, 0]) rfl rfl HN.out (zcells_one _) (by unfold maxLen; omega) (by omega) (by have := O2.size; simp; omega) ?_; intro v' w4 hown4 hg4 hnil)
    obtain ⟨a', c', rfl⟩ := ownsRow_shape hown4
    have hrow : ∀ k, (Value.slice a 0 cap).ownBlock = some k → w.heap.size ≤ k := fun k hk => (hown2.lt k hk).1
    have S4 := (S2.below (below_alloc w2 _)).grown hg4 fun k hk => Nat.lt_of_lt_of_le hs (hrow k hk)
    have O4 := (O2.trans (Oth.of_below (below_alloc w2 _))).grown hg4 hrow
    have F4 : PostCode r n0 s w (0 + 1) (k + 5) (.returned (.slice a' (0 + 1) c')) w4 := ⟨a', 0 + 1, c', zs ++ [z, 0, 0, 0, 0, 0, 0, 0, 0], _, rfl, Nat.le_refl _, by rw [show zcells (zs ++ [z, 0, 0, 0, 0, 0, 0, 0, 0]) = zcells zs ++ zcells [z, 0, 0, 0, 0, 0, 0, 0, 0] by simp [zcells]]; exact hown4, S4, by omega, O4⟩
    have F4 : Hid _ := F4
    clear hown4 hg4 hnil hown2
    go_ret
    exact F4.out
  · obtain ⟨g, rfl⟩ : ∃ g, a = some ⟨g, 0, none⟩ := by
      rcases hown1.2 with ⟨h, h0⟩ | ⟨g, cap, cur, h, _⟩
      · omega
      · simp only [Value.slice.injEq] at h; exact ⟨g, h.1⟩
    have h0I : ¬ ((n : Int) = 0) := by omega
    go_wp2_with fail
    refine (next_c S1 (by omega) (by omega) (by omega)).mono ?_
    rintro e w2 ⟨kx, rfl, k0, k1, S2, O2, -⟩
    obtain ⟨kk, rfl⟩ : ∃ kk : Nat, kx = kk := ⟨kx.toNat, by omega⟩
    obtain ⟨m, rfl⟩ : ∃ m, n = kk + 1 + m := ⟨n - kk - 1, by omega⟩
    have hown2 := ownsRow_oth hown1 O2 hs
    have O2 : Oth s w w2 := O1.trans O2
    have e1 : kk < kk + 1 + m := by omega
    clear hown1 O1 S1
    go_wp2_with fail
    refine (next_c S2 (by omega) (by omega) (by omega)).mono ?_
    rintro e w3 ⟨sw, rfl, s0, s1, S3, O3, -⟩
    have hown3 := ownsRow_oth hown2 O3 hs
    have O3 : Oth s w w3 := O2.trans O3
    have hgb : w.heap.size ≤ g := (hown3.lt g rfl).1
    clear hown2 O2 S2
    have FIN : Hid (∀ (K : Nat) (w4 : World), Strm r n0 s K w4 → Oth s w w4 → w4.ownsRow w.heap.size 29 9 (.slice (some ⟨g, 0, none⟩) (kk + 1 + m) cap) (kk + 1 + m) (zcells zs) → ∀ (f : Nat) (z : Int), K ≤ k + 5 →
        PostCode r n0 s w (kk + 1 + m + 1) (k + 5) (.returned (.slice (some ⟨g, 0, none⟩) (kk + 1 + m) cap)) (w4.setCell ⟨g, kk * 9 + f, none⟩ (.int .i64 z))) := by
      intro K w4 S4 O4 hown4 f z hK
      obtain ⟨r1, g1⟩ := hown4.stored (kk * 9 + f) (.int .i64 z)
      rw [zset] at r1
      exact ⟨_, _, _, _, K, rfl, by omega, r1, S4.grown g1 (fun k hk => by simp only [Option.some.injEq] at hk; omega), hK, O4.grown g1 (fun k hk => by simp only [Option.some.injEq] at hk; omega)⟩
    have FI0 : Hid (∀ (K : Nat) (w4 : World), Strm r n0 s K w4 → Oth s w w4 → w4.ownsRow w.heap.size 29 9 (.slice (some ⟨g, 0, none⟩) (kk + 1 + m) cap) (kk + 1 + m) (zcells zs) → K ≤ k + 5 →
        PostCode r n0 s w (kk + 1 + m + 1) (k + 5) (.returned (.slice (some ⟨g, 0, none⟩) (kk + 1 + m) cap)) w4) := fun _ _ S4 O4 hown4 hK => ⟨_, _, _, _, _, rfl, by omega, hown4, S4, hK, O4⟩
    have hsw : sw = 0 ∨ sw = 1 ∨ sw = 2 ∨ sw = 3 ∨ sw = 4 ∨ sw = 5 ∨ sw = 6 ∨ sw = 7 ∨ sw = 8 ∨ sw = 9 ∨ sw = 10 := by omega
    clear s0 s1
    rcases hsw with rfl | rfl | rfl | rfl | rfl | rfl | rfl | rfl | rfl | rfl | rfl
    · go_wp2_with fail
      refine (range_c S3 (by omega) (by omega) (by omega) (by omega) (by omega)).mono ?_
      rintro e w4 ⟨z, rfl, z0, z1, S4, O4, -⟩
      clear z0 z1
      have hown4 := ownsRow_oth hown3 O4 hs
      have O4 : Oth s w w4 := O3.trans O4
      obtain ⟨x4, hx4⟩ := exc (kk := kk) hown4 0 (by omega)
      have hf4 := hown4.frozenAt (kk * 9 + 0)
      have F4 := FIN.out _ _ S4 O4 hown4 0 z (by omega)
      have F4 : Hid _ := F4
      clear hown4 hown3
      simp only [Nat.add_zero] at hx4 hf4 F4
      go_wp2_with fail
      go_ret
      exact F4.out
    · obtain ⟨p6, hp6⟩ := exc (kk := kk) hown3 6 (by omega)
      by_cases hp : p6 = 0
      · subst hp
        go_wp2_with fail
        clear hp6
        refine (pick_n (n := 8) [0, 1, 2, 3, 4, 15, 16, 34] S3 (by omega) rfl (by decide) (by decide) rfl).mono ?_
        rintro e w4 ⟨z, rfl, hz, S4, O4⟩
        clear hz
        have hown4 := ownsRow_oth hown3 O4 hs
        have O4 : Oth s w w4 := O3.trans O4
        obtain ⟨x4, hx4⟩ := exc (kk := kk) hown4 1 (by omega)
        have hf4 := hown4.frozenAt (kk * 9 + 1)
        have F4 := FIN.out _ _ S4 O4 hown4 1 z (by omega)
        have F4 : Hid _ := F4
        clear hown4 hown3
        go_wp2_with fail
        go_ret
        exact F4.out
      · have hpB : (p6 == 0) = false := by simp [hp]
        have F4 := FI0.out _ _ S3 O3 hown3 (by omega)
        have F4 : Hid _ := F4
        have HP : Hid (¬ p6 = 0) := hp
        clear hp hown3
        go_wp2_with fail
        go_ret
        exact F4.out
    · go_wp2_with fail
      refine (pick_n (n := 7) [-1, 8, 15, 16, 1, 31, 32] S3 (by omega) rfl (by decide) (by decide) rfl).mono ?_
      rintro e w4 ⟨z, rfl, hz, S4, O4⟩
      clear hz
      have hown4 := ownsRow_oth hown3 O4 hs
      have O4 : Oth s w w4 := O3.trans O4
      obtain ⟨x4, hx4⟩ := exc (kk := kk) hown4 2 (by omega)
      have hf4 := hown4.frozenAt (kk * 9 + 2)
      have F4 := FIN.out _ _ S4 O4 hown4 2 z (by omega)
      have F4 : Hid _ := F4
      clear hown4 hown3
      go_wp2_with fail
      go_ret
      exact F4.out
    · go_wp2_with fail
      refine (pick_n (n := 5) [-1, 7, 8, 15, 16] S3 (by omega) rfl (by decide) (by decide) rfl).mono ?_
      rintro e w4 ⟨z, rfl, hz, S4, O4⟩
      clear hz
      have hown4 := ownsRow_oth hown3 O4 hs
      have O4 : Oth s w w4 := O3.trans O4
      obtain ⟨x4, hx4⟩ := exc (kk := kk) hown4 3 (by omega)
      have hf4 := hown4.frozenAt (kk * 9 + 3)
      have F4 := FIN.out _ _ S4 O4 hown4 3 z (by omega)
      have F4 : Hid _ := F4
      clear hown4 hown3
      go_wp2_with fail
      go_ret
      exact F4.out
    · go_wp2_with fail
      refine (pick_n (n := 5) [-1, 7, 8, 16, 3] S3 (by omega) rfl (by decide) (by decide) rfl).mono ?_
      rintro e w4 ⟨z, rfl, hz, S4, O4⟩
      clear hz
      have hown4 := ownsRow_oth hown3 O4 hs
      have O4 : Oth s w w4 := O3.trans O4
      obtain ⟨x4, hx4⟩ := exc (kk := kk) hown4 4 (by omega)
      have hf4 := hown4.frozenAt (kk * 9 + 4)
      have F4 := FIN.out _ _ S4 O4 hown4 4 z (by omega)
      have F4 : Hid _ := F4
      clear hown4 hown3
      go_wp2_with fail
      go_ret
      exact F4.out
    · go_wp2_with fail
      refine (pick_n (n := 8) [-1, 2, 7, 8, 1000, 1001, -1000, -1001] S3 (by omega) rfl (by decide) (by decide) rfl).mono ?_
      rintro e w4 ⟨z, rfl, hz, S4, O4⟩
      clear hz
      have hown4 := ownsRow_oth hown3 O4 hs
      have O4 : Oth s w w4 := O3.trans O4
      obtain ⟨x4, hx4⟩ := exc (kk := kk) hown4 5 (by omega)
      have hf4 := hown4.frozenAt (kk * 9 + 5)
      have F4 := FIN.out _ _ S4 O4 hown4 5 z (by omega)
      have F4 : Hid _ := F4
      clear hown4 hown3
      go_wp2_with fail
      go_ret
      exact F4.out
    · obtain ⟨q1, hq1⟩ := exc (kk := kk) hown3 1 (by omega)
      by_cases hA : 4 ≤ q1 ∧ q1 ≤ 15
      · obtain ⟨hA1, hA2⟩ := hA
        have hA0 : ¬ q1 < 4 := by omega
        go_wp2_with fail
        clear hq1
        refine (pick_n (n := 5) [0, 1, 16, 17, -1] S3 (by omega) rfl (by decide) (by decide) rfl).mono ?_
        rintro e w4 ⟨z, rfl, hz, S4, O4⟩
        clear hz
        have hown4 := ownsRow_oth hown3 O4 hs
        have O4 : Oth s w w4 := O3.trans O4
        obtain ⟨x4, hx4⟩ := exc (kk := kk) hown4 6 (by omega)
        have hf4 := hown4.frozenAt (kk * 9 + 6)
        have F4 := FIN.out _ _ S4 O4 hown4 6 z (by omega)
        have F4 : Hid _ := F4
        clear hown4 hown3
        go_wp2_with fail
        go_ret
        exact F4.out
      · by_cases hZ : q1 = 0
        · subst hZ
          go_wp2_with fail
          clear hq1
          refine (pick_n (n := 5) [0, 1, 16, 17, -1] S3 (by omega) rfl (by decide) (by decide) rfl).mono ?_
          rintro e w4 ⟨z, rfl, hz, S4, O4⟩
          clear hz
          have hown4 := ownsRow_oth hown3 O4 hs
          have O4 : Oth s w w4 := O3.trans O4
          obtain ⟨x4, hx4⟩ := exc (kk := kk) hown4 6 (by omega)
          have hf4 := hown4.frozenAt (kk * 9 + 6)
          have F4 := FIN.out _ _ S4 O4 hown4 6 z (by omega)
          have F4 : Hid _ := F4
          clear hown4 hown3
          go_wp2_with fail
          go_ret
          exact F4.out
        · have F4 := FI0.out _ _ S3 O3 hown3 (by omega)
          have F4 : Hid _ := F4
          have hZB : (q1 == 0) = false := by simp [hZ]
          have HZ : Hid (¬ q1 = 0) := hZ
          clear hown3
          by_cases hA1 : 4 ≤ q1
          · have hA2 : ¬ q1 ≤ 15 := by omega
            clear hA hZ
            go_wp2_with fail
            go_ret
            exact F4.out
          · clear hA hZ
            go_wp2_with fail
            go_ret
            exact F4.out
    · go_wp2_with fail
      refine (pick_n (n := 6) [0, 31, 32, 2147483647, 2147483648, -2147483649] S3 (by omega) rfl (by decide) (by decide) rfl).mono ?_
      rintro e w4 ⟨z, rfl, hz, S4, O4⟩
      clear hz
      have hown4 := ownsRow_oth hown3 O4 hs
      have O4 : Oth s w w4 := O3.trans O4
      obtain ⟨x4, hx4⟩ := exc (kk := kk) hown4 7 (by omega)
      have hf4 := hown4.frozenAt (kk * 9 + 7)
      have F4 := FIN.out _ _ S4 O4 hown4 7 z (by omega)
      have F4 : Hid _ := F4
      clear hown4 hown3
      go_wp2_with fail
      go_ret
      exact F4.out
    · go_wp2_with fail
      refine (pick_n (n := 7) [0, 1, 256, 257, 1000000, 1000001, -1] S3 (by omega) rfl (by decide) (by decide) rfl).mono ?_
      rintro e w4 ⟨z, rfl, hz, S4, O4⟩
      clear hz
      have hown4 := ownsRow_oth hown3 O4 hs
      have O4 : Oth s w w4 := O3.trans O4
      obtain ⟨x4, hx4⟩ := exc (kk := kk) hown4 8 (by omega)
      have hf4 := hown4.frozenAt (kk * 9 + 8)
      have F4 := FIN.out _ _ S4 O4 hown4 8 z (by omega)
      have F4 : Hid _ := F4
      clear hown4 hown3
      go_wp2_with fail
      go_ret
      exact F4.out
    · have F4 := FI0
      go_wp2_with fail
      refine (delete9_c (k := kk) (m := m) hown3 (by omega)).mono ?_
      rintro e w4 ⟨zs', rfl, r1, g1⟩
      have F5 : PostCode r n0 s w (kk + 1 + m + 1) (k + 5) (.returned (.slice (some ⟨g, 0, none⟩) (kk + m) cap)) w4 := ⟨_, _, _, zs', k + 1 + 1, rfl, by omega, r1, S3.grown g1 (fun k hk => by simp only [Option.some.injEq] at hk; omega), by omega, O3.grown g1 (fun k hk => by simp only [Option.some.injEq] at hk; omega)⟩
      have F5 : Hid _ := F5
      clear r1 g1 hown3
      go_wp2_with fail
      go_ret
      exact F5.out
    · go_wp2_with fail
      refine (pick_n (n := 3) [4, 3, 16] S3 (by omega) rfl (by decide) (by decide) rfl).mono ?_
      rintro e w4 ⟨z, rfl, hz, S4, O4⟩
      clear hz
      have hown4 := ownsRow_oth hown3 O4 hs
      have O4 : Oth s w w4 := O3.trans O4
      clear hown3 S3 O3
      have hcap : kk + 1 + m ≤ cap := (ownsRow_ints hown4).2.2.1
      have hXi : IntsTo (w4.alloc (.cells #[.int .i64 z, .int .i64 0, .int .i64 0, .int .i64 0, .int .i64 0, .int .i64 0, .int .i64 0, .int .i64 0, .int .i64 0] 29)) w4.heap.size 9 := fun j hj => by
        rw [cell_of_row _ w4.heap.size j _ 29 (0, 0) (heap_alloc_new w4 _)]
        have : j = 0 ∨ j = 1 ∨ j = 2 ∨ j = 3 ∨ j = 4 ∨ j = 5 ∨ j = 6 ∨ j = 7 ∨ j = 8 := by omega
        rcases this with rfl | rfl | rfl | rfl | rfl | rfl | rfl | rfl | rfl <;> exact ⟨_, rfl⟩
      have S5 := S4.below (below_alloc w4 (.cells #[.int .i64 z, .int .i64 0, .int .i64 0, .int .i64 0, .int .i64 0, .int .i64 0, .int .i64 0, .int .i64 0, .int .i64 0] 29))
      have O5 := O4.trans (Oth.of_below (below_alloc w4 (.cells #[.int .i64 z, .int .i64 0, .int .i64 0, .int .i64 0, .int .i64 0, .int .i64 0, .int .i64 0, .int .i64 0, .int .i64 0] 29)))
      have hgl : g < w4.heap.size := (hown4.lt g rfl).2
      have FX : Hid (∀ (a' : Option Addr) (cap' : Nat) (zs' : List Int) (w6 : World), w6.ownsRow w.heap.size 29 9 (.slice a' (kk + 1 + m + 1) cap') (kk + 1 + m + 1) (zcells zs') → (w4.alloc (.cells #[.int .i64 z, .int .i64 0, .int .i64 0, .int .i64 0, .int .i64 0, .int .i64 0, .int .i64 0, .int .i64 0, .int .i64 0] 29)).grownBy w6 (some g) → PostCode r n0 s w (kk + 1 + m + 1) (k + 5) (.returned (.slice a' (kk + 1 + m + 1) cap')) w6) := fun a' cap' zs' w6 r1 g1 =>
        ⟨_, _, _, zs', _, rfl, Nat.le_refl _, r1, S5.grown g1 (fun k hk => by simp only [Option.some.injEq] at hk; omega), by omega, O5.grown g1 (fun k hk => by simp only [Option.some.injEq] at hk; omega)⟩
      by_cases hr : kk + 1 + m + 1 ≤ cap
      · have hins := insert9_room (i := kk) (m := m) (X := w4.heap.size) (hown4.alloc _) (by omega) (heap_alloc_new w4 (.cells #[.int .i64 z, .int .i64 0, .int .i64 0, .int .i64 0, .int .i64 0, .int .i64 0, .int .i64 0, .int .i64 0, .int .i64 0] 29)) (by omega) rfl hXi hr
        clear hown4 hXi S5 O5
        go_wp2_with fail
        refine hins.mono ?_
        rintro e w6 ⟨zs', rfl, r1, g1⟩
        have F5 := FX.out _ _ _ _ r1 g1
        have F5 : Hid _ := F5
        clear r1 g1
        go_wp2_with fail
        go_ret
        exact F5.out
      · obtain rfl : cap = kk + 1 + m := by omega
        have hins := insert9_grow (i := kk) (m := m) (X := w4.heap.size) (hown4.alloc _) (by omega) (heap_alloc_new w4 (.cells #[.int .i64 z, .int .i64 0, .int .i64 0, .int .i64 0, .int .i64 0, .int .i64 0, .int .i64 0, .int .i64 0, .int .i64 0] 29)) (by omega) rfl hXi (by have := O4.size; simp; omega)
        clear hown4 hXi S5 O5
        go_wp2_with fail
        refine hins.mono ?_
        rintro e w6 ⟨a', cap', zs', rfl, r1, g1⟩
        have F5 := FX.out _ _ _ _ r1 g1
        have F5 : Hid _ := F5
        clear r1 g1
        go_wp2_with fail
        go_ret
        exact F5.out
end
end Go.Proofs.Yteabbkagekdehaa
end
section
/- Machine; coded: whatever the numbers, a machine of five numbers and instructions of nine. -/
set_option linter.unusedVariables false
set_option linter.unusedSimpArgs false
set_option maxRecDepth 100000
namespace Go.Proofs.Yteabbkagekdehaa
open Go.AE Go.RowKit Go.IntWalk
def rMach : HRes := ⟨.agg 5, 7, 0, false⟩
theorem mach_run : ckFn (envOf Try.prog) ⟨nbS, ext0⟩ rMach.k 0 10 Try.f55 [.fld 0 0] = some rMach := by kernel_rfl
theorem named_S {r : Raw} {n0 s k : Nat} {w : World} (S : Strm r n0 s k w) {B : Nat} (hB : s < B) : Named nbS (fun _ => s) B w := by
  refine ⟨by simp [nbS], fun i j hi hj _ => by simp [nbS] at hi hj; omega, fun i hi => hB, fun i cs hi => ?_, fun i cs j k hi hj => ?_, fun i cs hi => ?_⟩
  · match i, hi with
    | 0, hi => cases hi; simp
  · match i, hi with
    | 0, hi => cases hi; simp at hj
  · match i, hi with
    | 0, hi =>
      cases hi
      have hc := S.l
      unfold World.cell? at hc
      cases hh : w.heap[s]? with
      | none => simp [hh] at hc
      | some o =>
        cases o with
        | cells vs e fr => exact ⟨vs, e, fr, rfl, Nat.zero_le _, fun j κ hj => by simp at hj⟩
        | _ => simp [hh] at hc
/-- a function that only draws, called by itself -/
theorem q_start {r : Raw} {n0 s k : Nat} {w : World} {f : FuncId} {tys : List Ty} {x : HRes} (h : ExtQ1 r n0 s nbS (fun _ => s) f tys x) (S : Strm r n0 s k w) (hk : k + x.k ≤ 900000) {us : List Value} (hus : Tys w.heap.size (fun _ => s) w tys us) :
    Calls Try.prog f us.toArray w fun e w' => ∃ u, e = .returned u ∧ (∃ B, HasTy B (fun _ => s) w' x.ty u) ∧ (∃ k', k' ≤ k + x.k ∧ Strm r n0 s k' w') ∧ Oth s w w' := by
  have SI : SInv r n0 s k nbS (fun _ => s) (fun B K _ w' => B = w.heap.size ∧ (∃ k', k' ≤ k + K ∧ Strm r n0 s k' w') ∧ Oth s w w') := {
    strm := fun {B K N w1} ⟨e, S1, O⟩ => ⟨S1, by have := S.lt; omega⟩
    adv := fun {B K K' N w1 w2} ⟨e, S1, O⟩ _ S2 O2 => ⟨e, S2, O.trans O2⟩
    named := fun {B K N w1} ⟨e, ⟨k', _, S'⟩, O⟩ => named_S S' (by have := S.lt; omega)
    bw := fun {B K N w1} ⟨e, _, O⟩ => by subst e; exact O.size }
  refine (h.2 k _ SI (B := w.heap.size) (K := 0) (N := 0) ⟨rfl, ⟨k, Nat.le_refl _, S⟩, Oth.refl _ _⟩ (by omega) hus).mono ?_
  rintro e w' ⟨u, rfl, h1, ⟨_, ⟨k', h2, S'⟩, O⟩, _⟩
  exact ⟨u, rfl, ⟨_, h1⟩, ⟨k', by omega, S'⟩, O⟩
def magg (m0 m1 m2 m3 m4 : Int) : Value := .agg #[.int .i64 m0, .int .i64 m1, .int .i64 m2, .int .i64 m3, .int .i64 m4]
theorem machine_c {r : Raw} {n0 s k : Nat} {w : World} (S : Strm r n0 s k w) (hk : k ≤ 800000) :
    Calls Try.prog 55 #[.pointer (some ⟨s, 0, none⟩)] w fun e w' => ∃ m0 m1 m2 m3 m4 : Int, e = .returned (.agg #[.int .i64 m0, .int .i64 m1, .int .i64 m2, .int .i64 m3, .int .i64 m4]) ∧ (∃ k', k' ≤ k + 7 ∧ Strm r n0 s k' w') ∧ Oth s w w' := by
  have hX : ExtQ1 r n0 s nbS (fun _ => s) 55 [.fld 0 0] rMach := qrun (blk := fun _ => s) rfl (ext0_ok (blk := fun _ => s) rfl) rfl Try.func55 rfl (x := rMach) rfl mach_run rfl
  refine (q_start hX S (by show k + 7 ≤ _; omega) (us := [.pointer (some ⟨s, 0, none⟩)]) (.cons ⟨0, rfl, fun n hn => by cases hn⟩ .nil)).mono ?_
  rintro e w' ⟨u, rfl, ⟨_, _, ⟨zs, hz, rfl⟩, _⟩, hS, O⟩
  match zs, hz with
  | [m0, m1, m2, m3, m4], _ => exact ⟨m0, m1, m2, m3, m4, rfl, hS, O⟩
def Keep5 (w' : World) (b : Nat) (m0 m1 m2 m3 m4 : Int) : Prop := w'.cell? ⟨b, 0, none⟩ = some (.int .i64 m0) ∧ w'.cell? ⟨b, 1, none⟩ = some (.int .i64 m1) ∧ w'.cell? ⟨b, 2, none⟩ = some (.int .i64 m2) ∧ w'.cell? ⟨b, 3, none⟩ = some (.int .i64 m3) ∧ w'.cell? ⟨b, 4, none⟩ = some (.int .i64 m4)
theorem Keep5.oth {s : Nat} {w w' : World} {b : Nat} {m0 m1 m2 m3 m4 : Int} (h : Keep5 w b m0 m1 m2 m3 m4) (O : Oth s w w') (hb : b < w.heap.size) (hs : b ≠ s) : Keep5 w' b m0 m1 m2 m3 m4 := by
  unfold Keep5 at h ⊢
  rw [O.cell (p := ⟨b, 0, none⟩) hb hs, O.cell (p := ⟨b, 1, none⟩) hb hs, O.cell (p := ⟨b, 2, none⟩) hb hs, O.cell (p := ⟨b, 3, none⟩) hb hs, O.cell (p := ⟨b, 4, none⟩) hb hs]
  exact h
def set5 (w : World) (p : Nat) (m0 m1 m2 m3 m4 : Int) : World := ((((w.setCell ⟨p, 0, none⟩ (.int .i64 m0)).setCell ⟨p, 1, none⟩ (.int .i64 m1)).setCell ⟨p, 2, none⟩ (.int .i64 m2)).setCell ⟨p, 3, none⟩ (.int .i64 m3)).setCell ⟨p, 4, none⟩ (.int .i64 m4)
theorem oth_setCell (w : World) (p o : Nat) (v : Value) : Oth p w (w.setCell ⟨p, o, none⟩ v) :=
  ⟨rfl, rfl, rfl, by rw [csize_set]; exact Nat.le_refl _, fun k _ hs => Below.heap_setCell _ _ _ _ (by exact hs)⟩
theorem set5_oth (w : World) (p : Nat) (m0 m1 m2 m3 m4 : Int) : Oth p w (set5 w p m0 m1 m2 m3 m4) :=
  (oth_setCell _ _ _ _).trans ((oth_setCell _ _ _ _).trans ((oth_setCell _ _ _ _).trans ((oth_setCell _ _ _ _).trans (oth_setCell _ _ _ _))))
theorem set5_cells (w : World) (p : Nat) (m0 m1 m2 m3 m4 : Int) {v0 v1 v2 v3 v4 : Value} (q0 : w.cell? ⟨p, 0, none⟩ = some v0) (q1 : w.cell? ⟨p, 1, none⟩ = some v1) (q2 : w.cell? ⟨p, 2, none⟩ = some v2) (q3 : w.cell? ⟨p, 3, none⟩ = some v3) (q4 : w.cell? ⟨p, 4, none⟩ = some v4) :
    (set5 w p m0 m1 m2 m3 m4).cell? ⟨p, 0, none⟩ = some (.int .i64 m0) ∧ (set5 w p m0 m1 m2 m3 m4).cell? ⟨p, 1, none⟩ = some (.int .i64 m1) ∧ (set5 w p m0 m1 m2 m3 m4).cell? ⟨p, 2, none⟩ = some (.int .i64 m2) ∧ (set5 w p m0 m1 m2 m3 m4).cell? ⟨p, 3, none⟩ = some (.int .i64 m3) ∧ (set5 w p m0 m1 m2 m3 m4).cell? ⟨p, 4, none⟩ = some (.int .i64 m4) := by
  have o : ∀ (w : World) (i j : Nat) (v : Value), i ≠ j → (w.setCell ⟨p, i, none⟩ v).cell? ⟨p, j, none⟩ = w.cell? ⟨p, j, none⟩ := fun w i j v h => World.cell?_setCell_other _ _ _ _ (fun e => h (by first | (cases e; rfl) | (cases e.symm; rfl)))
  unfold set5
  refine ⟨?_, ?_, ?_, ?_, ?_⟩
  · rw [o _ 4 0 _ (by decide), o _ 3 0 _ (by decide), o _ 2 0 _ (by decide), o _ 1 0 _ (by decide)]; exact World.cell?_setCell_same _ _ _ q0
  · rw [o _ 4 1 _ (by decide), o _ 3 1 _ (by decide), o _ 2 1 _ (by decide)]; exact World.cell?_setCell_same _ _ _ (by rw [o _ 0 1 _ (by decide)]; exact q1)
  · rw [o _ 4 2 _ (by decide), o _ 3 2 _ (by decide)]; exact World.cell?_setCell_same _ _ _ (by rw [o _ 1 2 _ (by decide), o _ 0 2 _ (by decide)]; exact q2)
  · rw [o _ 4 3 _ (by decide)]; exact World.cell?_setCell_same _ _ _ (by rw [o _ 2 3 _ (by decide), o _ 1 3 _ (by decide), o _ 0 3 _ (by decide)]; exact q3)
  · exact World.cell?_setCell_same _ _ _ (by rw [o _ 3 4 _ (by decide), o _ 2 4 _ (by decide), o _ 1 4 _ (by decide), o _ 0 4 _ (by decide)]; exact q4)
/-- what 'coded' leaves -/
def PostCoded (r : Raw) (n0 s : Nat) (w : World) (N k : Nat) (e : Ending) (w' : World) : Prop :=
  ∃ (m0 m1 m2 m3 m4 : Int) (a : Option Addr) (n cap : Nat) (zs : List Int) (k' : Nat), e = .returned (.tuple #[.agg #[.int .i64 m0, .int .i64 m1, .int .i64 m2, .int .i64 m3, .int .i64 m4], .slice a n cap]) ∧ n ≤ N ∧ w'.ownsRow w.heap.size 29 9 (.slice a n cap) n (zcells zs) ∧ Strm r n0 s k' w' ∧ k' ≤ k ∧ Oth s w w'
set_option maxHeartbeats 2000000 in
theorem coded_c {r : Raw} {n0 s k : Nat} {w : World} (S : Strm r n0 s k w) (hk : k ≤ 100000) :
    Calls Try.prog 22 #[.pointer (some ⟨s, 0, none⟩)] w (PostCoded r n0 s w 3010 (k + 20100)) := by
  have hs := S.lt
  go_enter Try.func22, Try.ntmps22
  go_wp2_with fail
  have B0 := below_alloc w (.cells #[.int .i64 0, .int .i64 0, .int .i64 0, .int .i64 0, .int .i64 0] 36)
  have hr0 := heap_alloc_new w (.cells #[.int .i64 0, .int .i64 0, .int .i64 0, .int .i64 0, .int .i64 0] 36)
  have hz0 : (w.alloc (.cells #[.int .i64 0, .int .i64 0, .int .i64 0, .int .i64 0, .int .i64 0] 36)).heap.size = w.heap.size + 1 := by simp
  refine (machine_c (S.below B0) (by omega)).mono ?_
  rintro e w1 ⟨m0, m1, m2, m3, m4, rfl, ⟨k1, hk1, S1⟩, O1⟩
  have hz1 : w.heap.size < w1.heap.size := by have := O1.size; omega
  have hr1 : w1.heap[w.heap.size]? = some (.cells #[.int .i64 0, .int .i64 0, .int .i64 0, .int .i64 0, .int .i64 0] 36) := by
    rw [O1.block w.heap.size (by omega) (by omega)]; exact hr0
  have O1 : Oth s w w1 := (Oth.of_below B0).trans O1
  clear hr0 hz0 B0
  go_wp2_with fail
  have B2 := below_alloc w1 (.cells #[.int .i64 m0, .int .i64 m1, .int .i64 m2, .int .i64 m3, .int .i64 m4] 36)
  have hr2 := heap_alloc_new w1 (.cells #[.int .i64 m0, .int .i64 m1, .int .i64 m2, .int .i64 m3, .int .i64 m4] 36)
  have hz2 : (w1.alloc (.cells #[.int .i64 m0, .int .i64 m1, .int .i64 m2, .int .i64 m3, .int .i64 m4] 36)).heap.size = w1.heap.size + 1 := by simp
  have S2 := S1.below B2
  have O2 := O1.trans (Oth.of_below B2)
  have hq1 : (w1.alloc (.cells #[.int .i64 m0, .int .i64 m1, .int .i64 m2, .int .i64 m3, .int .i64 m4] 36)).heap[w.heap.size]? = some (.cells #[.int .i64 0, .int .i64 0, .int .i64 0, .int .i64 0, .int .i64 0] 36) := by rw [B2.block _ hz1]; exact hr1
  obtain ⟨b, hb⟩ : ∃ b, w1.heap.size = b := ⟨_, rfl⟩
  obtain ⟨w2, hw2⟩ : ∃ w2, w1.alloc (.cells #[.int .i64 m0, .int .i64 m1, .int .i64 m2, .int .i64 m3, .int .i64 m4] 36) = w2 := ⟨_, rfl⟩
  rw [hw2] at hr2 hz2 S2 O2 hq1
  rw [hb] at hr2 hz2 hz1
  rw [hw2, hb]
  clear hw2 B2 S1 O1 hr1 hb
  have c0 : w2.cell? ⟨b, 0, none⟩ = some (.int .i64 m0) := by rw [cell_of_row _ b 0 _ 36 (0, 0) hr2]; rfl
  have c1 : w2.cell? ⟨b, 1, none⟩ = some (.int .i64 m1) := by rw [cell_of_row _ b 1 _ 36 (0, 0) hr2]; rfl
  have c2 : w2.cell? ⟨b, 2, none⟩ = some (.int .i64 m2) := by rw [cell_of_row _ b 2 _ 36 (0, 0) hr2]; rfl
  have c3 : w2.cell? ⟨b, 3, none⟩ = some (.int .i64 m3) := by rw [cell_of_row _ b 3 _ 36 (0, 0) hr2]; rfl
  have c4 : w2.cell? ⟨b, 4, none⟩ = some (.int .i64 m4) := by rw [cell_of_row _ b 4 _ 36 (0, 0) hr2]; rfl
  have S2d : Strm r n0 s k1 w2.drew := S2.below ⟨rfl, rfl, rfl, Nat.le_refl _, fun _ _ => rfl⟩
  have hbs : b ≠ s := by omega
  have K2 : Keep5 w2.drew b m0 m1 m2 m3 m4 := ⟨c0, c1, c2, c3, c4⟩
  have K2 : Hid _ := K2
  go_region_held3 (fun w' => w'.cell? ⟨b, 0, none⟩ = some (.int .i64 m0) ∧ w'.cell? ⟨b, 1, none⟩ = some (.int .i64 m1) ∧ w'.cell? ⟨b, 2, none⟩ = some (.int .i64 m2) ∧ w'.cell? ⟨b, 3, none⟩ = some (.int .i64 m3) ∧ w'.cell? ⟨b, 4, none⟩ = some (.int .i64 m4))
    (first | exact ⟨c0, c1, c2, c3, c4⟩ | exact K3.out | exact K4.out)
    (first
      | (go_at_call 34
         refine (range_c (lo := 0) (hi := 14) S2d (by omega) (by omega) (by omega) (by omega) (by omega)).mono ?_
         rintro e w3 ⟨x, rfl, x0, x1, S3, O3, -⟩
         obtain ⟨mx, rfl⟩ : ∃ mx : Nat, x = mx := ⟨x.toNat, by omega⟩
         have K2' := K2.out
         have K3 := Keep5.oth K2' O3 (by show b < w2.heap.size; omega) hbs
         have K3 : Hid _ := K3)
      | (go_at_call 56
         refine (code_c S3 (by omega) m0 m1 m2 m3 m4 (by omega)).mono ?_
         rintro e w4 ⟨a, n, cap, zs, k4, rfl, hn, hown, S4, hk4, O4⟩
         have K3' := K3.out
         have K4 := Keep5.oth K3' O4 (by have := O3.size; have : w2.drew.heap.size = w2.heap.size := rfl; omega) hbs
         have K4 : Hid _ := K4))
  have hsz3 : b + 1 ≤ w3.heap.size := by have := O3.size; have : w2.drew.heap.size = w2.heap.size := rfl; omega
  have hsz4 : b + 1 ≤ w4.heap.size := by have := O4.size; omega
  have O3' : Oth s w2 w3 := ⟨O3.os, O3.tape, O3.output, O3.size, O3.block⟩
  have O24 : Oth s w2 w4 := O3'.trans O4
  have O4 : Oth s w w4 := O2.trans O24
  have hq4 : w4.heap[w.heap.size]? = some (.cells #[.int .i64 0, .int .i64 0, .int .i64 0, .int .i64 0, .int .i64 0] 36) := by rw [O24.block _ (by omega) (by omega)]; exact hq1
  have K4 : Hid _ := K4
  have hown4 := ownsRow_base hown (base' := b + 1) hsz3
  have hq4 : Hid _ := hq4
  have H3 : Hid (b + 1 ≤ w4.heap.size) := hsz4
  rename_i K2y K3y K4y hHy
  clear hown K2y K3y K4y hHy K3 K3' K2' K2 hq1 hr2 c0 c1 c2 c3 c4 S2d S2 O2 hz2 O3 O3' O24 hsz3 S3 x0 x1 hsz4 O1
  go_wp2_with fail
  refine (pick_n (n := 5) [0, 0, 0, 1, 2] S4 (by omega) rfl (by decide) (by decide) rfl).mono ?_
  rintro e w5 ⟨t, rfl, ht, S5, O5⟩
  obtain ⟨T, rfl, hT⟩ : ∃ T : Nat, t = T ∧ T ≤ 2 := by
    simp only [List.mem_cons, List.not_mem_nil, or_false] at ht
    refine ⟨t.toNat, ?_, ?_⟩ <;> omega
  have K5 := Keep5.oth K4.out O5 (by have := H3.out; omega) hbs
  have hq5 : w5.heap[w.heap.size]? = some (.cells #[.int .i64 0, .int .i64 0, .int .i64 0, .int .i64 0, .int .i64 0] 36) := by rw [O5.block _ (by have := H3.out; omega) (by omega)]; exact hq4.out
  have hown5 := ownsRow_oth hown4 O5 (by omega)
  have H5 : b + 1 ≤ w5.heap.size := by have := O5.size; have := H3.out; omega
  have O5 : Oth s w w5 := Oth.trans (by assumption) O5
  have K5 : Hid _ := K5
  have hq5 : Hid _ := hq5
  have H5 : Hid _ := H5
  rename_i K5y hq5y H5y
  clear K2 K3 K4 hq4 H3 hown4 ht S4 K5y hq5y H5y O4
  go_wp2_with fail
  go_loopw [5, 16] (fun v i wr => ∃ (j n cap : Nat) (a : Option Addr) (zs : List Int) (K : Nat), v = .slice a n cap ∧ i = .int .i64 j ∧ j ≤ T ∧ n ≤ 3000 + j ∧ wr.ownsRow (b + 1) 29 9 (.slice a n cap) n (zcells zs) ∧ Strm r n0 s K wr ∧ K ≤ k + 20020 + 5 * j ∧ Oth s w wr ∧ Keep5 wr b m0 m1 m2 m3 m4 ∧ wr.heap[w.heap.size]? = some (.cells #[.int .i64 0, .int .i64 0, .int .i64 0, .int .i64 0, .int .i64 0] 36) ∧ b + 1 ≤ wr.heap.size)
    (fun _ i _ => T - (intOf i).toNat)
  case atStart => exact ⟨0, _, _, _, _, _, rfl, rfl, Nat.zero_le _, by omega, hown5, S5, by omega, O5, K5.out, hq5.out, H5.out⟩
  case round =>
    clear hown5 S5 O5 K5 hq5 H5
    obtain ⟨j, n, cap, a, zs, K, rfl, rfl, hj, hn, hown, SX, hK, OX, KX, hqX, HX⟩ := hrel
    have KX : Hid _ := KX
    have hqX : Hid _ := hqX
    have HX : Hid _ := HX
    rename_i y1 y2 y3
    clear y1 y2 y3
    by_cases hlt : j < T
    · have hltI : (j : Int) < (T : Int) := by omega
      go_wp2_with fail
      refine (spoiled_c SX (by omega) hown (by omega)).mono ?_
      rintro e w6 ⟨a6, n6, cap6, zs6, K6, rfl, hn6, hown6, S6, hK6, O6⟩
      have K6' := Keep5.oth KX.out O6 (by have := HX.out; omega) hbs
      have hq6 : w6.heap[w.heap.size]? = some (.cells #[.int .i64 0, .int .i64 0, .int .i64 0, .int .i64 0, .int .i64 0] 36) := by rw [O6.block _ (by have := HX.out; omega) (by omega)]; exact hqX.out
      have hown6' := ownsRow_base hown6 (base' := b + 1) (HX.out)
      have H6 : b + 1 ≤ w6.heap.size := by have := O6.size; have := HX.out; omega
      have F6 : Hid _ := (⟨K6', hq6, H6⟩ : _ ∧ _ ∧ _)
      clear K6' hq6 H6 hown6
      go_wp2_with fail
      go_roundw
      case rel => exact ⟨j + 1, n6, cap6, a6, zs6, K6, rfl, by go_num, by omega, by omega, hown6', S6, by omega, OX.trans O6, F6.out.1, F6.out.2.1, F6.out.2.2⟩
      case measure => simp [intOf]; omega
    · have hjm : j = T := by omega
      have hltI : ¬ (j : Int) < (T : Int) := by omega
      obtain ⟨c0, c1, c2, c3, c4⟩ := KX.out
      have q0 : wr.cell? ⟨w.heap.size, 0, none⟩ = some (.int .i64 0) := by rw [cell_of_row _ _ 0 _ 36 (0, 0) hqX.out]; rfl
      have q1 : wr.cell? ⟨w.heap.size, 1, none⟩ = some (.int .i64 0) := by rw [cell_of_row _ _ 1 _ 36 (0, 0) hqX.out]; rfl
      have q2 : wr.cell? ⟨w.heap.size, 2, none⟩ = some (.int .i64 0) := by rw [cell_of_row _ _ 2 _ 36 (0, 0) hqX.out]; rfl
      have q3 : wr.cell? ⟨w.heap.size, 3, none⟩ = some (.int .i64 0) := by rw [cell_of_row _ _ 3 _ 36 (0, 0) hqX.out]; rfl
      have q4 : wr.cell? ⟨w.heap.size, 4, none⟩ = some (.int .i64 0) := by rw [cell_of_row _ _ 4 _ 36 (0, 0) hqX.out]; rfl
      have f0 : ∀ o, wr.frozen? ⟨w.heap.size, o, none⟩ = false := fun o => by simp [World.frozen?, hqX.out]
      have hlt' : Hid (w.heap.size < b) := hz1
      have E : ∃ W, set5 wr w.heap.size m0 m1 m2 m3 m4 = W := ⟨_, rfl⟩
      obtain ⟨W, hW⟩ := E
      have OW := set5_oth wr w.heap.size m0 m1 m2 m3 m4
      rw [hW] at OW
      have FINAL : Hid (PostCoded r n0 s w 3010 (k + 20100) (.returned (.tuple #[.agg #[.int .i64 m0, .int .i64 m1, .int .i64 m2, .int .i64 m3, .int .i64 m4], .slice a n cap])) W) := by
        refine ⟨_, _, _, _, _, _, _, _, zs, K, rfl, by omega, ?_, SX.oth OW (by have := S.lo; omega) (by omega), by omega, ⟨OW.os.trans OX.os, OW.tape.trans OX.tape, OW.output.trans OX.output, Nat.le_trans OX.size OW.size, fun k h1 h2 => ?_⟩⟩
        · exact ownsRow_base (ownsRow_oth hown OW (by omega)) (by omega)
        · rw [OW.block k (by have := OX.size; omega) (by omega)]; exact OX.block k h1 h2
      have E5 : Hid (W.cell? ⟨w.heap.size, 0, none⟩ = some (.int .i64 m0) ∧ W.cell? ⟨w.heap.size, 1, none⟩ = some (.int .i64 m1) ∧ W.cell? ⟨w.heap.size, 2, none⟩ = some (.int .i64 m2) ∧ W.cell? ⟨w.heap.size, 3, none⟩ = some (.int .i64 m3) ∧ W.cell? ⟨w.heap.size, 4, none⟩ = some (.int .i64 m4)) := by
        rw [← hW]; exact set5_cells _ _ _ _ _ _ _ q0 q1 q2 q3 q4
      go_wp2_with fail
      have F1 : PostCoded r n0 s w 3010 (k + 20100) (.returned (.tuple #[.agg #[.int .i64 m0, .int .i64 m1, .int .i64 m2, .int .i64 m3, .int .i64 m4], .slice a n cap])) (set5 wr w.heap.size m0 m1 m2 m3 m4) := hW.symm ▸ FINAL.out
      refine bodyPost_ret (v := .tuple #[.agg #[.int .i64 m0, .int .i64 m1, .int .i64 m2, .int .i64 m3, .int .i64 m4], .slice a n cap]) ?_ rfl F1
      show (results Try.f22 _).run Try.prog (set5 wr w.heap.size m0 m1 m2 m3 m4) = Result.ok _ (set5 wr w.heap.size m0 m1 m2 m3 m4)
      rw [hW]
      obtain ⟨e0, e1, e2, e3, e4⟩ := E5.out
      simp [results, Try.results22, go_sem, e0, e1, e2, e3, e4]
end Go.Proofs.Yteabbkagekdehaa
end
