/- ChipCodes: whatever the list of numbers, the call returns true and turns nothing that was there. -/
import Derived.Test.YteabbkagekdehaaEn5
set_option linter.unusedVariables false
set_option linter.unusedSimpArgs false
set_option maxRecDepth 100000
namespace Go.Proofs.Yteabbkagekdehaa
open Go.AE Go.RowKit Go.IntWalk
set_option maxHeartbeats 4000000 in
theorem codes_main (r : Raw) {w : World} (hJ : r.J μ0 w) : Calls Try.prog 7 #[.slice r.a r.len r.cap] w fun e w' => e = .returned (.bool true) ∧ Go.RowKit.Below w.heap.size w w' := by
  have S0 := Strm.start r hJ 25
  obtain ⟨B, hB⟩ : ∃ B, w.heap.size = B := ⟨_, rfl⟩
  have B0 : Go.RowKit.Below B w (w.alloc (.cells #[.slice r.a r.len r.cap, .int .i64 0] 25)) := by rw [← hB]; exact below_alloc w _
  have hs0 : (w.alloc (.cells #[.slice r.a r.len r.cap, .int .i64 0] 25)).heap.size = B + 1 := by simp [hB]
  rw [hB] at S0 ⊢
  generalize hra : r.a = ra at *
  generalize hrl : r.len = rl at *
  generalize hrc : r.cap = rc at *
  clear hra hrl hrc hJ
  obtain ⟨wa, hwa⟩ : ∃ wa, w.alloc (.cells #[.slice ra rl rc, .int .i64 0] 25) = wa := ⟨_, rfl⟩
  rw [hwa] at S0 B0 hs0
  go_enter Try.func7, Try.ntmps7
  go_wp2_with fail
  refine (coded_c S0 (by omega)).mono ?_
  rintro e w1 ⟨m0, m1, m2, m3, m4, a, n, cap, zs, k1, rfl, hn, hown, S1, hk1, O1⟩
  have hr1 := RowZ.of hown
  have B1 : Go.RowKit.Below B w w1 := B0.trans (O1.below (Nat.le_refl _) (by omega))
  have hz1 : B + 1 ≤ w1.heap.size := by have := O1.size; omega
  obtain ⟨bm, hbm⟩ : ∃ bm, w1.heap.size = bm := ⟨_, rfl⟩
  replace B1 := hidI B1
  replace hr1 := hidI hr1
  clear S0 B0 hwa hs0 O1 hown
  obtain ⟨eM, E, h25, h26, h13, h15, hfin⟩ := checks_all m0 m1 m2 m3 m4 zs n (by omega)
  have g15 : Hid (∀ w a cap, RowZ w a n zs → Calls Try.prog 15 #[.agg #[.int .i64 m0, .int .i64 m1, .int .i64 m2, .int .i64 m3, .int .i64 m4], .slice a n cap] w fun en w' => en = .returned (.int .i64 E) ∧ Go.RowKit.Below w.heap.size w w') := h15
  replace h25 := hidI h25
  replace h13 := hidI h13
  replace hfin := hidI hfin
  clear h26 h15
  go_wp2_with fail
  have c2 := below_row (w := w1) #[zI m0, zI m1, zI m2, zI m3, zI m4] 36 hbm
  have S2 := S1.below (below_alloc w1 (.cells #[zI m0, zI m1, zI m2, zI m3, zI m4] 36))
  have hr2 := hr1.out.below (below_alloc w1 (.cells #[zI m0, zI m1, zI m2, zI m3, zI m4] 36))
  have B2 := B1.out.trans ((below_alloc w1 (.cells #[zI m0, zI m1, zI m2, zI m3, zI m4] 36)).mono (by omega))
  have hz2 : bm < (w1.alloc (.cells #[zI m0, zI m1, zI m2, zI m3, zI m4] 36)).heap.size := by simp only [World.alloc, Array.size_push]; omega
  obtain ⟨w2, hw2⟩ : ∃ w2, w1.alloc (.cells #[zI m0, zI m1, zI m2, zI m3, zI m4] 36) = w2 := ⟨_, rfl⟩
  rw [hw2] at c2 S2 hr2 B2 hz2
  rw [hw2]
  clear hw2 S1 hr1 B1
  have henc := encode_c (cap := cap) hr2 (by omega) h13.out
  unfold mV at henc
  refine henc.mono ?_
  rintro e w3 ⟨v, rfl, B3, P3⟩
  have c3 := rowis_below c2 B3 hz2
  have S3 := S2.below B3
  have hr3 := hr2.below B3
  have B03 := B2.trans (B3.mono (by omega))
  have hz3 : bm < w3.heap.size := by have := B3.size; omega
  have hz23 : w2.heap.size ≤ w3.heap.size := B3.size
  replace P3 := hidI P3
  replace B03 := hidI B03
  clear henc c2 S2 hr2 B2 B3
  go_wp2_with fail
  refine (g15.out _ _ _ hr3).mono ?_
  rintro e w4 ⟨rfl, B4⟩
  have c4 := rowis_below c3 B4 hz3
  have S4 := S3.below B4
  have hr4 := hr3.below B4
  have B04 := B03.out.trans (B4.mono (by omega))
  have hz4 : bm < w4.heap.size := by have := B4.size; omega
  by_cases hE : E = 0
  · subst hE
    obtain ⟨av, cv, rfl, hown3⟩ := P3.out.2 rfl
    obtain ⟨rfl, hMB, _⟩ := hfin.out rfl
    have hown4 := ownsRow_below hown3 B4
    obtain ⟨E, q13, q48⟩ := codes_all h25.out (fun zs' i => ⟨(hMB i).m0, (hMB i).m1, (hMB i).m2, (hMB i).m3, (hMB i).m4⟩)
    replace q13 := hidI q13
    replace q48 := hidI q48
    replace B04 := hidI B04
    clear c3 S3 hr3 B03 B4 P3 hown3 g15 hfin hMB h13
    go_wp2_with fail
    refine (chips_calls _).mono ?_
    rintro e w5 ⟨rfl, B5⟩
    have c5 := rowis_below c4 B5 hz4
    have S5 := S4.below B5
    have hr5 := hr4.below B5
    have hown5 := ownsRow_below hown4 B5
    have B05 := B04.out.trans (B5.mono (by omega))
    have hz5 : bm < w5.heap.size := by have := B5.size; omega
    replace B05 := hidI B05
    clear c4 S4 hr4 B04 hown4 B5
    go_wp2_with fail
    refine (encoded_c hr5 (by omega)).mono ?_
    rintro e w6 ⟨a6, cap6, rfl, hown6, B6⟩
    have c6 := rowis_below c5 B6 hz5
    have S6 := S5.below B6
    have hown5' := ownsRow_below hown5 B6
    have B06 := B05.out.trans (B6.mono (by omega))
    have hz6 : bm < w6.heap.size := by have := B6.size; omega
    replace B06 := hidI B06
    clear c5 S5 hr5 B05 hown5 B6
    go_wp2_with fail
    refine (equal3_c (RowI.of hown5') (RowI.of hown6) (by omega)).mono ?_
    rintro e w7 ⟨rfl, B7⟩
    have c7 := rowis_below c6 B7 hz6
    have S7 := S6.below B7
    have hown7 := ownsRow_below hown5' B7
    have B07 := B06.out.trans (B7.mono (by omega))
    have hz7 : bm < w7.heap.size := by have := B7.size; omega
    replace B07 := hidI B07
    clear c6 S6 B06 hown5' hown6 B7
    go_wp2_with fail
    refine (clone3_c hown7 (by omega)).mono ?_
    rintro e w8 ⟨aw, cw, rfl, hown8, B8⟩
    have c8 := rowis_below c7 B8 hz7
    have S8 := S7.below B8
    have B08 := B07.out.trans (B8.mono (by omega))
    have hz8 : bm < w8.heap.size := by have := B8.size; omega
    have hb8 : bm < w7.heap.size := hz7
    replace B08 := hidI B08
    obtain ⟨L, hL⟩ : ∃ L, n * 4 = L := ⟨_, rfl⟩
    have hL4 : L ≤ 12040 := by omega
    rw [hL] at hown8
    try rw [hL]
    clear c7 S7 B07 hown7 B8
    have hw8 : bm ≤ w8.heap.size := by omega
    have hX8 := RowI.of hown8
    have hcw := own_cap hown8
    obtain ⟨X, hX⟩ : ∃ X, wordsTo zs n = X := ⟨_, rfl⟩
    rw [hX] at hX8 hown8
    by_cases hL0 : 0 < L
    · have hLI : (0 : Int) < (L : Int) := by omega
      replace hX8 := hidI hX8
      replace hown8 := hidI hown8
      go_wp2_with fail
      refine (next_c S8 (by omega) (by decide) (by decide)).mono ?_
      rintro e w9 ⟨nv, rfl, hn0, hn5, S9, O9, -⟩
      have c9 := rowis_oth c8 O9 hz8 (by omega)
      have hown9 := ownsRow_oth hown8.out O9 (by omega)
      have B09 := B08.out.trans (O9.below (Nat.le_refl _) (by omega))
      have hz9 : bm < w9.heap.size := by have := O9.size; omega
      replace B09 := hidI B09
      clear c8 S8 B08 hX8 hown8 O9
      obtain ⟨gw, rfl⟩ : ∃ gw, aw = some ⟨gw, 0, none⟩ := by
        rcases hown9.2 with ⟨h, h0⟩ | ⟨g, cap, cur, h, _⟩
        · omega
        · simp only [Value.slice.injEq] at h; exact ⟨g, h.1⟩
      have hgw := hown9.lt gw rfl
      rcases (by omega : nv = 0 ∨ nv = 1 ∨ nv = 2 ∨ (nv = 3 ∨ nv = 4)) with rfl | rfl | rfl | hn34
      · go_wp2_with fail
        refine (range_c (lo := 1) (hi := 4) S9 (by omega) (by omega) (by omega) (by omega) (by omega)).mono ?_
        rintro e w10 ⟨tv, rfl, ht0, ht4, S10, O10, -⟩
        obtain ⟨T, rfl⟩ : ∃ T : Nat, tv = T := ⟨tv.toNat, by omega⟩
        have c10 := rowis_oth c9 O10 hz9 (by omega)
        have hown10 := ownsRow_oth hown9 O10 (by omega)
        have B10 := B09.out.trans (O10.below (Nat.le_refl _) (by omega))
        have hz10 : bm < w10.heap.size := by have := O10.size; omega
        have HW := (RowI.of hown10).take (m := L - T) (by omega)
        have hcw2 : L - T ≤ cw := by omega
        have hs1 : (0 : Int) ≤ (L : Int) - (T : Int) := by omega
        have hs2 : (L : Int) - (T : Int) ≤ (cw : Int) := by omega
        have hs3 : ((L : Int) - (T : Int)).toNat = L - T := by omega
        replace B10 := hidI B10
        clear c9 S9 B09 hown9 O10 hown10 S10
        have hdec := decode_c (cap := cw) HW (by omega) h25.out q13.out
        have hdcd := hidI (fun W' (hB : Below w10.heap.size w10 W') => decoded_c (w := W') (cap := cw) (HW.below hB) (by omega) (by omega) q48.out)
        unfold mV at hdec hdcd
        clear hLI HW
        go_wp2_with fail
        refine hdec.mono ?_
        rintro e wA ⟨v1, e1, rfl, BA, PA⟩
        have cA := rowis_below c10 BA hz10
        have BBA := B10.out.trans (BA.mono (by omega))
        have hzA : bm < wA.heap.size := by have := BA.size; omega
        replace PA := hidI PA
        replace BBA := hidI BBA
        have BA' := hidI BA
        clear hdec BA c10 B10
        go_wp2_with fail
        refine (hdcd.out wA BA'.out).mono ?_
        rintro e wB ⟨v2, e2, rfl, BB, PB⟩
        obtain ⟨rfl, a1, c1, a2, c2, mm, zz, rfl, rfl, r1, r2, hm⟩ := dec_join PA.out PB
        have r1' := r1.below BB
        have hm' : mm ≤ 1000000 := by omega
        have BBB := BBA.out.trans (BB.mono (by omega))
        have hzB : bm < wB.heap.size := by have := BB.size; omega
        replace r1' := hidI r1'
        replace r2 := hidI r2
        replace BBB := hidI BBB
        clear hdcd PA PB BB BA' r1 BBA cA
        go_wp2_with fail
        refine (equal9_c r1'.out r2.out hm').mono ?_
        rintro e wC ⟨rfl, BC⟩
        have BBC := hidI (BBB.out.trans (BC.mono (by omega)))
        clear BC BBB r1' r2
        go_wp2_with fail
        go_ret
        exact ⟨rfl, BBC.out⟩
      · have hLm : (L : Int) ≤ 4294967296 := by omega
        have hL1 : (1 : Int) ≤ (L : Int) := by omega
        have S9d : Strm r B B _ w9.drew := S9.below ⟨rfl, rfl, rfl, Nat.le_refl _, fun _ _ => rfl⟩
        have O9d : Oth B w9 w9.drew := ⟨rfl, rfl, rfl, Nat.le_refl _, fun _ _ _ => rfl⟩
        go_upto_region 16 with fail
        have O9a : ∀ o, Oth B w9 (w9.alloc o).drew := fun o => Oth.of_below (below_ad w9 o)
        have S9a : ∀ o, Strm r B B (k1 + 1) (w9.alloc o).drew := fun o => S9.below (below_ad w9 o)
        have lit9 : ∀ i, i < 10 → ((w9.alloc (.cells #[zI 1, zI (-1), zI 64, zI 4096, zI 131072, zI 4194304, zI 2097152, zI 32, zI 65536, zI 1099511627776] 3)).drew).cell? ⟨w9.heap.size, i, none⟩ = some (zI (([1, -1, 64, 4096, 131072, 4194304, 2097152, 32, 65536, 1099511627776] : List Int).getD i 0)) := lit_cells w9 [1, -1, 64, 4096, 131072, 4194304, 2097152, 32, 65536, 1099511627776] 3
        have hBw9 : B < w9.heap.size := by omega
        go_region_with (first
          | (go_at_call 23
             refine (next_c (r := r) (n0 := B) (k := k1 + 1) ?_ (by omega) hL1 hLm).mono ?_
             first | exact S9d | exact S9a _
             rintro e w10 ⟨iv, rfl, hi0, hi1, S10, O10, -⟩
             obtain ⟨I, rfl⟩ : ∃ I : Nat, iv = I := ⟨iv.toNat, by omega⟩
             have hI : I < L := by omega
             have O910 : Oth B w9 w10 := by first | exact Oth.trans O9d O10 | exact Oth.trans (O9a _) O10
             first
               | have lit10 : ∀ i, i < 10 → w10.cell? ⟨w9.heap.size, i, none⟩ = some (zI (([1, -1, 64, 4096, 131072, 4194304, 2097152, 32, 65536, 1099511627776] : List Int).getD i 0)) := fun i hi => by rw [O10.cell (by show w9.heap.size < (w9.alloc _).heap.size; simp only [World.alloc, Array.size_push]; omega) (by show w9.heap.size ≠ B; omega)]; exact lit9 i hi
               | skip
             have hown10 := ownsRow_oth hown9 O910 (by omega)
             have hg10 : gw < w10.heap.size := by have := O910.size; omega
             have hz910 : w9.heap.size ≤ w10.heap.size := O910.size
             obtain ⟨x, hx⟩ : ∃ x, X.getD I 0 = x := ⟨_, rfl⟩
             have hcx : w10.cell? ⟨gw, I, none⟩ = some (zI x) := by
               rcases (RowI.of hown10).2 with h0 | ⟨g', h1, _, h3⟩
               · omega
               · cases h1; rw [h3 I hI, hx]
             have hcxA : ∀ cs e, (w10.alloc (.cells cs e)).cell? ⟨gw, I, none⟩ = some (zI x) := fun cs e => by rw [(below_alloc w10 _).cell (by exact hg10)]; exact hcx
             clear O10 hx)
          | (go_at_call 9
             refine (pick_c (r := r) (n0 := B) (k := k1 + 1 + 1) [1, -1, 64, 4096, 131072, 4194304, 2097152, 32, 65536, 1099511627776] ?_ (by omega) (by decide) (by decide) (by omega) ?_).mono ?_
             first | exact S10 | exact S10.below (below_alloc w10 _)
             first | exact lit10 | exact lit_cells w10 [1, -1, 64, 4096, 131072, 4194304, 2097152, 32, 65536, 1099511627776] 3
             rintro e w11 ⟨pv, rfl, hpv, S11, O11, -⟩
             have O1011 : Oth B w10 w11 := by first | exact O11 | exact Oth.trans (Oth.of_below (below_alloc w10 _)) O11
             have hown11 := ownsRow_oth hown10 O1011 (by omega)
             have hcx11 : w11.cell? ⟨gw, I, none⟩ = some (zI x) := by
               rw [O1011.cell (by exact hg10) (by show gw ≠ B; omega)]; exact hcx
             have hfx : w11.frozen? ⟨gw, I, none⟩ = false := World.ownsRow.frozenAt hown11 _
             clear O11))
        all_goals (
          have O911 : Oth B w9 w11 := Oth.trans O910 O1011
          have c11 := rowis_oth c9 O911 hz9 (by omega)
          have B11 := B09.out.trans (O911.below (Nat.le_refl _) (by omega))
          have hz11 : bm < w11.heap.size := by have := O911.size; omega
          obtain ⟨pw, hpw⟩ : ∃ pw, IntKind.i64.wrap (x + pv) = pw := ⟨_, rfl⟩
          rw [hpw]
          replace B11 := hidI B11
          have hz811 : w7.heap.size ≤ w11.heap.size := by have := hown11.lt gw rfl; have := O911.size; have := hown9.lt gw rfl; omega
          clear hpw O910 O1011 O911 hpv S9 S9d O9d O9a S9a lit9 B09 c9 hcxA hcx S10 hown10 hown9
          have OW := oth_setCell w11 gw I (zI pw)
          have cW := rowis_oth c11 OW hz11 (by omega)
          have BW := B11.out.trans (OW.below (n0 := B) (by omega) (by omega))
          have zW : bm < (w11.setCell ⟨gw, I, none⟩ (zI pw)).heap.size := by rw [csize_set]; exact hz11
          have HW := (RowI.of hown11).set (v := pw) hI
          obtain ⟨wW, hwW⟩ : ∃ wW, w11.setCell ⟨gw, I, none⟩ (zI pw) = wW := ⟨_, rfl⟩
          rw [hwW] at cW BW zW HW
          replace BW := hidI BW
          try rw [hwW]
          clear c11 B11 hown11 hcx11 hfx S11 OW hwW
          have hdec := decode_c (cap := cw) HW (by omega) h25.out q13.out
          have hdcd := hidI (fun W' (hB : Below wW.heap.size wW W') => decoded_c (w := W') (cap := cw) (HW.below hB) (by omega) (by omega) q48.out)
          unfold mV at hdec hdcd
          clear hLI HW
          go_wp2_with fail
          refine hdec.mono ?_
          rintro e wA ⟨v1, e1, rfl, BA, PA⟩
          have cA := rowis_below cW BA zW
          have BBA := BW.out.trans (BA.mono (by omega))
          have hzA : bm < wA.heap.size := by have := BA.size; omega
          replace PA := hidI PA
          replace BBA := hidI BBA
          have BA' := hidI BA
          clear hdec BA cW BW
          go_wp2_with fail
          refine (hdcd.out wA BA'.out).mono ?_
          rintro e wB ⟨v2, e2, rfl, BB, PB⟩
          obtain ⟨rfl, a1, c1, a2, c2, mm, zz, rfl, rfl, r1, r2, hm⟩ := dec_join PA.out PB
          have r1' := r1.below BB
          have hm' : mm ≤ 1000000 := by omega
          have BBB := BBA.out.trans (BB.mono (by omega))
          have hzB : bm < wB.heap.size := by have := BB.size; omega
          replace r1' := hidI r1'
          replace r2 := hidI r2
          replace BBB := hidI BBB
          clear hdcd PA PB BB BA' r1 BBA cA
          go_wp2_with fail
          refine (equal9_c r1'.out r2.out hm').mono ?_
          rintro e wC ⟨rfl, BC⟩
          have BBC := hidI (BBB.out.trans (BC.mono (by omega)))
          clear BC BBB r1' r2
          go_wp2_with fail
          go_ret
          exact ⟨rfl, BBC.out⟩)

      · have hLm : (L : Int) ≤ 4294967296 := by omega
        have hL1 : (1 : Int) ≤ (L : Int) := by omega
        go_wp2_with fail
        refine (next_c S9 (by omega) hL1 hLm).mono ?_
        rintro e w10 ⟨iv, rfl, hi0, hi1, S10, O10, -⟩
        obtain ⟨I, rfl⟩ : ∃ I : Nat, iv = I := ⟨iv.toNat, by omega⟩
        have hI : I < L := by omega
        have c10 := rowis_oth c9 O10 hz9 (by omega)
        have hown10 := ownsRow_oth hown9 O10 (by omega)
        have B10 := B09.out.trans (O10.below (Nat.le_refl _) (by omega))
        have hz10 : bm < w10.heap.size := by have := O10.size; omega
        have hz810 : w7.heap.size ≤ w10.heap.size := by have := O10.size; have := hown10.lt gw rfl; omega
        replace B10 := hidI B10
        clear c9 S9 B09 hown9 O10
        go_wp2_with fail
        refine (pick_n (n := 5) [0, -1, 2147483648, -2147483648, 4611686018427387904] S10 (by omega) rfl (by decide) (by decide) rfl).mono ?_
        rintro e w11 ⟨pv, rfl, hpv, S11, O11⟩
        have c11 := rowis_oth c10 O11 hz10 (by omega)
        have hown11 := ownsRow_oth hown10 O11 (by omega)
        have B11 := B10.out.trans (O11.below (Nat.le_refl _) (by omega))
        have hz11 : bm < w11.heap.size := by have := O11.size; omega
        have hcx : w11.cell? ⟨gw, I, none⟩ = some (zI (X.getD I 0)) := by
          rcases (RowI.of hown11).2 with h0 | ⟨g', h1, _, h3⟩
          · omega
          · cases h1; exact h3 I hI
        obtain ⟨x, hx⟩ : ∃ x, X.getD I 0 = x := ⟨_, rfl⟩
        rw [hx] at hcx
        have hfx : w11.frozen? ⟨gw, I, none⟩ = false := hown11.frozenAt _
        replace B11 := hidI B11
        clear c10 S10 B10 hown10 O11 hpv hx
        go_upto_region 19 with fail
        have OW := oth_setCell w11 gw I (zI pv)
        have cW := rowis_oth c11 OW hz11 (by omega)
        have BW := B11.out.trans (OW.below (n0 := B) (by omega) (by omega))
        have zW : bm < (w11.setCell ⟨gw, I, none⟩ (zI pv)).heap.size := by rw [csize_set]; exact hz11
        have HW := (RowI.of hown11).set (v := pv) hI
        obtain ⟨wW, hwW⟩ : ∃ wW, w11.setCell ⟨gw, I, none⟩ (zI pv) = wW := ⟨_, rfl⟩
        rw [hwW] at cW BW zW HW
        replace BW := hidI BW
        try rw [hwW]
        clear c11 B11 hown11 hcx hfx S11 OW hwW
        have hdec := decode_c (cap := cw) HW (by omega) h25.out q13.out
        have hdcd := hidI (fun W' (hB : Below wW.heap.size wW W') => decoded_c (w := W') (cap := cw) (HW.below hB) (by omega) (by omega) q48.out)
        unfold mV at hdec hdcd
        clear hLI HW
        go_wp2_with fail
        refine hdec.mono ?_
        rintro e wA ⟨v1, e1, rfl, BA, PA⟩
        have cA := rowis_below cW BA zW
        have BBA := BW.out.trans (BA.mono (by omega))
        have hzA : bm < wA.heap.size := by have := BA.size; omega
        replace PA := hidI PA
        replace BBA := hidI BBA
        have BA' := hidI BA
        clear hdec BA cW BW
        go_wp2_with fail
        refine (hdcd.out wA BA'.out).mono ?_
        rintro e wB ⟨v2, e2, rfl, BB, PB⟩
        obtain ⟨rfl, a1, c1, a2, c2, mm, zz, rfl, rfl, r1, r2, hm⟩ := dec_join PA.out PB
        have r1' := r1.below BB
        have hm' : mm ≤ 1000000 := by omega
        have BBB := BBA.out.trans (BB.mono (by omega))
        have hzB : bm < wB.heap.size := by have := BB.size; omega
        replace r1' := hidI r1'
        replace r2 := hidI r2
        replace BBB := hidI BBB
        clear hdcd PA PB BB BA' r1 BBA cA
        go_wp2_with fail
        refine (equal9_c r1'.out r2.out hm').mono ?_
        rintro e wC ⟨rfl, BC⟩
        have BBC := hidI (BBB.out.trans (BC.mono (by omega)))
        clear BC BBB r1' r2
        go_wp2_with fail
        go_ret
        exact ⟨rfl, BBC.out⟩
      · have hX9 := RowI.of hown9
        have hn0' : (nv == 0) = false := by simp; omega
        have hn1' : (nv == 1) = false := by simp; omega
        have hn2' : (nv == 2) = false := by simp; omega
        have hna : ¬ nv = 0 := by omega
        have hnb : ¬ nv = 1 := by omega
        have hnc : ¬ nv = 2 := by omega
        clear hn34 hn0 hn5 hown9
        have hdec := decode_c (cap := cw) hX9 (by omega) h25.out q13.out
        have hdcd := hidI (fun W' (hB : Below w9.heap.size w9 W') => decoded_c (w := W') (cap := cw) (hX9.below hB) (by omega) (by omega) q48.out)
        unfold mV at hdec hdcd
        clear S9 hX9
        go_wp2_with fail
        refine hdec.mono ?_
        rintro e wA ⟨v1, e1, rfl, BA, PA⟩
        have cA := rowis_below c9 BA hz9
        have BBA := B09.out.trans (BA.mono (by omega))
        have hzA : bm < wA.heap.size := by have := BA.size; omega
        replace PA := hidI PA
        replace BBA := hidI BBA
        have BA' := hidI BA
        clear hdec BA c9 B09
        go_wp2_with fail
        refine (hdcd.out wA BA'.out).mono ?_
        rintro e wB ⟨v2, e2, rfl, BB, PB⟩
        obtain ⟨rfl, a1, c1, a2, c2, mm, zz, rfl, rfl, r1, r2, hm⟩ := dec_join PA.out PB
        have r1' := r1.below BB
        have hm' : mm ≤ 1000000 := by omega
        have BBB := BBA.out.trans (BB.mono (by omega))
        have hzB : bm < wB.heap.size := by have := BB.size; omega
        replace r1' := hidI r1'
        replace r2 := hidI r2
        replace BBB := hidI BBB
        clear hdcd PA PB BB BA' r1 BBA cA
        go_wp2_with fail
        refine (equal9_c r1'.out r2.out hm').mono ?_
        rintro e wC ⟨rfl, BC⟩
        have BBC := hidI (BBB.out.trans (BC.mono (by omega)))
        clear BC BBB r1' r2
        go_wp2_with fail
        go_ret
        exact ⟨rfl, BBC.out⟩
    · have hLI : ¬ (0 : Int) < (L : Int) := by omega
      have hdec := decode_c (cap := cw) hX8 (by omega) h25.out q13.out
      have hdcd := hidI (fun W' (hB : Below w8.heap.size w8 W') => decoded_c (w := W') (cap := cw) (hX8.below hB) (by omega) (by omega) q48.out)
      unfold mV at hdec hdcd
      clear S8 hown8 hX8
      go_wp2_with fail
      refine hdec.mono ?_
      rintro e wA ⟨v1, e1, rfl, BA, PA⟩
      have cA := rowis_below c8 BA hz8
      have BBA := B08.out.trans (BA.mono (by omega))
      have hzA : bm < wA.heap.size := by have := BA.size; omega
      replace PA := hidI PA
      replace BBA := hidI BBA
      have BA' := hidI BA
      clear hdec BA c8 B08
      go_wp2_with fail
      refine (hdcd.out wA BA'.out).mono ?_
      rintro e wB ⟨v2, e2, rfl, BB, PB⟩
      obtain ⟨rfl, a1, c1, a2, c2, mm, zz, rfl, rfl, r1, r2, hm⟩ := dec_join PA.out PB
      have r1' := r1.below BB
      have hm' : mm ≤ 1000000 := by omega
      have BBB := BBA.out.trans (BB.mono (by omega))
      have hzB : bm < wB.heap.size := by have := BB.size; omega
      replace r1' := hidI r1'
      replace r2 := hidI r2
      replace BBB := hidI BBB
      clear hdcd PA PB BB BA' r1 BBA cA
      go_wp2_with fail
      refine (equal9_c r1'.out r2.out hm').mono ?_
      rintro e wC ⟨rfl, BC⟩
      have BBC := hidI (BBB.out.trans (BC.mono (by omega)))
      clear BC BBB r1' r2
      go_wp2_with fail
      go_ret
      exact ⟨rfl, BBC.out⟩
  · have hEb : (E == 0) = false := by simp [hE]
    obtain rfl := P3.out.1 hE
    replace B04 := hidI B04
    clear c3 c4 S3 S4 hr3 hr4 B03 B4 P3
    go_wp2_with fail
    refine (chips_calls _).mono ?_
    rintro e w5 ⟨rfl, B5⟩
    have B05 := hidI (B04.out.trans (B5.mono (by omega)))
    clear B5 B04
    go_wp2_with fail
    go_ret
    exact ⟨rfl, B05.out⟩
end Go.Proofs.Yteabbkagekdehaa

