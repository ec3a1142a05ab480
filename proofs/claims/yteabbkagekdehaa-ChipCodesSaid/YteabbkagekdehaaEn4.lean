/- The document's Decoded. -/
import Derived.Test.YteabbkagekdehaaEn3
import Derived.Deep.RegionWith
set_option linter.unusedVariables false
set_option linter.unusedSimpArgs false
set_option maxRecDepth 100000
namespace Go.Proofs.Yteabbkagekdehaa
open Go.AE Go.RowKit Go.IntWalk
theorem band (x : Int) (i : Nat) (m : Int) (hm : m = ((2 ^ i - 1 : Nat) : Int)) (hi : i ≤ 32) : bits .and .i64 x m = x % ((2 ^ i : Nat) : Int) := by
  subst hm
  unfold bits
  simp only [BitVec.toNat_and, BitVec.toNat_ofInt]
  have h64 : (2 : Nat) ^ IntKind.i64.bits = 2 ^ 64 := rfl
  rw [h64]
  have hp : 2 ^ i ≤ 2 ^ 32 := Nat.pow_le_pow_right (by decide) hi
  have hpos : 0 < 2 ^ i := Nat.two_pow_pos i
  have e1 : (((2 ^ i - 1 : Nat) : Int) % ((2 ^ 64 : Nat) : Int)).toNat = 2 ^ i - 1 := by
    rw [← Int.natCast_emod, Int.toNat_natCast, Nat.mod_eq_of_lt (by omega)]
  rw [e1, Nat.and_two_pow_sub_one_eq_mod]
  have e2 : (((x % ((2 ^ 64 : Nat) : Int)).toNat % 2 ^ i : Nat) : Int) = x % ((2 ^ i : Nat) : Int) := by
    rw [Int.natCast_emod, Int.toNat_of_nonneg (Int.emod_nonneg _ (by decide))]
    exact Int.emod_emod_of_dvd _ (Int.natCast_dvd_natCast.2 (Nat.pow_dvd_pow 2 (by omega)))
  rw [e2]
  have l0 : 0 ≤ x % ((2 ^ i : Nat) : Int) := Int.emod_nonneg _ (by omega)
  have l1 : x % ((2 ^ i : Nat) : Int) < ((2 ^ i : Nat) : Int) := Int.emod_lt_of_pos _ (by omega)
  generalize x % ((2 ^ i : Nat) : Int) = y at *
  exact i64_in y (by omega)
theorem band63 (x : Int) : bits .and .i64 x 63 = x % 64 := band x 6 63 rfl (by decide)
theorem band31 (x : Int) : bits .and .i64 x 31 = x % 32 := band x 5 31 rfl (by decide)
theorem band2047 (x : Int) : bits .and .i64 x 2047 = x % 2048 := band x 11 2047 rfl (by decide)
theorem w64_in (n : Int) (h : -9223372036854775808 ≤ n ∧ n ≤ 9223372036854775807) : wrap64 n = n := by rw [← i64_left]; exact i64_in n h
theorem wA_in {a b c d : Int} (ha : 0 ≤ a ∧ a ≤ 63) (hb : 0 ≤ b ∧ b ≤ 63) (hc : 0 ≤ c ∧ c ≤ 31) (hd : 0 ≤ d ∧ d ≤ 31) : wA a b c d = a + 64 * b + 4096 * c + 131072 * d := by
  unfold wA
  rw [w64_in (64 * b) (by omega), w64_in (4096 * c) (by omega), w64_in (131072 * d) (by omega), w64_in (a + 64 * b) (by omega), w64_in (a + 64 * b + 4096 * c) (by omega), w64_in _ (by omega)]
theorem wB_in {a b c : Int} (ha : 0 ≤ a ∧ a ≤ 31) (hb : -1024 ≤ b ∧ b ≤ 1023) (hc : 0 ≤ c ∧ c ≤ 31) : wB a b c = a + 32 * (b + 1024) + 65536 * c := by
  unfold wB
  rw [w64_in (b + 1024) (by omega), w64_in (32 * (b + 1024)) (by omega), w64_in (65536 * c) (by omega), w64_in (a + 32 * (b + 1024)) (by omega), w64_in _ (by omega)]
theorem words_eq {p q r s : Int} : wordsTo (grpRow p q r s) 1 = [p, q, r, s] ↔ (0 ≤ p ∧ p ≤ 4194303) ∧ (0 ≤ q ∧ q ≤ 2097151) := by
  have h : wordsTo (grpRow p q r s) 1 = [wA (p % 64) (p / 64 % 64) (p / 4096 % 32) (p / 131072 % 32), wB (q % 32) (q / 32 % 2048 - 1024) (q / 65536 % 32), r, s] := rfl
  rw [h, wA_in (by omega) (by omega) (by omega) (by omega), wB_in (by omega) (by omega) (by omega), ]
  simp only [List.cons.injEq, and_true, back_p, back_q]
theorem slice_run {g j k cap : Nat} (hjk : j < k) (hcap : 4 * k ≤ cap) (w : World) :
    (Instr.slice 22 (.slice (some ⟨g, 0, none⟩) (4 * k) cap) (some (.int .i64 (4 * (j : Int)))) (some (.int .i64 (4 * (j : Int) + 4))) none).run Try.prog w = .ok (.slice (some ⟨g, 4 * j, none⟩) 4 (cap - 4 * j)) w := by
  have e1 : (4 * (j : Int)).toNat = 4 * j := by omega
  have e2 : (4 * (j : Int) + 4).toNat = 4 * j + 4 := by omega
  have e3 : 4 * j + 4 - 4 * j = 4 := by omega
  have e4 : ¬ cap = 4 * j := by omega
  have h := run_slice_lh (P := Try.prog) w 22 (some ⟨g, 0, none⟩) (4 * k) cap rfl .i64 .i64 (4 * (j : Int)) (4 * (j : Int) + 4) (by omega) (by omega) (by omega)
  rw [h]
  simp [go_sem, sliced, e1, e2, e3, e4, addr_add]
set_option maxHeartbeats 4000000 in
theorem decoded_c {w : World} {a : Option Addr} {n cap : Nat} {xs : List Int} (hr : RowI w a n xs) (hn : n ≤ 100000) (hcap : n ≤ cap) {m0 m1 m2 m3 m4 : Int} {E : List Int → Nat → Int}
    (h48 : ∀ w a n cap zs, n ≤ 100000 → RowZ w a n zs → Calls Try.prog 48 #[mV m0 m1 m2 m3 m4, .slice a n cap] w fun en w' => en = .returned (zI (E zs n)) ∧ Below w.heap.size w w') :
    Calls Try.prog 36 #[mV m0 m1 m2 m3 m4, .slice a n cap] w fun en w' => ∃ v e, en = .returned (.tuple #[v, zI e]) ∧ Below w.heap.size w w' ∧ DecPost w.heap.size xs n E v e w' := by
  unfold mV at *
  obtain ⟨bm, hbm⟩ : ∃ bm, w.heap.size = bm := ⟨_, rfl⟩
  have H48 : Hid _ := h48
  clear h48
  have c1 := below_row (w := w) #[zI m0, zI m1, zI m2, zI m3, zI m4] 36 hbm
  have B01 := below_alloc w (.cells #[zI m0, zI m1, zI m2, zI m3, zI m4] 36)
  have hz1 : bm < (w.alloc (.cells #[zI m0, zI m1, zI m2, zI m3, zI m4] 36)).heap.size := by simp only [World.alloc, Array.size_push]; omega
  by_cases h4 : n % 4 = 0
  · obtain ⟨k, rfl⟩ : ∃ k, n = 4 * k := ⟨n / 4, by omega⟩
    have hdk : 4 * k / 4 = k := by omega
    have h4I : ((4 * k : Nat) : Int) % 4 = 0 := by omega
    replace B01 := hidI B01
    go_enter Try.func36, Try.ntmps36
    go_wp2_with fail
    obtain ⟨w1, hw1⟩ : ∃ w1, w.alloc (.cells #[zI m0, zI m1, zI m2, zI m3, zI m4] 36) = w1 := ⟨_, rfl⟩
    rw [hw1] at c1 B01 hz1
    try rw [hw1]
    rw [hbm] at B01
    clear hw1
    go_loopw [6, 7] (fun v7 v8 wr => ∃ (j : Nat) (zs : List Int), v8 = zI ((4 * j : Nat) : Int) ∧ j ≤ k ∧ decTo xs j = some zs ∧ wr.ownsRow (bm + 1) 29 9 v7 j (zcells zs) ∧ Below bm w wr ∧ bm < wr.heap.size ∧ (∀ t, wr.cell? ⟨bm, t, none⟩ = #[zI m0, zI m1, zI m2, zI m3, zI m4][t]?))
      (fun _ v8 _ => 4 * k - (intOf v8).toNat)
    case atStart => exact ⟨0, [], rfl, Nat.zero_le _, rfl, World.ownsRow_nil _ _ _ _, B01.out, hz1, c1⟩
    case round =>
      clear c1 hz1 B01
      obtain ⟨j, zs, rfl, hj, hdec, hown, B, hsz, hcm⟩ := hrel
      obtain ⟨av, cv, rfl⟩ := ownsRow_shape hown
      by_cases hlt : j < k
      · have hltI : ((4 * j : Nat) : Int) < ((4 * k : Nat) : Int) := by omega
        have hltI' : 4 * (j : Int) < 4 * (k : Int) := by omega
        rcases (hr.below (by rw [hbm]; exact B)).2 with h0 | ⟨g, rfl, hg, hcell⟩
        · omega
        obtain ⟨p, hp⟩ : ∃ p, xs.getD (4 * j) 0 = p := ⟨_, rfl⟩
        obtain ⟨q, hq⟩ : ∃ q, xs.getD (4 * j + 1) 0 = q := ⟨_, rfl⟩
        obtain ⟨r, hrr⟩ : ∃ r, xs.getD (4 * j + 2) 0 = r := ⟨_, rfl⟩
        obtain ⟨s, hs⟩ : ∃ s, xs.getD (4 * j + 3) 0 = s := ⟨_, rfl⟩
        have xp : wr.cell? ⟨g, 4 * j, none⟩ = some (zI p) := by rw [hcell _ (by omega), hp]
        have xq : wr.cell? ⟨g, 4 * j + 1, none⟩ = some (zI q) := by rw [hcell _ (by omega), hq]
        have xr : wr.cell? ⟨g, 4 * j + 2, none⟩ = some (zI r) := by rw [hcell _ (by omega), hrr]
        have xs' : wr.cell? ⟨g, 4 * j + 3, none⟩ = some (zI s) := by rw [hcell _ (by omega), hs]
        have GR : Hid (grp xs j = if GrpOK p q r s then some (grpRow p q r s) else none) := by
          show _ = _
          unfold grp
          rw [hp, hq, hrr, hs]
        replace hown := hidI hown
        replace B := hidI B
        clear hcell hp hq hrr hs
        go_wp2_with fail
        go_quiet (fail)
        have D0 : Below wr.heap.size wr (wr.drewN nq) := below_dq (Below.refl _ _) nq
        obtain ⟨w2, hw2⟩ : ∃ w2, wr.drewN nq = w2 := ⟨_, rfl⟩
        rw [hw2] at D0
        rw [hw2]
        have xrA : ∀ cs e, (w2.alloc (.cells cs e)).drew.cell? ⟨g, 4 * j + 2, none⟩ = some (zI r) := fun cs e => by
          rw [(below_ad w2 (.cells cs e)).cell (by have := D0.size; show g < _; omega), D0.cell (by exact hg)]; exact xr
        have xsA : ∀ cs e, (w2.alloc (.cells cs e)).drew.cell? ⟨g, 4 * j + 3, none⟩ = some (zI s) := fun cs e => by
          rw [(below_ad w2 (.cells cs e)).cell (by have := D0.size; show g < _; omega), D0.cell (by exact hg)]; exact xs'
        have xrB : w2.cell? ⟨g, 4 * j + 2, none⟩ = some (zI r) := by rw [D0.cell (by exact hg)]; exact xr
        have xsB : w2.cell? ⟨g, 4 * j + 3, none⟩ = some (zI s) := by rw [D0.cell (by exact hg)]; exact xs'
        replace D0 := hidI D0
        have xp2 := xp
        have xq2 := xq
        replace xp2 := hidI xp2
        replace xq2 := hidI xq2
        clear hw2 xp xq
        go_wp2_with fail
        go_region
        rw [w64_in (bits .and .i64 (q / 32) 2047 - 1024) (by rw [band2047]; omega)]
        simp only [band63, band31, band2047]
        have WE := words_eq (p := p) (q := q) (r := r) (s := s)
        obtain ⟨y0, h0⟩ : ∃ y : Int, p % 64 = y := ⟨_, rfl⟩
        obtain ⟨y1, h1⟩ : ∃ y : Int, p / 64 % 64 = y := ⟨_, rfl⟩
        obtain ⟨y2, h2⟩ : ∃ y : Int, p / 4096 % 32 = y := ⟨_, rfl⟩
        obtain ⟨y3, h3⟩ : ∃ y : Int, p / 131072 % 32 = y := ⟨_, rfl⟩
        obtain ⟨y4, h4⟩ : ∃ y : Int, q % 32 = y := ⟨_, rfl⟩
        obtain ⟨y5, h5⟩ : ∃ y : Int, q / 32 % 2048 - 1024 = y := ⟨_, rfl⟩
        obtain ⟨y6, h6⟩ : ∃ y : Int, q / 65536 % 32 = y := ⟨_, rfl⟩
        have GR2 : grpRow p q r s = [y0, y1, y2, y3, y4, y5, y6, r, s] := by
          unfold grpRow
          rw [h0, h1, h2, h3, h4, h5, h6]
        have GD : GrpOK p q r s ↔ (0 ≤ p ∧ p ≤ 4194303) ∧ (0 ≤ q ∧ q ≤ 2097151) ∧ (-1000 ≤ y5 ∧ y5 ≤ 1000) ∧ (-2147483648 ≤ r ∧ r ≤ 2147483647) ∧ (-2147483648 ≤ s ∧ s ≤ 2147483647) := by
          unfold GrpOK
          rw [h5]
          exact ⟨fun h => ⟨⟨h.1, h.2.1⟩, ⟨h.2.2.1, h.2.2.2.1⟩, h.2.2.2.2.2.2, h.2.2.2.2.1, h.2.2.2.2.2.1⟩, fun h => ⟨h.1.1, h.1.2, h.2.1.1, h.2.1.2, h.2.2.2.1, h.2.2.2.2, h.2.2.1⟩⟩
        rw [GR2] at WE
        rw [h0, h1, h2, h3, h4, h5, h6]
        obtain ⟨Y, hY⟩ : ∃ Y, w2.heap.size = Y := ⟨_, rfl⟩
        have r6 : ∀ t, (w2.alloc (.cells #[zI y0, zI y1, zI y2, zI y3, zI y4, zI y5, zI y6, zI r, zI s] 29)).drew.cell? ⟨Y, t, none⟩ = #[zI y0, zI y1, zI y2, zI y3, zI y4, zI y5, zI y6, zI r, zI s][t]? := below_row (w := w2) #[zI y0, zI y1, zI y2, zI y3, zI y4, zI y5, zI y6, zI r, zI s] 29 hY
        have D6 : Below wr.heap.size wr (w2.alloc (.cells #[zI y0, zI y1, zI y2, zI y3, zI y4, zI y5, zI y6, zI r, zI s] 29)).drew := D0.out.trans ((below_ad w2 (.cells #[zI y0, zI y1, zI y2, zI y3, zI y4, zI y5, zI y6, zI r, zI s] 29)).mono D0.out.size)
        have hz6 : (w2.alloc (.cells #[zI y0, zI y1, zI y2, zI y3, zI y4, zI y5, zI y6, zI r, zI s] 29)).drew.heap.size = Y + 1 := by
          show (w2.alloc (.cells #[zI y0, zI y1, zI y2, zI y3, zI y4, zI y5, zI y6, zI r, zI s] 29)).heap.size = Y + 1
          simp only [World.alloc, Array.size_push]; omega
        obtain ⟨w6, hw6⟩ : ∃ w6, (w2.alloc (.cells #[zI y0, zI y1, zI y2, zI y3, zI y4, zI y5, zI y6, zI r, zI s] 29)).drew = w6 := ⟨_, rfl⟩
        rw [hw6] at r6 D6 hz6
        rw [hw6]
        try rw [hY]
        have hgY : g < Y := by have := D0.out.size; omega
        have hL6 : Hid (∀ w', Below w6.heap.size w6 w' → g < w'.heap.size ∧ ∀ t, t < 4 → w'.cell? ⟨g, 4 * j + t, none⟩ = some (zI ([p, q, r, s].getD t 0))) := fun w' H => by
          refine ⟨by have := H.size; omega, fun t ht => ?_⟩
          rw [H.cell (by show g < _; omega), D6.cell (by exact hg)]
          rcases (by omega : t = 0 ∨ t = 1 ∨ t = 2 ∨ t = 3) with rfl | rfl | rfl | rfl
          · exact xp2.out
          · exact xq2.out
          · exact xr
          · exact xs'
        have hown6 := ownsRow_below hown.out D6
        have B6 := B.out.trans (D6.mono (by omega))
        have m6 := rowis_below hcm D6 hsz
        have hbY : bm < Y := by have := D0.out.size; omega
        have RR : Hid (∀ w', Below w6.heap.size w6 w' → ∀ t, w'.cell? ⟨Y, t, none⟩ = #[zI y0, zI y1, zI y2, zI y3, zI y4, zI y5, zI y6, zI r, zI s][t]?) := fun w' H => rowis_below r6 H (by omega)
        have C9 : RowZ (w6.alloc (.cells #[zI y0, zI y1, zI y2, zI y3, zI y4, zI y5, zI y6, zI r, zI s] 29)).drew (some ⟨Y + 1, 0, none⟩) 1 [y0, y1, y2, y3, y4, y5, y6, r, s] := .inr ⟨_, rfl, by show Y + 1 < (w6.alloc (.cells #[zI y0, zI y1, zI y2, zI y3, zI y4, zI y5, zI y6, zI r, zI s] 29)).heap.size; simp only [World.alloc, Array.size_push]; omega, fun j hj => by
          show (w6.alloc (.cells #[zI y0, zI y1, zI y2, zI y3, zI y4, zI y5, zI y6, zI r, zI s] 29)).cell? ⟨Y + 1, j, none⟩ = _
          rw [below_row (w := w6) #[zI y0, zI y1, zI y2, zI y3, zI y4, zI y5, zI y6, zI r, zI s] 29 hz6]
          rcases (by omega : j = 0 ∨ j = 1 ∨ j = 2 ∨ j = 3 ∨ j = 4 ∨ j = 5 ∨ j = 6 ∨ j = 7 ∨ j = 8) with rfl | rfl | rfl | rfl | rfl | rfl | rfl | rfl | rfl <;> rfl⟩
        have K0 : Below w6.heap.size w6 w6.drew := ⟨rfl, rfl, rfl, Nat.le_refl _, fun _ _ => rfl⟩
        have K1 : Below w6.heap.size w6 (w6.alloc (.cells #[zI y0, zI y1, zI y2, zI y3, zI y4, zI y5, zI y6, zI r, zI s] 29)).drew := below_ad w6 _
        replace C9 := hidI C9
        replace K0 := hidI K0
        replace K1 := hidI K1
        replace hown6 := hidI hown6
        replace B6 := hidI B6
        replace m6 := hidI m6
        replace r6 := hidI r6
        replace WE := hidI WE
        replace GD := hidI GD
        have hcap4 : 4 * j + 4 ≤ cap := by omega
        have hsl := slice_run (g := g) hlt hcap
        have hw44 : IntKind.i64.wrap (4 * (j : Int) + 4) = 4 * (j : Int) + 4 := i64_in _ (by omega)
        have hw45 : (0 : Int) ≤ 4 * (j : Int) := by omega
        have hw46 : 4 * (j : Int) + 4 ≤ (cap : Int) := by omega
        have hw47 : 4 * (j : Int) ≤ 4 * (j : Int) + 4 := by omega
        clear hw6 D6 D0 xrA xsA xrB xsB xr xs' hY h0 h1 h2 h3 h4 h5 h6 hown B hcm hsz
        go_upto_region 9 with fail
        by_cases hA : (0 ≤ p ∧ p ≤ 4194303) ∧ (0 ≤ q ∧ q ≤ 2097151)
        · have hq1 : decide (wordsTo [y0, y1, y2, y3, y4, y5, y6, r, s] 1 = [p, q, r, s]) = true := by rw [decide_eq_true_iff]; exact WE.out.2 hA
          by_cases hC : -1000 ≤ y5 ∧ y5 ≤ 1000
          · have hq2 : decide (-1000 ≤ y5 ∧ y5 ≤ 1000) = true := by simp [hC]
            by_cases hR : -2147483648 ≤ r ∧ r ≤ 2147483647
            · have hq3 : decide (-2147483648 ≤ r ∧ r ≤ 2147483647) = true := by simp [hR]
              by_cases hS : -2147483648 ≤ s ∧ s ≤ 2147483647
              · have hq4 : decide (-2147483648 ≤ s ∧ s ≤ 2147483647) = true := by simp [hS]
                have c0 := RR.out _ K0.out
                first | (go_region_with (first
                    | (go_at_call 32
                       refine (encoded_c (cap := 1) C9.out (by omega)).mono ?_
                       rintro e w7 ⟨a7, cap7, rfl, hown7, B7⟩
                       have K1' : Below w6.heap.size w6 _ := K1.out
                       have K2 : Below w6.heap.size w6 w7 := K1'.trans (B7.mono K1'.size)
                       have c2 := RR.out _ K2)
                    | (go_at_call 31
                       have L7 := hL6.out _ K2
                       refine (equal3o_c (o := 4 * j) (n := 4) (ys := [p, q, r, s]) (RowI.of hown7) L7 rfl (by omega) hq1).mono ?_
                       rintro e w8 ⟨rfl, B8⟩
                       have K3 : Below w6.heap.size w6 w8 := K2.trans (B8.mono K2.size)
                       have c3 := RR.out _ K3)
                    | (go_at_call 61
                       refine (within61_c hq2).mono ?_
                       rintro e w9 ⟨rfl, B9⟩
                       have K4 : Below w6.heap.size w6 w9 := K3.trans (B9.mono K3.size)
                       have c4 := RR.out _ K4)
                    | (go_at_call 67
                       refine (word67_c hq3).mono ?_
                       rintro e w10 ⟨rfl, B10⟩
                       have K5 : Below w6.heap.size w6 w10 := K4.trans (B10.mono K4.size)
                       have c5 := RR.out _ K5)
                    | (go_at_call 67
                       refine (word67_c hq4).mono ?_
                       rintro e w11 ⟨rfl, B11⟩
                       have K6 : Below w6.heap.size w6 w11 := K5.trans (B11.mono K5.size)
                       have c6 := RR.out _ K6))) | fail
                have hz7 : Y + 1 ≤ w11.heap.size := by have := K6.size; omega
                have r7 := rowis_below r6.out K6 (by omega)
                have m7 := rowis_below m6.out K6 (by omega)
                have hown7b := ownsRow_below hown6.out K6
                have B7b := B6.out.trans (K6.mono (by omega))
                have ND : Hid (decTo xs (j + 1) = some (zs ++ [y0, y1, y2, y3, y4, y5, y6, r, s])) := by
                  show _ = _
                  refine decTo_step hdec ?_
                  rw [GR.out, if_pos (GD.out.2 ⟨hA.1, hA.2, hC, hR, hS⟩), GR2]
                replace hown7b := hidI hown7b
                replace B7b := hidI B7b
                replace m7 := hidI m7
                obtain ⟨Z, hZ⟩ : ∃ Z, w11.heap.size = Z := ⟨_, rfl⟩
                clear K0 K1 c0 c2 c3 c4 c5 hown6 B6 m6 r6 WE GD GR RR C9 hL6 hq1 hq2 hq3 hq4 hA hC hR hS hsl GR2
                clear B7 B8 B9 B10 B11 K2 K3 K4 K5 K6 hown7
                obtain ⟨i0, hi, hz0, hz1, hz2⟩ := info_parts info29
                have HC : Hid (∀ j u, ([zI y0, zI y1, zI y2, zI y3, zI y4, zI y5, zI y6, zI r, zI s] : List Value)[j]? = some u → (w11.alloc (.cells #[zI y0, zI y1, zI y2, zI y3, zI y4, zI y5, zI y6, zI r, zI s] 29)).cell? ((⟨Z, 0, none⟩ : Addr).add j) = some u) := fun j u hj => by
                  rw [addr_add, ← hZ, cell_of_row _ w11.heap.size j _ 29 (0, 0) (heap_alloc_new w11 _)]; simpa using hj
                go_upto_region 11 with fail
                go_wp2_with (at_builtin; refine wpList_append_own _ rfl (.tmp 90) (.tmp 92) 26 rfl (bm + 1) 29 i0 _ 9 72 Try.underlying26 hi hz0 hz1 hz2 rfl (by decide) _ _ _ rfl (hown7b.out.alloc _) ⟨Z, 0, none⟩ 1 1 [zI y0, zI y1, zI y2, zI y3, zI y4, zI y5, zI y6, zI r, zI s] rfl rfl HC.out (by simp [Value.oneCell']) (by unfold maxLen; omega) (by omega) (by simp; omega) ?_; intro v' w8 hown8 hg8 hnil; clear hnil; replace hown8 := hidI hown8; replace hg8 := hidI hg8; clear hi hz0 hz1 hz2)
                have Ba := below_alloc w11 (.cells #[zI y0, zI y1, zI y2, zI y3, zI y4, zI y5, zI y6, zI r, zI s] 29)
                have hb1 : bm + 1 ≤ w11.heap.size := by omega
                have hge : ∀ k, (Value.slice av j cv).ownBlock = some k → bm + 1 ≤ k := fun k hk => own_ge hown7b.out hk
                have B8 : Below (bm + 1) w11 w8 := (Ba.mono hb1).grown hg8.out (by simp only [World.alloc, Array.size_push]; omega) hge
                have hsz8 : bm < w8.heap.size := by have := B8.size; omega
                refine ⟨⟨j + 1, zs ++ [y0, y1, y2, y3, y4, y5, y6, r, s], by go_num, by omega, ND.out, ?_, B7b.out.trans (B8.mono (by omega)), hsz8, rowis_below m7.out B8 (by omega)⟩, by simp [intOf]; omega⟩
                have h := hown8.out
                simpa [zcells] using h
              · have hq4 : decide (-2147483648 ≤ s ∧ s ≤ 2147483647) = false := by rw [decide_eq_false_iff_not]; exact hS
                have c0 := RR.out _ K0.out
                first | (go_region_with (first
                    | (go_at_call 32
                       refine (encoded_c (cap := 1) C9.out (by omega)).mono ?_
                       rintro e w7 ⟨a7, cap7, rfl, hown7, B7⟩
                       have K1' : Below w6.heap.size w6 _ := K1.out
                       have K2 : Below w6.heap.size w6 w7 := K1'.trans (B7.mono K1'.size)
                       have c2 := RR.out _ K2)
                    | (go_at_call 31
                       have L7 := hL6.out _ K2
                       refine (equal3o_c (o := 4 * j) (n := 4) (ys := [p, q, r, s]) (RowI.of hown7) L7 rfl (by omega) hq1).mono ?_
                       rintro e w8 ⟨rfl, B8⟩
                       have K3 : Below w6.heap.size w6 w8 := K2.trans (B8.mono K2.size)
                       have c3 := RR.out _ K3)
                    | (go_at_call 61
                       refine (within61_c hq2).mono ?_
                       rintro e w9 ⟨rfl, B9⟩
                       have K4 : Below w6.heap.size w6 w9 := K3.trans (B9.mono K3.size)
                       have c4 := RR.out _ K4)
                    | (go_at_call 67
                       refine (word67_c hq3).mono ?_
                       rintro e w10 ⟨rfl, B10⟩
                       have K5 : Below w6.heap.size w6 w10 := K4.trans (B10.mono K4.size)
                       have c5 := RR.out _ K5)
                    | (go_at_call 67
                       refine (word67_c hq4).mono ?_
                       rintro e w11 ⟨rfl, B11⟩
                       have K6 : Below w6.heap.size w6 w11 := K5.trans (B11.mono K5.size)
                       have c6 := RR.out _ K6))) | fail
                have BX : Hid (Below bm w _) := B6.out.trans (K6.mono (by omega))
                have FIN := hidI (fun w' => dec_bad (base := w.heap.size) (E := E) (w' := w') GR.out (fun h => hS (GD.out.1 h).2.2.2.2) hlt)
                clear K0 K1 c0 hown6 B6 m6 r6 WE GD GR RR C9 hL6
                go_wp2_with fail
                go_ret2
                exact ⟨_, _, rfl, by rw [hbm]; exact BX.out, FIN.out _⟩
            · have hq3 : decide (-2147483648 ≤ r ∧ r ≤ 2147483647) = false := by rw [decide_eq_false_iff_not]; exact hR
              have c0 := RR.out _ K0.out
              first | (go_region_with (first
                  | (go_at_call 32
                     refine (encoded_c (cap := 1) C9.out (by omega)).mono ?_
                     rintro e w7 ⟨a7, cap7, rfl, hown7, B7⟩
                     have K1' : Below w6.heap.size w6 _ := K1.out
                     have K2 : Below w6.heap.size w6 w7 := K1'.trans (B7.mono K1'.size)
                     have c2 := RR.out _ K2)
                  | (go_at_call 31
                     have L7 := hL6.out _ K2
                     refine (equal3o_c (o := 4 * j) (n := 4) (ys := [p, q, r, s]) (RowI.of hown7) L7 rfl (by omega) hq1).mono ?_
                     rintro e w8 ⟨rfl, B8⟩
                     have K3 : Below w6.heap.size w6 w8 := K2.trans (B8.mono K2.size)
                     have c3 := RR.out _ K3)
                  | (go_at_call 61
                     refine (within61_c hq2).mono ?_
                     rintro e w9 ⟨rfl, B9⟩
                     have K4 : Below w6.heap.size w6 w9 := K3.trans (B9.mono K3.size)
                     have c4 := RR.out _ K4)
                  | (go_at_call 67
                     refine (word67_c hq3).mono ?_
                     rintro e w10 ⟨rfl, B10⟩
                     have K5 : Below w6.heap.size w6 w10 := K4.trans (B10.mono K4.size)
                     have c5 := RR.out _ K5))) | fail
              have BX : Hid (Below bm w _) := B6.out.trans (K5.mono (by omega))
              have FIN := hidI (fun w' => dec_bad (base := w.heap.size) (E := E) (w' := w') GR.out (fun h => hR (GD.out.1 h).2.2.2.1) hlt)
              clear K0 K1 c0 hown6 B6 m6 r6 WE GD GR RR C9 hL6
              go_wp2_with fail
              go_ret2
              exact ⟨_, _, rfl, by rw [hbm]; exact BX.out, FIN.out _⟩
          · have hq2 : decide (-1000 ≤ y5 ∧ y5 ≤ 1000) = false := by rw [decide_eq_false_iff_not]; exact hC
            have c0 := RR.out _ K0.out
            first | (go_region_with (first
                | (go_at_call 32
                   refine (encoded_c (cap := 1) C9.out (by omega)).mono ?_
                   rintro e w7 ⟨a7, cap7, rfl, hown7, B7⟩
                   have K1' : Below w6.heap.size w6 _ := K1.out
                   have K2 : Below w6.heap.size w6 w7 := K1'.trans (B7.mono K1'.size)
                   have c2 := RR.out _ K2)
                | (go_at_call 31
                   have L7 := hL6.out _ K2
                   refine (equal3o_c (o := 4 * j) (n := 4) (ys := [p, q, r, s]) (RowI.of hown7) L7 rfl (by omega) hq1).mono ?_
                   rintro e w8 ⟨rfl, B8⟩
                   have K3 : Below w6.heap.size w6 w8 := K2.trans (B8.mono K2.size)
                   have c3 := RR.out _ K3)
                | (go_at_call 61
                   refine (within61_c hq2).mono ?_
                   rintro e w9 ⟨rfl, B9⟩
                   have K4 : Below w6.heap.size w6 w9 := K3.trans (B9.mono K3.size)
                   have c4 := RR.out _ K4))) | fail
            have BX : Hid (Below bm w _) := B6.out.trans (K4.mono (by omega))
            have FIN := hidI (fun w' => dec_bad (base := w.heap.size) (E := E) (w' := w') GR.out (fun h => hC (GD.out.1 h).2.2.1) hlt)
            clear K0 K1 c0 hown6 B6 m6 r6 WE GD GR RR C9 hL6
            go_wp2_with fail
            go_ret2
            exact ⟨_, _, rfl, by rw [hbm]; exact BX.out, FIN.out _⟩
        · have hq1 : decide (wordsTo [y0, y1, y2, y3, y4, y5, y6, r, s] 1 = [p, q, r, s]) = false := by rw [decide_eq_false_iff_not]; exact fun h => hA (WE.out.1 h)
          have c0 := RR.out _ K0.out
          first | (go_region_with (first
              | (go_at_call 32
                 refine (encoded_c (cap := 1) C9.out (by omega)).mono ?_
                 rintro e w7 ⟨a7, cap7, rfl, hown7, B7⟩
                 have K1' : Below w6.heap.size w6 _ := K1.out
                 have K2 : Below w6.heap.size w6 w7 := K1'.trans (B7.mono K1'.size)
                 have c2 := RR.out _ K2)
              | (go_at_call 31
                 have L7 := hL6.out _ K2
                 refine (equal3o_c (o := 4 * j) (n := 4) (ys := [p, q, r, s]) (RowI.of hown7) L7 rfl (by omega) hq1).mono ?_
                 rintro e w8 ⟨rfl, B8⟩
                 have K3 : Below w6.heap.size w6 w8 := K2.trans (B8.mono K2.size)
                 have c3 := RR.out _ K3))) | fail
          have BX : Hid (Below bm w _) := B6.out.trans (K3.mono (by omega))
          have FIN := hidI (fun w' => dec_bad (base := w.heap.size) (E := E) (w' := w') GR.out (fun h => hA ⟨(GD.out.1 h).1, (GD.out.1 h).2.1⟩) hlt)
          clear K0 K1 c0 hown6 B6 m6 r6 WE GD GR RR C9 hL6
          go_wp2_with fail
          go_ret2
          exact ⟨_, _, rfl, by rw [hbm]; exact BX.out, FIN.out _⟩
      · obtain rfl : j = k := by omega
        have hltI : ¬ ((4 * j : Nat) : Int) < ((4 * j : Nat) : Int) := by omega
        have hltI' : ¬ 4 * (j : Int) < 4 * (j : Int) := by omega
        have hrow := RowZ.of hown
        replace hown := hidI hown
        replace B := hidI B
        go_wp2_with fail
        refine (H48.out _ _ _ _ _ (by omega) hrow).mono ?_
        rintro e w2 ⟨rfl, C2⟩
        have hrow2 := hrow.below C2
        have B2 : Hid (Below bm w w2) := B.out.trans (C2.mono (by omega))
        replace hrow2 := hidI hrow2
        clear hown B C2 hrow hcm
        obtain ⟨EE, hEE⟩ : ∃ EE, E zs j = EE := ⟨_, rfl⟩
        rw [hEE]
        by_cases hE : EE = 0
        · subst hE
          have FIN : Hid (DecPost w.heap.size xs (4 * j) E (.slice av j cv) 0 w2) := .inr (.inr ⟨by omega, zs, by rw [hdk]; exact hdec, by rw [hdk]; exact hEE.symm, (fun h => absurd rfl h), fun _ => ⟨av, cv, by rw [hdk], by rw [hdk]; exact hrow2.out⟩⟩)
          clear hEE
          go_wp2_with fail
          go_ret2
          exact ⟨_, _, rfl, by rw [hbm]; exact B2.out, FIN.out⟩
        · have hEb : (EE == 0) = false := by simp [hE]
          have FIN : Hid (DecPost w.heap.size xs (4 * j) E (.slice none 0 0) EE w2) := .inr (.inr ⟨by omega, zs, by rw [hdk]; exact hdec, by rw [hdk]; exact hEE.symm, (fun _ => rfl), fun h => absurd h hE⟩)
          clear hEE
          go_wp2_with fail
          go_ret2
          exact ⟨_, _, rfl, by rw [hbm]; exact B2.out, FIN.out⟩
  · have h4I : ¬ ((n : Nat) : Int) % 4 = 0 := by omega
    have B1 : Hid (Below w.heap.size w (w.alloc (.cells #[zI m0, zI m1, zI m2, zI m3, zI m4] 36))) := B01
    clear B01 c1 hz1
    go_enter Try.func36, Try.ntmps36
    go_wp2_with fail
    go_ret2
    exact ⟨_, _, rfl, B1.out, .inl ⟨h4, rfl, rfl⟩⟩
end Go.Proofs.Yteabbkagekdehaa

