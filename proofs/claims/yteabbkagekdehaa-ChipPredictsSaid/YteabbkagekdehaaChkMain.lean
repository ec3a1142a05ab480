/- ChipChecks: whatever the list of numbers, the call returns true and turns nothing that was there. -/
import Derived.Test.YteabbkagekdehaaCkA
import Derived.Deep.RegionHeld3
set_option linter.unusedVariables false
set_option linter.unusedSimpArgs false
set_option maxRecDepth 100000
namespace Go.Proofs.Yteabbkagekdehaa
open Go.AE Go.RowKit Go.IntWalk
theorem rowis_oth {w w' : World} {s b : Nat} {cs : Array Value} (h : ∀ j, w.cell? ⟨b, j, none⟩ = cs[j]?) (O : Oth s w w') (hb : b < w.heap.size) (hs : b ≠ s) : ∀ j, w'.cell? ⟨b, j, none⟩ = cs[j]? := fun j => by
  rw [O.cell (by exact hb) (by exact hs)]; exact h j
theorem Keep5.of {w : World} {b : Nat} {m0 m1 m2 m3 m4 : Int} (h : ∀ j, w.cell? ⟨b, j, none⟩ = #[zI m0, zI m1, zI m2, zI m3, zI m4][j]?) : Keep5 w b m0 m1 m2 m3 m4 := ⟨h 0, h 1, h 2, h 3, h 4⟩
theorem Keep5.below {w w' : World} {b : Nat} {m0 m1 m2 m3 m4 : Int} (h : Keep5 w b m0 m1 m2 m3 m4) (H : Go.RowKit.Below w.heap.size w w') (hb : b < w.heap.size) : Keep5 w' b m0 m1 m2 m3 m4 ∧ b < w'.heap.size := by
  obtain ⟨c0, c1, c2, c3, c4⟩ := h
  exact ⟨⟨by rw [H.cell (by exact hb)]; exact c0, by rw [H.cell (by exact hb)]; exact c1, by rw [H.cell (by exact hb)]; exact c2, by rw [H.cell (by exact hb)]; exact c3, by rw [H.cell (by exact hb)]; exact c4⟩, Nat.lt_of_lt_of_le hb H.size⟩
/-- what is kept at each step of the last line -/
def Kept (B : Nat) (w : World) (a : Option Addr) (n : Nat) (zs : List Int) (b : Nat) (m0 m1 m2 m3 m4 : Int) (w' : World) : Prop := Keep5 w' b m0 m1 m2 m3 m4 ∧ b < w'.heap.size ∧ Go.RowKit.Below B w w' ∧ B ≤ w'.heap.size ∧ RowZ w' a n zs
theorem Kept.step {B : Nat} {w : World} {a : Option Addr} {n : Nat} {zs : List Int} {b : Nat} {m0 m1 m2 m3 m4 : Int} {w1 w2 : World} (h : Kept B w a n zs b m0 m1 m2 m3 m4 w1) (H : Go.RowKit.Below w1.heap.size w1 w2) : Kept B w a n zs b m0 m1 m2 m3 m4 w2 := by
  obtain ⟨h1, h2, h3, h4, h5⟩ := h
  obtain ⟨g1, g2⟩ := Keep5.below h1 H h2
  exact ⟨g1, g2, h3.trans (H.mono h4), Nat.le_trans h4 H.size, h5.below H⟩
set_option maxHeartbeats 4000000 in
theorem check_main (r : Raw) {w : World} (hJ : r.J μ0 w) : Calls Try.prog 5 #[.slice r.a r.len r.cap] w fun e w' => e = .returned (.bool true) ∧ Go.RowKit.Below w.heap.size w w' := by
  have S0 := Strm.start r hJ 25
  obtain ⟨B, hB⟩ : ∃ B, w.heap.size = B := ⟨_, rfl⟩
  have B0 : Go.RowKit.Below B w (w.alloc (.cells #[.slice r.a r.len r.cap, .int .i64 0] 25)) := by rw [← hB]; exact below_alloc w _
  have hs0 : (w.alloc (.cells #[.slice r.a r.len r.cap, .int .i64 0] 25)).heap.size = B + 1 := by simp [hB]
  rw [hB] at S0 ⊢
  generalize hra : r.a = ra at *
  generalize hrl : r.len = rl at *
  generalize hrc : r.cap = rc at *
  clear hra hrl hrc hJ
  obtain ⟨wa, hwa⟩ : ∃ wa, w.alloc (.cells #[.slice ra rl rc, .int .i64 0] 25) = wa := ⟨_, rfl⟩
  rw [hwa] at S0 B0 hs0
  go_enter Try.func5, Try.ntmps5
  go_wp2_with fail
  refine (coded_c S0 (by omega)).mono ?_
  rintro e w1 ⟨m0, m1, m2, m3, m4, a, n, cap, zs, k1, rfl, hn, hown, S1, hk1, O1⟩
  rw [hs0] at hown
  have B1 : Go.RowKit.Below B w w1 := B0.trans (O1.below (Nat.le_refl _) (by omega))
  have hz1 : B + 1 ≤ w1.heap.size := by have := O1.size; omega
  obtain ⟨bm, hbm⟩ : ∃ bm, w1.heap.size = bm := ⟨_, rfl⟩
  replace hown := hidI hown
  replace B1 := hidI B1
  clear S0 B0 hwa hs0 O1
  go_wp2_with fail
  have c2 := below_row (w := w1) #[zI m0, zI m1, zI m2, zI m3, zI m4] 36 hbm
  have S2 := S1.below (below_alloc w1 (.cells #[zI m0, zI m1, zI m2, zI m3, zI m4] 36))
  have hown2 := ownsRow_oth hown.out (Oth.of_below (s := B) (below_alloc w1 (.cells #[zI m0, zI m1, zI m2, zI m3, zI m4] 36))) (by omega)
  have B2 := B1.out.trans ((below_alloc w1 (.cells #[zI m0, zI m1, zI m2, zI m3, zI m4] 36)).mono (by omega))
  have hz2 : bm < (w1.alloc (.cells #[zI m0, zI m1, zI m2, zI m3, zI m4] 36)).heap.size := by simp only [World.alloc, Array.size_push]; omega
  obtain ⟨w2, hw2⟩ : ∃ w2, w1.alloc (.cells #[zI m0, zI m1, zI m2, zI m3, zI m4] 36) = w2 := ⟨_, rfl⟩
  rw [hw2] at c2 S2 hown2 B2 hz2
  rw [hw2]
  clear hw2 S1 hown B1
  refine (next_c S2 (by omega) (by decide) (by decide)).mono ?_
  rintro e w3 ⟨T0, rfl, hT0, hT3, S3, O3, -⟩
  obtain ⟨T, rfl⟩ : ∃ T : Nat, T0 = T := ⟨T0.toNat, by omega⟩
  have c3 := rowis_oth c2 O3 hz2 (by omega)
  have hown3 := ownsRow_oth hown2 O3 (by omega)
  have B3 : Go.RowKit.Below B w w3 := B2.trans (O3.below (Nat.le_refl _) (by omega))
  have hz3 : bm < w3.heap.size := by have := O3.size; omega
  clear c2 hown2 B2 hz2 O3 S2
  go_wp2_with fail
  go_loopw [5, 16] (fun v i wr => ∃ (j n cap : Nat) (a : Option Addr) (zs : List Int) (K : Nat), v = .slice a n cap ∧ i = .int .i64 j ∧ j ≤ T ∧ n ≤ 3010 + j ∧ wr.ownsRow (B + 1) 29 9 (.slice a n cap) n (zcells zs) ∧ Strm r B B K wr ∧ K ≤ 20101 + 5 * j ∧ Go.RowKit.Below B w wr ∧ (∀ j, wr.cell? ⟨bm, j, none⟩ = #[zI m0, zI m1, zI m2, zI m3, zI m4][j]?) ∧ bm < wr.heap.size)
    (fun _ i _ => T - (intOf i).toNat)
  case atStart => exact ⟨0, _, _, _, _, _, rfl, rfl, Nat.zero_le _, by omega, hown3, S3, by omega, B3, c3, hz3⟩
  case round =>
    clear hown3 S3 B3 c3 hz3
    obtain ⟨j, n, cap, a, zs, K, rfl, rfl, hj, hn, hown, SX, hK, BX, CX, HX⟩ := hrel
    by_cases hlt : j < T
    · have hltI : (j : Int) < (T : Int) := by omega
      replace CX := hidI CX
      replace BX := hidI BX
      replace HX := hidI HX
      have hSX := SX.lt
      go_wp2_with fail
      refine (spoiled_c SX (by omega) hown (by omega)).mono ?_
      rintro e w6 ⟨a6, n6, cap6, zs6, K6, rfl, hn6, hown6, S6, hK6, O6⟩
      have C6 := rowis_oth CX.out O6 HX.out (by omega)
      have hown6' := ownsRow_base hown6 (base' := B + 1) (by have := HX.out; omega)
      have H6 : bm < w6.heap.size := by have := O6.size; have := HX.out; omega
      have B6 := BX.out.trans (O6.below (Nat.le_refl _) (by omega))
      have F6 := hidI (⟨C6, B6, H6⟩ : _ ∧ _ ∧ _)
      clear C6 B6 H6 hown6 hown CX HX BX SX hSX O6
      go_wp2_with fail
      go_roundw
      case rel => exact ⟨j + 1, n6, cap6, a6, zs6, K6, rfl, by go_num, by omega, by omega, hown6', S6, by omega, F6.out.2.1, F6.out.1, F6.out.2.2⟩
      case measure => simp [intOf]; omega
    · have hltI : ¬ (j : Int) < (T : Int) := by omega
      obtain ⟨eM, E, h25, h26, h13, h15, _⟩ := checks_all m0 m1 m2 m3 m4 zs n (by omega)
      have hr := RowZ.of hown
      replace hr := hidI hr
      have q25 : (∀ w, Calls Try.prog 25 #[.agg #[.int .i64 m0, .int .i64 m1, .int .i64 m2, .int .i64 m3, .int .i64 m4]] w fun en w' => en = .returned (.int .i64 eM) ∧ Go.RowKit.Below w.heap.size w w') := h25
      have q26 : (∀ w, Calls Try.prog 26 #[.agg #[.int .i64 m0, .int .i64 m1, .int .i64 m2, .int .i64 m3, .int .i64 m4]] w fun en w' => en = .returned (.int .i64 eM) ∧ Go.RowKit.Below w.heap.size w w') := h26
      have q13 : (∀ w a cap, RowZ w a n zs → Calls Try.prog 13 #[.agg #[.int .i64 m0, .int .i64 m1, .int .i64 m2, .int .i64 m3, .int .i64 m4], .slice a n cap] w fun en w' => en = .returned (.int .i64 E) ∧ Go.RowKit.Below w.heap.size w w') := h13
      have q15 : (∀ w a cap, RowZ w a n zs → Calls Try.prog 15 #[.agg #[.int .i64 m0, .int .i64 m1, .int .i64 m2, .int .i64 m3, .int .i64 m4], .slice a n cap] w fun en w' => en = .returned (.int .i64 E) ∧ Go.RowKit.Below w.heap.size w w') := h15
      clear h25 h26 h13 h15
      replace BX := hidI BX
      clear hown SX
      have K0 : Hid (Kept B w a n zs bm m0 m1 m2 m3 m4 wr.drew) := ⟨Keep5.of CX, HX, BX.out.trans ⟨rfl, rfl, rfl, Nat.le_refl _, fun _ _ => rfl⟩, by show B ≤ wr.heap.size; omega, RowZ.below hr.out ⟨rfl, rfl, rfl, Nat.le_refl _, fun _ _ => rfl⟩⟩
      go_upto_region 7 with fail
      go_region_held3 (fun w' => w'.cell? ⟨bm, 0, none⟩ = some (.int .i64 m0) ∧ w'.cell? ⟨bm, 1, none⟩ = some (.int .i64 m1) ∧ w'.cell? ⟨bm, 2, none⟩ = some (.int .i64 m2) ∧ w'.cell? ⟨bm, 3, none⟩ = some (.int .i64 m3) ∧ w'.cell? ⟨bm, 4, none⟩ = some (.int .i64 m4))
        (first | exact K0.out.1 | exact K1.out.1 | exact K2.out.1 | exact K3.out.1 | exact K4.out.1 | exact K5.out.1)
        (first
          | (go_at_call 12
             refine (chips_calls _).mono ?_
             rintro e w1 ⟨rfl, B1⟩
             have K0' : Kept B w a n zs bm m0 m1 m2 m3 m4 _ := K0.out
             have K1 : Kept B w a n zs bm m0 m1 m2 m3 m4 _ := Kept.step K0' B1
             have K1 : Hid _ := K1)
          | (go_at_call 25
             refine (q25 _).mono ?_
             rintro e w2 ⟨rfl, B2⟩
             have K1' : Kept B w a n zs bm m0 m1 m2 m3 m4 _ := K1.out
             have K2 : Kept B w a n zs bm m0 m1 m2 m3 m4 _ := Kept.step K1' B2
             have K2 : Hid _ := K2)
          | (go_at_call 26
             refine (q26 _).mono ?_
             rintro e w3 ⟨rfl, B3⟩
             have K2' : Kept B w a n zs bm m0 m1 m2 m3 m4 _ := K2.out
             have K3 : Kept B w a n zs bm m0 m1 m2 m3 m4 _ := Kept.step K2' B3
             have K3 : Hid _ := K3)
          | (go_at_call 13
             have K3' : Kept B w a n zs bm m0 m1 m2 m3 m4 _ := K3.out
             refine (q13 _ _ _ K3'.2.2.2.2).mono ?_
             rintro e w4 ⟨rfl, B4⟩
             have K4 : Kept B w a n zs bm m0 m1 m2 m3 m4 _ := Kept.step K3' B4
             have K4 : Hid _ := K4)
          | (go_at_call 15
             have K4' : Kept B w a n zs bm m0 m1 m2 m3 m4 _ := K4.out
             refine (q15 _ _ _ K4'.2.2.2.2).mono ?_
             rintro e w5 ⟨rfl, B5⟩
             have K5 : Kept B w a n zs bm m0 m1 m2 m3 m4 _ := Kept.step K4' B5
             have K5 : Hid _ := K5))
      have K5' : Kept B w a n zs bm m0 m1 m2 m3 m4 _ := K5.out
      have FIN : Hid (Go.RowKit.Below B w _) := K5'.2.2.1
      clear K0 K1 K2 K3 K4 K5 K5' CX BX hr q25 q26 q13 q15
      go_wp2_with fail
      go_ret
      exact ⟨rfl, FIN.out⟩
end Go.Proofs.Yteabbkagekdehaa
