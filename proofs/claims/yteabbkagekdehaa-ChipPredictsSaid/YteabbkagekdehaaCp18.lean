/- ChipPredicts: whatever the list of numbers, the call returns true and turns nothing that was there. -/
import Derived.Test.YteabbkagekdehaaCp17
import Derived.Test.YteabbkagekdehaaEn1
set_option linter.unusedVariables false
set_option linter.unusedSimpArgs false
set_option maxRecDepth 100000
namespace Go.Proofs.Yteabbkagekdehaa
open Go.AE Go.RowKit Go.IntWalk
theorem rowI_at {w : World} {g : Nat} {F : Nat → Nat} (h : RowAt g 20 (fun k => (F k : Nat)) w) (hg : g < w.heap.size) : RowI w (some ⟨g, 0, none⟩) 20 ((List.range 20).map fun k => (F k : Int)) :=
  ⟨by simp, .inr ⟨g, rfl, hg, fun j hj => by rw [(h j hj).1]; simp [List.getD_eq_getElem?_getD, hj]⟩⟩
set_option maxHeartbeats 4000000 in
theorem predicts_main (r : Raw) {w : World} (hJ : r.J μ0 w) : Calls Try.prog 8 #[.slice r.a r.len r.cap] w fun e w' => e = .returned (.bool true) ∧ Go.RowKit.Below w.heap.size w w' := by
  have S0 := Strm.start r hJ 25
  obtain ⟨B, hB⟩ : ∃ B, w.heap.size = B := ⟨_, rfl⟩
  have B0 : Go.RowKit.Below B w (w.alloc (.cells #[.slice r.a r.len r.cap, .int .i64 0] 25)) := by rw [← hB]; exact below_alloc w _
  have hs0 : (w.alloc (.cells #[.slice r.a r.len r.cap, .int .i64 0] 25)).heap.size = B + 1 := by simp [hB]
  rw [hB] at S0 ⊢
  generalize hra : r.a = ra at *
  generalize hrl : r.len = rl at *
  generalize hrc : r.cap = rc at *
  clear hra hrl hrc hJ
  obtain ⟨wa, hwa⟩ : ∃ wa, w.alloc (.cells #[.slice ra rl rc, .int .i64 0] 25) = wa := ⟨_, rfl⟩
  rw [hwa] at S0 B0 hs0
  go_enter Try.func8, Try.ntmps8
  go_wp2_with fail
  refine (coded_c S0 (by omega)).mono ?_
  rintro e w1 ⟨m0, m1, m2, m3, m4, a, n, cap, zs, k1, rfl, hn, hown, S1, hk1, O1⟩
  have hr1 := RowZ.of hown
  have B1 : Go.RowKit.Below B w w1 := B0.trans (O1.below (Nat.le_refl _) (by omega))
  have hz1 : B + 1 ≤ w1.heap.size := by have := O1.size; omega
  obtain ⟨bm, hbm⟩ : ∃ bm, w1.heap.size = bm := ⟨_, rfl⟩
  replace B1 := hidI B1
  replace hr1 := hidI hr1
  clear S0 B0 hwa hs0 O1 hown
  obtain ⟨E, R, F, g38, g39, g15, g40, g41⟩ := predicts_all m0 m1 m2 m3 m4 zs n (by omega)
  unfold mV at g38 g39 g15 g40
  replace g38 := hidI g38
  replace g39 := hidI g39
  replace g15 := hidI g15
  replace g40 := hidI g40
  replace g41 := hidI g41
  go_wp2_with fail
  have c2 := below_row (w := w1) #[zI m0, zI m1, zI m2, zI m3, zI m4] 36 hbm
  have hr2 := hr1.out.below (below_alloc w1 (.cells #[zI m0, zI m1, zI m2, zI m3, zI m4] 36))
  have B2 := B1.out.trans ((below_alloc w1 (.cells #[zI m0, zI m1, zI m2, zI m3, zI m4] 36)).mono (by omega))
  have hz2 : bm < (w1.alloc (.cells #[zI m0, zI m1, zI m2, zI m3, zI m4] 36)).heap.size := by simp only [World.alloc, Array.size_push]; omega
  obtain ⟨w2, hw2⟩ : ∃ w2, w1.alloc (.cells #[zI m0, zI m1, zI m2, zI m3, zI m4] 36) = w2 := ⟨_, rfl⟩
  rw [hw2] at c2 hr2 B2 hz2
  rw [hw2]
  clear hw2 S1 hr1 B1
  refine (g38.out _ _ cap hr2).mono ?_
  rintro e w3 ⟨x, rfl, B3, P3⟩
  have c3 := rowis_below c2 B3 hz2
  have hr3 := hr2.below B3
  have B03 := B2.trans (B3.mono (by omega))
  have hz3 : bm < w3.heap.size := by have := B3.size; omega
  replace P3 := hidI P3
  replace B03 := hidI B03
  clear c2 hr2 B2 B3
  go_wp2_with fail
  refine (g39.out _ _ cap hr3).mono ?_
  rintro e w4 ⟨v, rfl, B4, P4⟩
  have c4 := rowis_below c3 B4 hz3
  have hr4 := hr3.below B4
  have B04 := B03.out.trans (B4.mono (by omega))
  have hz4 : bm < w4.heap.size := by have := B4.size; omega
  replace P4 := hidI P4
  replace B04 := hidI B04
  clear c3 hr3 B03 B4
  go_wp2_with fail
  refine (g15.out _ _ cap hr4).mono ?_
  rintro e w5 ⟨rfl, B5⟩
  have B05 := B04.out.trans (B5.mono (by omega))
  have hz5 : bm < w5.heap.size := by have := B5.size; omega
  by_cases hE : E = 0
  · subst hE
    obtain ⟨gv, rfl, hgv, hrow⟩ := P4.out.2 rfl
    have hx := P3.out.2 rfl
    subst hx
    have c5 := rowis_below c4 B5 hz4
    have hr5 := hr4.below B5
    have row5 := RowAt.block hrow (B5.block gv hgv)
    have hg5 : gv < w5.heap.size := by have := B5.size; omega
    have I5 := rowI_at row5 hg5
    replace B05 := hidI B05
    replace I5 := hidI I5
    clear c4 hr4 B04 B5 P3 P4 hrow row5
    go_wp2_with fail
    refine (chips_calls _).mono ?_
    rintro e w6 ⟨rfl, B6⟩
    have c6 := rowis_below c5 B6 hz5
    have hr6 := hr5.below B6
    have I6 := I5.out.below B6
    have B06 := B05.out.trans (B6.mono (by omega))
    have hz6 : bm < w6.heap.size := by have := B6.size; omega
    replace B06 := hidI B06
    replace I6 := hidI I6
    clear c5 hr5 I5 B05 B6
    go_wp2_with fail
    refine (g40.out (by trivial) _ _ cap hr6).mono ?_
    rintro e w7 ⟨rfl, B7⟩
    have hr7 := hr6.below B7
    have I7 := I6.out.below B7
    have B07 := B06.out.trans (B7.mono (by omega))
    have hz7 : bm < w7.heap.size := by have := B7.size; omega
    replace B07 := hidI B07
    replace I7 := hidI I7
    clear c6 hr6 I6 B06 B7
    go_wp2_with fail
    refine (g41.out (by trivial) _ _ cap hr7).mono ?_
    rintro e w8 ⟨g8, rfl, hg8, row8, B8⟩
    have I8 := I7.out.below B8
    have J8 := rowI_at row8 hg8
    have B08 := B07.out.trans (B8.mono (by omega))
    have hz8 : bm < w8.heap.size := by have := B8.size; omega
    replace B08 := hidI B08
    clear hr7 I7 B07 B8 row8
    go_wp2_with fail
    refine (equal3_c I8 J8 (by omega)).mono ?_
    rintro e w9 ⟨rfl, B9⟩
    have B09 := hidI (B08.out.trans (B9.mono (by omega)))
    clear B9 B08 I8 J8
    go_wp2_with fail
    go_ret
    exact ⟨by simp, B09.out⟩
  · have hEb : (E == 0) = false := by simp [hE]
    obtain rfl := P3.out.1 hE
    obtain rfl := P4.out.1 hE
    replace B05 := hidI B05
    clear c4 hr4 B04 B5 P3 P4
    go_wp2_with fail
    refine (chips_calls _).mono ?_
    rintro e w6 ⟨rfl, B6⟩
    have B06 := hidI (B05.out.trans (B6.mono (by omega)))
    clear B6 B05
    go_wp2_with fail
    go_ret
    exact ⟨rfl, B06.out⟩
end Go.Proofs.Yteabbkagekdehaa
