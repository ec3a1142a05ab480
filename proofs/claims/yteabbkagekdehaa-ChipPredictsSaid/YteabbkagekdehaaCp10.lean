/- The code's Predict. -/
import Derived.Test.YteabbkagekdehaaCp6
set_option linter.unusedVariables false
set_option linter.unusedSimpArgs false
set_option maxRecDepth 100000
namespace Go.Proofs.Yteabbkagekdehaa
open Go.AE Go.RowKit Go.IntWalk
/-- the greatest of so many -/
def mxTo (f : Nat → Nat) : Nat → Nat
  | 0 => 0
  | k + 1 => max (mxTo f k) (f k)
theorem maxq_c {w : World} {g Q : Nat} {f : Nat → Nat} (hR : RowAt g Q (fun q => (f q : Nat)) w) (hQ : 1 ≤ Q) (hQ2 : Q ≤ 100) :
    Calls Try.prog 19 #[.slice (some ⟨g, 0, none⟩) Q Q] w fun en w' => en = .returned (zI (mxTo f Q : Nat)) ∧ w' = w := by
  have c0 : w.cell? ⟨g, 0, none⟩ = some (zI (f 0 : Nat)) := (hR 0 (by omega)).1
  have hQ1 : ¬ (Q : Int) < 1 := by omega
  have hQ0 : (0 : Int) < (Q : Int) := by omega
  obtain ⟨z, hz⟩ : ∃ z, mxTo f 1 = z := ⟨_, rfl⟩
  have hz' : f 0 = z := by rw [← hz]; simp [mxTo]
  rw [hz'] at c0
  go_enter Try.func19, Try.ntmps19
  go_wp2_with fail
  go_loopw [3, 4] (fun v3 v4 wr => ∃ j : Nat, v4 = zI j ∧ 1 ≤ j ∧ j ≤ Q ∧ v3 = zI (mxTo f j : Nat) ∧ wr = w)
    (fun _ v4 _ => Q - (intOf v4).toNat)
  case atStart => exact ⟨1, rfl, Nat.le_refl _, hQ, by rw [hz], rfl⟩
  case round =>
    obtain ⟨j, rfl, hj1, hj, rfl, rfl⟩ := hrel
    clear c0
    by_cases hlt : j < Q
    · have hltI : (j : Int) < (Q : Int) := by omega
      have cj : wr.cell? ⟨g, j, none⟩ = some (zI (f j : Nat)) := (hR j hlt).1
      obtain ⟨y, hy⟩ : ∃ y, mxTo f j = y := ⟨_, rfl⟩
      obtain ⟨x, hx⟩ : ∃ x, f j = x := ⟨_, rfl⟩
      have hn : mxTo f (j + 1) = max y x := by simp only [mxTo]; rw [hy, hx]
      rw [hx] at cj
      rw [hy]
      have hm : max (y : Int) (x : Int) = ((max y x : Nat) : Int) := by omega
      replace hn := hidI hn
      replace hm := hidI hm
      clear hy hx
      go_wp2_with fail
      go_roundw
      case rel => exact ⟨j + 1, by go_num, by omega, by omega, by rw [hn.out, ← hm.out], by trivial⟩
      case measure => simp [intOf]; omega
    · obtain rfl : j = Q := by omega
      have hltI : ¬ (j : Int) < (j : Int) := by omega
      go_wp2_with fail
      go_ret
      exact ⟨rfl, rfl⟩
set_option maxHeartbeats 4000000 in
theorem predicted_c {w : World} {a : Option Addr} {n cap : Nat} {zs : List Int} (hr : RowZ w a n zs) (hn : n ≤ 100000) {m0 m1 m2 m3 m4 : Int} {Q : Nat} {pr D Mn : Nat → Nat} (hA : Ask m0 m1 m2 m3 m4 n Q zs pr D Mn) (hQ : 1 ≤ Q ∧ Q ≤ 4)
    (hS : scan (opZ zs) (fun _ => 0) n 0 0 = .inr 0) {t : CT} (b : BT n (opZ zs) (mZ zs) 0 t n) (hc : t.cnt ≤ 40000000) {S : Nat × (Nat → Nat)} (hS0 : evC (opZ zs) pr D Mn t (0, fun _ => 0) = S) {R : Nat} (hR0 : max S.1 (mxTo S.2 Q) = R) :
    Calls Try.prog 68 #[mV m0 m1 m2 m3 m4, .slice a n cap] w fun en w' => en = .returned (zI (R : Nat)) ∧ Below w.heap.size w w' := by
  unfold mV
  obtain ⟨bm, hbm⟩ : ∃ bm, w.heap.size = bm := ⟨_, rfl⟩
  obtain ⟨q1, q2⟩ := hQ
  have hq := hA.q
  have HA := hidI hA
  have HS := hidI hS
  have HB := hidI b
  have HS0 := hidI hS0
  have HR0 := hidI hR0
  obtain rfl : m4 = (Q : Int) := hq.symm
  clear hA hS b hq hS0 hR0
  have hmk := make_int2 Q (by omega)
  have hQI : (0 : Int) ≤ (Q : Int) := by omega
  go_enter Try.func68, Try.ntmps68
  go_wp2_with fail
  go_region
  have hzA : (w.alloc (.cells #[zI m0, zI m1, zI m2, zI m3, zI (Q : Int)] 36)).heap.size = bm + 1 := by simp only [World.alloc, Array.size_push]; omega
  obtain ⟨wA, hwA⟩ : ∃ wA, w.alloc (.cells #[zI m0, zI m1, zI m2, zI m3, zI (Q : Int)] 36) = wA := ⟨_, rfl⟩
  have BA : Below bm w wA := by rw [← hwA, ← hbm]; exact below_alloc w _
  rw [hwA] at hzA ⊢
  have hRB := made_row2 (heap_alloc_new wA (.cells (madeCells #[.int .i64 0] Q) 3))
  have BB := below_alloc wA (.cells (madeCells #[.int .i64 0] Q) 3)
  have hzB : (wA.alloc (.cells (madeCells #[.int .i64 0] Q) 3)).heap.size = bm + 2 := by simp only [World.alloc, Array.size_push]; omega
  obtain ⟨wB, hwB⟩ : ∃ wB, wA.alloc (.cells (madeCells #[.int .i64 0] Q) 3) = wB := ⟨_, rfl⟩
  rw [hwB] at hRB BB hzB ⊢
  rw [hzA] at hRB BB
  have yC := below_row (w := wB) #[zI m0, zI m1, zI m2, zI m3, zI (Q : Int), zI 0, .slice (some ⟨bm + 1, 0, none⟩) Q Q] 142 hzB
  have hnC := heap_alloc_new wB (.cells #[zI m0, zI m1, zI m2, zI m3, zI (Q : Int), zI 0, .slice (some ⟨bm + 1, 0, none⟩) Q Q] 142)
  have BC := below_alloc wB (.cells #[zI m0, zI m1, zI m2, zI m3, zI (Q : Int), zI 0, .slice (some ⟨bm + 1, 0, none⟩) Q Q] 142)
  have hzC : (wB.alloc (.cells #[zI m0, zI m1, zI m2, zI m3, zI (Q : Int), zI 0, .slice (some ⟨bm + 1, 0, none⟩) Q Q] 142)).heap.size = bm + 3 := by simp only [World.alloc, Array.size_push]; omega
  obtain ⟨wC, hwC⟩ : ∃ wC, wB.alloc (.cells #[zI m0, zI m1, zI m2, zI m3, zI (Q : Int), zI 0, .slice (some ⟨bm + 1, 0, none⟩) Q Q] 142) = wC := ⟨_, rfl⟩
  rw [hwC] at yC hnC BC hzC ⊢
  rw [hzB] at hnC BC
  have BD : Below wC.heap.size wC wC.drew := ⟨rfl, rfl, rfl, Nat.le_refl _, fun _ _ => rfl⟩
  have CC : Clk wC (bm + 2) (bm + 1) Q m0 m1 m2 m3 (Q : Int) (0, fun _ => 0) := ⟨⟨yC 0, yC 1, yC 2, yC 3, yC 4⟩, yC 5, yC 6, frozen_of_row wC (bm + 2) 5 _ 142 hnC, (RowAt.block hRB (BC.block (bm + 1) (by omega))).congr (fun _ _ => rfl), by omega, by omega, by omega⟩
  have CD := CC.below BD
  have BwD : Below bm w wC.drew := BA.trans ((BB.mono (by omega)).trans ((BC.mono (by omega)).trans (BD.mono (by omega))))
  have hzD : wC.drew.heap.size = bm + 3 := hzC
  have hrD := hr.below (by rw [hbm]; exact BwD)
  obtain ⟨OUT, hOUT⟩ : ∃ OUT, en (opZ zs) n 0 [] (fun _ => 0) = OUT := ⟨_, rfl⟩
  have hEO : EndsOK t OUT := by
    obtain ⟨f', h1, h2, _⟩ := en_BT HB.out [] (fun _ => 0)
    rw [Nat.sub_zero, Nat.sub_self, hOUT] at h1
    have h1' : OUT = f' := h1
    rw [h1']; exact h2
  have hends := ends_c (w := wC.drew) (cap := cap) hrD hn hOUT HS.out
  obtain ⟨wD, hwD⟩ : ∃ wD, wC.drew = wD := ⟨_, rfl⟩
  rw [hwD] at CD BwD hzD hends ⊢
  replace CD := hidI CD
  replace BwD := hidI BwD
  replace hEO := hidI hEO
  clear hwD hwC hwB hwA BA BB BC BD hRB yC hnC hzA hzB hzC CC hrD hOUT hmk
  go_wp2_with fail
  refine hends.mono ?_
  rintro en' w2 ⟨rfl, hR2, B2, hl2⟩
  rw [hzD] at hR2 hl2 ⊢
  have C2 := CD.out.below B2
  have Bw2 := BwD.out.trans (B2.mono (by omega))
  have L2 : Lies w2 a n zs (bm + 3) OUT (bm + 2) (bm + 1) := by
    refine ⟨?_, hl2, ⟨by omega, by omega⟩, fun j hj => (hR2 j hj).1⟩
    rcases hr with h | ⟨g, h1, h2, h3⟩
    · exact .inl h
    · exact .inr ⟨g, h1, by omega, by omega, by omega, fun j hj => by rw [Bw2.cell (by show g < bm; omega)]; exact h3 j hj⟩
  have hpass := pass_c (cap := cap) hn HA.out (bk := bm + 2) (br := bm + 1) (be := bm + 3) (E := OUT) n 0 n t w2 (0, fun _ => 0) 0 (by omega) HB.out hEO.out L2 C2 ⟨Nat.le_refl _, fun _ => Nat.le_refl _⟩ (by omega)
  replace Bw2 := hidI Bw2
  have hzz : bm + 3 ≤ w2.heap.size := by omega
  clear hends CD BwD hEO C2 L2 B2 hR2
  go_wp2_with fail
  refine hpass.mono ?_
  rintro en' w3 ⟨rfl, C3, F3⟩
  have Bw3 : Hid (Below bm w w3) := Bw2.out.trans ⟨F3.os, F3.tape, F3.output, F3.size, fun k hk => F3.block k (by omega) (by omega) (by omega)⟩
  rw [HS0.out] at C3
  have hmax := fun (w' : World) (h : RowAt (bm + 1) Q (fun q => (S.2 q : Nat)) w') => maxq_c h q1 (by omega)
  have hR3 := C3.row
  have k5 := C3.c5
  have k6 := C3.c6
  obtain ⟨c, hcS⟩ : ∃ c, S.1 = c := ⟨_, rfl⟩
  obtain ⟨mx, hmx⟩ : ∃ mx, mxTo S.2 Q = mx := ⟨_, rfl⟩
  rw [hcS] at k5
  rw [hmx] at hmax
  have hRR : max c mx = R := by rw [← hcS, ← hmx]; exact HR0.out
  have hR3d : RowAt (bm + 1) Q (fun q => (S.2 q : Nat)) w3.drew := hR3
  replace hmax := hidI hmax
  replace hR3 := hidI hR3
  replace hR3d := hidI hR3d
  have hmm : Hid (max (c : Int) (mx : Int) = (R : Int)) := by show _ = _; omega
  clear hpass C3 F3 Bw2 hcS hmx hRR
  go_wp2_with fail
  go_region_with (first
    | (go_at_call 19
       refine (hmax.out _ ?_).mono ?_
       first | exact hR3d.out | exact hR3.out
       rintro e w9 ⟨rfl, rfl⟩))
  all_goals go_wp2_with fail
  all_goals go_ret
  all_goals exact ⟨by rw [← hmm.out]; rfl, by rw [hbm]; first | exact Bw3.out | exact Bw3.out.trans ⟨rfl, rfl, rfl, Nat.le_refl _, fun _ _ => rfl⟩⟩
/-- what Predict answers -/
def PredPost (E : Int) (R : Nat) (x : Int) : Prop := (E ≠ 0 → x = 0) ∧ (E = 0 → x = R)
/-- Predict -/
theorem predict_c {w : World} {a : Option Addr} {n cap : Nat} {zs : List Int} (hr : RowZ w a n zs) (hn : n ≤ 100000) {m0 m1 m2 m3 m4 E : Int}
    (h13 : ∀ w a cap, RowZ w a n zs → Calls Try.prog 13 #[mV m0 m1 m2 m3 m4, .slice a n cap] w fun en w' => en = .returned (zI E) ∧ Below w.heap.size w w') {R : Nat}
    (h68 : E = 0 → ∀ w a cap, RowZ w a n zs → Calls Try.prog 68 #[mV m0 m1 m2 m3 m4, .slice a n cap] w fun en w' => en = .returned (zI (R : Nat)) ∧ Below w.heap.size w w') :
    Calls Try.prog 38 #[mV m0 m1 m2 m3 m4, .slice a n cap] w fun en w' => ∃ x : Int, en = .returned (.tuple #[zI x, zI E]) ∧ Below w.heap.size w w' ∧ PredPost E R x := by
  unfold mV at *
  obtain ⟨bm, hbm⟩ : ∃ bm, w.heap.size = bm := ⟨_, rfl⟩
  have H13 := hidI h13
  have H68 := hidI h68
  clear h13 h68
  go_enter Try.func38, Try.ntmps38
  go_wp2_with fail
  have B0 := below_alloc w (.cells #[zI m0, zI m1, zI m2, zI m3, zI m4] 36)
  have b1 := below_row (w := w) #[zI m0, zI m1, zI m2, zI m3, zI m4] 36 hbm
  have hz0 : (w.alloc (.cells #[zI m0, zI m1, zI m2, zI m3, zI m4] 36)).heap.size = bm + 1 := by simp only [World.alloc, Array.size_push]; omega
  refine (H13.out _ _ _ (hr.below B0)).mono ?_
  rintro en w1 ⟨rfl, B1⟩
  have c1 := rowis_below b1 B1 (by simp only [World.alloc, Array.size_push]; omega)
  have B01 := B0.trans (B1.mono B0.size)
  have hr1 := hr.below B01
  replace B01 := hidI B01
  clear B0 B1 b1 hz0
  by_cases hE : E = 0
  · subst hE
    have q68 := H68.out rfl w1 a cap hr1
    clear H68 H13
    go_wp2_with fail
    refine q68.mono ?_
    rintro en w2 ⟨rfl, B2⟩
    have FIN : Hid (Below w.heap.size w w2) := B01.out.trans (B2.mono B01.out.size)
    clear q68 B2 B01 c1 hr1
    go_wp2_with fail
    go_ret2
    exact ⟨_, rfl, by first | exact FIN.out | (rw [← hbm]; exact FIN.out), (fun h => absurd rfl h), fun _ => rfl⟩
  · have hEb : (E == 0) = false := by simp [hE]
    clear c1 hr1 H68 H13
    go_wp2_with fail
    go_ret2
    exact ⟨_, rfl, by first | exact B01.out | (rw [← hbm]; exact B01.out), (fun _ => rfl), fun h => absurd h hE⟩
end Go.Proofs.Yteabbkagekdehaa
