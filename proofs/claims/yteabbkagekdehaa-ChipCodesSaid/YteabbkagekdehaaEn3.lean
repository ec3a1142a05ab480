/- The program's Decode. -/
import Derived.Test.YteabbkagekdehaaEn2b
import Derived.Test.YteabbkagekdehaaEnLaw
import Derived.BigRegion
set_option linter.unusedVariables false
set_option linter.unusedSimpArgs false
set_option maxRecDepth 100000
namespace Go.Proofs.Yteabbkagekdehaa
open Go.AE Go.RowKit Go.IntWalk
/-- what Decode and Decoded leave, for words xs and the error of each code -/
def DecPost (base : Nat) (xs : List Int) (n : Nat) (E : List Int → Nat → Int) (v : Value) (e : Int) (w' : World) : Prop :=
  (n % 4 ≠ 0 ∧ e = 11 ∧ v = .slice none 0 0) ∨
  (n % 4 = 0 ∧ decTo xs (n / 4) = none ∧ e = 3 ∧ v = .slice none 0 0) ∨
  (n % 4 = 0 ∧ ∃ zs, decTo xs (n / 4) = some zs ∧ e = E zs (n / 4) ∧ (e ≠ 0 → v = .slice none 0 0) ∧ (e = 0 → ∃ a' cap', v = .slice a' (n / 4) cap' ∧ RowZ w' a' (n / 4) zs))
theorem below_ad (w : World) (o : Obj) : Below w.heap.size w (w.alloc o).drew := (below_alloc w o).trans ⟨rfl, rfl, rfl, Nat.le_refl _, fun _ _ => rfl⟩
theorem dec_bad {base k j : Nat} {xs : List Int} {p q r s : Int} {E : List Int → Nat → Int} {w' : World} (hg : grp xs j = if GrpOK p q r s then some (grpRow p q r s) else none) (hb : ¬ GrpOK p q r s) (hj : j < k) : DecPost base xs (4 * k) E (.slice none 0 0) 3 w' := by
  rw [if_neg hb] at hg
  exact .inr (.inl ⟨by omega, by rw [show 4 * k / 4 = k by omega]; exact decTo_bad hg hj, rfl, rfl⟩)
set_option maxHeartbeats 4000000 in
theorem decode_c {w : World} {a : Option Addr} {n cap : Nat} {xs : List Int} (hr : RowI w a n xs) (hn : n ≤ 100000) {m0 m1 m2 m3 m4 : Int} {E : List Int → Nat → Int} (h25 : Says 25 [mV m0 m1 m2 m3 m4] (zI 0))
    (h13 : ∀ w a n cap zs, n ≤ 100000 → RowZ w a n zs → Calls Try.prog 13 #[mV m0 m1 m2 m3 m4, .slice a n cap] w fun en w' => en = .returned (zI (E zs n)) ∧ Below w.heap.size w w') :
    Calls Try.prog 35 #[mV m0 m1 m2 m3 m4, .slice a n cap] w fun en w' => ∃ v e, en = .returned (.tuple #[v, zI e]) ∧ Below w.heap.size w w' ∧ DecPost w.heap.size xs n E v e w' := by
  unfold mV at *
  obtain ⟨bm, hbm⟩ : ∃ bm, w.heap.size = bm := ⟨_, rfl⟩
  have H25 : Hid _ := h25
  have H13 : Hid _ := h13
  clear h25 h13
  go_enter Try.func35, Try.ntmps35
  go_wp2_with fail
  have b1 := below_row (w := w) #[zI m0, zI m1, zI m2, zI m3, zI m4] 36 hbm
  refine (H25.out _).mono ?_
  rintro en w1 ⟨rfl, B1⟩
  have c1 := rowis_below b1 B1 (by simp only [World.alloc, Array.size_push]; omega)
  have hz1 : bm < w1.heap.size := by have := B1.size; simp only [World.alloc, Array.size_push] at this; omega
  have B01 := (below_alloc w _).trans (B1.mono (by simp only [World.alloc, Array.size_push]; omega))
  rw [hbm] at B01
  replace B01 := hidI B01
  clear b1 B1 H25
  by_cases h4 : n % 4 = 0
  · obtain ⟨k, rfl⟩ : ∃ k, n = 4 * k := ⟨n / 4, by omega⟩
    have hdk : 4 * k / 4 = k := by omega
    have h4I : ((4 * k : Nat) : Int) % 4 = 0 := by omega
    go_wp2_with fail
    go_loopw [7, 8] (fun v7 v8 wr => ∃ (j : Nat) (zs : List Int), v8 = zI ((4 * j : Nat) : Int) ∧ j ≤ k ∧ decTo xs j = some zs ∧ wr.ownsRow (bm + 1) 29 9 v7 j (zcells zs) ∧ Below bm w wr ∧ bm < wr.heap.size ∧ (∀ t, wr.cell? ⟨bm, t, none⟩ = #[zI m0, zI m1, zI m2, zI m3, zI m4][t]?))
      (fun _ v8 _ => 4 * k - (intOf v8).toNat)
    case atStart => exact ⟨0, [], rfl, Nat.zero_le _, rfl, World.ownsRow_nil _ _ _ _, B01.out, hz1, c1⟩
    case round =>
      clear c1 hz1 B01
      obtain ⟨j, zs, rfl, hj, hdec, hown, B, hsz, hcm⟩ := hrel
      obtain ⟨av, cv, rfl⟩ := ownsRow_shape hown
      by_cases hlt : j < k
      · have hltI : ((4 * j : Nat) : Int) < ((4 * k : Nat) : Int) := by omega
        have hltI' : 4 * (j : Int) < 4 * (k : Int) := by omega
        rcases (hr.below (by rw [hbm]; exact B)).2 with h0 | ⟨g, rfl, hg, hcell⟩
        · omega
        obtain ⟨p, hp⟩ : ∃ p, xs.getD (4 * j) 0 = p := ⟨_, rfl⟩
        obtain ⟨q, hq⟩ : ∃ q, xs.getD (4 * j + 1) 0 = q := ⟨_, rfl⟩
        obtain ⟨r, hrr⟩ : ∃ r, xs.getD (4 * j + 2) 0 = r := ⟨_, rfl⟩
        obtain ⟨s, hs⟩ : ∃ s, xs.getD (4 * j + 3) 0 = s := ⟨_, rfl⟩
        have xp : wr.cell? ⟨g, 4 * j, none⟩ = some (zI p) := by rw [hcell _ (by omega), hp]
        have xq : wr.cell? ⟨g, 4 * j + 1, none⟩ = some (zI q) := by rw [hcell _ (by omega), hq]
        have xr : wr.cell? ⟨g, 4 * j + 2, none⟩ = some (zI r) := by rw [hcell _ (by omega), hrr]
        have xs' : wr.cell? ⟨g, 4 * j + 3, none⟩ = some (zI s) := by rw [hcell _ (by omega), hs]
        have GR : Hid (grp xs j = if GrpOK p q r s then some (grpRow p q r s) else none) := by
          show _ = _
          unfold grp
          rw [hp, hq, hrr, hs]
        replace hown := hidI hown
        replace B := hidI B
        clear hcell hp hq hrr hs
        go_wp2_with fail
        go_quiet (fail)
        have D0 : Below wr.heap.size wr (wr.drewN nq) := below_dq (Below.refl _ _) nq
        clear xp xq
        go_wp2_with fail
        by_cases hp : 0 ≤ p ∧ p ≤ 4194303
        · refine (within49_c (b := true) (by simp [hp])).mono ?_
          rintro e w2 ⟨rfl, C2⟩
          have D2 := D0.trans C2
          clear D0 C2
          go_wp2_with fail
          by_cases hq : 0 ≤ q ∧ q ≤ 2097151
          · refine (within49_c (b := true) (by simp [hq])).mono ?_
            rintro e w3 ⟨rfl, C3⟩
            have D3 := D2.trans (C3.mono D2.size)
            have xr3 : w3.cell? ⟨g, 4 * j + 2, none⟩ = some (zI r) := by rw [D3.cell (by exact hg)]; exact xr
            clear D2 C3
            go_wp2_with fail
            by_cases hw : -2147483648 ≤ r ∧ r ≤ 2147483647
            · refine (word66_c (b := true) (by simp [hw])).mono ?_
              rintro e w4 ⟨rfl, C4⟩
              have D4 := D3.trans (C4.mono D3.size)
              have xs4 : w4.cell? ⟨g, 4 * j + 3, none⟩ = some (zI s) := by rw [D4.cell (by exact hg)]; exact xs'
              clear D3 C4 xr3
              go_wp2_with fail
              by_cases hv : -2147483648 ≤ s ∧ s ≤ 2147483647
              · refine (word66_c (b := true) (by simp [hv])).mono ?_
                rintro e w5 ⟨rfl, C5⟩
                have D5 := D4.trans (C5.mono D4.size)
                have xr5 : w5.cell? ⟨g, 4 * j + 2, none⟩ = some (zI r) := by rw [D5.cell (by exact hg)]; exact xr
                have xs5 : w5.cell? ⟨g, 4 * j + 3, none⟩ = some (zI s) := by rw [D5.cell (by exact hg)]; exact xs'
                clear D4 C5 xs4 xr xs'
                obtain ⟨P, rfl⟩ : ∃ P : Nat, p = P := ⟨p.toNat, by omega⟩
                obtain ⟨Q, rfl⟩ : ∃ Q : Nat, q = Q := ⟨q.toNat, by omega⟩
                replace D5 := hidI D5
                go_wp2_with fail
                have xrA : ∀ cs e, (w5.alloc (.cells cs e)).drew.cell? ⟨g, 4 * j + 2, none⟩ = some (zI r) := fun cs e => by
                  rw [((below_alloc w5 (.cells cs e)).trans ⟨rfl, rfl, rfl, Nat.le_refl _, fun _ _ => rfl⟩ : Below w5.heap.size w5 (w5.alloc (.cells cs e)).drew).cell (by have := D5.out.size; show g < _; omega)]; exact xr5
                have xsA : ∀ cs e, (w5.alloc (.cells cs e)).drew.cell? ⟨g, 4 * j + 3, none⟩ = some (zI s) := fun cs e => by
                  rw [((below_alloc w5 (.cells cs e)).trans ⟨rfl, rfl, rfl, Nat.le_refl _, fun _ _ => rfl⟩ : Below w5.heap.size w5 (w5.alloc (.cells cs e)).drew).cell (by have := D5.out.size; show g < _; omega)]; exact xs5
                go_region
                obtain ⟨y0, h0⟩ : ∃ y : Int, (P : Int) % 64 = y := ⟨_, rfl⟩
                obtain ⟨y1, h1⟩ : ∃ y : Int, (P : Int) / 64 % 64 = y := ⟨_, rfl⟩
                obtain ⟨y2, h2⟩ : ∃ y : Int, (P : Int) / 4096 % 32 = y := ⟨_, rfl⟩
                obtain ⟨y3, h3⟩ : ∃ y : Int, (P : Int) / 131072 = y := ⟨_, rfl⟩
                obtain ⟨y4, h4⟩ : ∃ y : Int, (Q : Int) % 32 = y := ⟨_, rfl⟩
                obtain ⟨y5, h5⟩ : ∃ y : Int, (Q : Int) / 32 % 2048 - 1024 = y := ⟨_, rfl⟩
                obtain ⟨y6, h6⟩ : ∃ y : Int, (Q : Int) / 65536 = y := ⟨_, rfl⟩
                have GR2 : Hid (grpRow P Q r s = [y0, y1, y2, y3, y4, y5, y6, r, s]) := by
                  show _ = _
                  unfold grpRow
                  rw [show (P : Int) / 131072 % 32 = (P : Int) / 131072 by omega, show (Q : Int) / 65536 % 32 = (Q : Int) / 65536 by omega, h0, h1, h2, h3, h4, h5, h6]
                have hy5 : (GrpOK P Q r s ↔ -1000 ≤ y5 ∧ y5 ≤ 1000) := by
                  unfold GrpOK
                  rw [h5]
                  exact ⟨fun h => h.2.2.2.2.2.2, fun h => ⟨hp.1, hp.2, hq.1, hq.2, hw, hv, h⟩⟩
                rw [h0, h1, h2, h3, h4, h5, h6]
                obtain ⟨Y, hY⟩ : ∃ Y, w5.heap.size = Y := ⟨_, rfl⟩
                have r6 : ∀ t, (w5.alloc (.cells #[zI y0, zI y1, zI y2, zI y3, zI y4, zI y5, zI y6, zI r, zI s] 29)).drew.cell? ⟨Y, t, none⟩ = #[zI y0, zI y1, zI y2, zI y3, zI y4, zI y5, zI y6, zI r, zI s][t]? := below_row (w := w5) #[zI y0, zI y1, zI y2, zI y3, zI y4, zI y5, zI y6, zI r, zI s] 29 hY
                have D6 : Below wr.heap.size wr (w5.alloc (.cells #[zI y0, zI y1, zI y2, zI y3, zI y4, zI y5, zI y6, zI r, zI s] 29)).drew := D5.out.trans ((below_ad w5 (.cells #[zI y0, zI y1, zI y2, zI y3, zI y4, zI y5, zI y6, zI r, zI s] 29)).mono D5.out.size)
                have hz6 : (w5.alloc (.cells #[zI y0, zI y1, zI y2, zI y3, zI y4, zI y5, zI y6, zI r, zI s] 29)).drew.heap.size = Y + 1 := by
                  show (w5.alloc (.cells #[zI y0, zI y1, zI y2, zI y3, zI y4, zI y5, zI y6, zI r, zI s] 29)).heap.size = Y + 1
                  simp only [World.alloc, Array.size_push]; omega
                obtain ⟨w6, hw6⟩ : ∃ w6, (w5.alloc (.cells #[zI y0, zI y1, zI y2, zI y3, zI y4, zI y5, zI y6, zI r, zI s] 29)).drew = w6 := ⟨_, rfl⟩
                rw [hw6] at r6 D6 hz6
                rw [hw6]
                try rw [hY]
                have hown6 := ownsRow_below hown.out D6
                have B6 := B.out.trans (D6.mono (by omega))
                have m6 := rowis_below hcm D6 hsz
                have hbY : bm < Y := by have := D5.out.size; omega
                replace hown6 := hidI hown6
                replace B6 := hidI B6
                replace hy5 := hidI hy5
                clear hw6 D6 D5 xrA xsA xr5 xs5 hY h0 h1 h2 h3 h4 h5 h6 hown B hcm hp hq hw hv hsz
                go_wp2_with fail
                by_cases hc : -1000 ≤ y5 ∧ y5 ≤ 1000
                · refine (within49_c (b := true) (by simp [hc])).mono ?_
                  rintro e w7 ⟨rfl, C7⟩
                  have r7 := rowis_below r6 C7 (by omega)
                  have m7 := rowis_below m6 C7 (by omega)
                  have hown7 := ownsRow_below hown6.out C7
                  have B7 := B6.out.trans (C7.mono (by omega))
                  have hz7 : Y + 1 ≤ w7.heap.size := by have := C7.size; omega
                  have ND : Hid (decTo xs (j + 1) = some (zs ++ [y0, y1, y2, y3, y4, y5, y6, r, s])) := by
                    show _ = _
                    refine decTo_step hdec ?_
                    rw [GR.out, if_pos (hy5.out.2 hc), GR2.out]
                  replace hown7 := hidI hown7
                  replace B7 := hidI B7
                  replace m7 := hidI m7
                  obtain ⟨Z, hZ⟩ : ∃ Z, w7.heap.size = Z := ⟨_, rfl⟩
                  clear C7 r6 m6 hown6 B6 hc hy5 GR GR2 hz6
                  obtain ⟨i0, hi, hz0, hz1, hz2⟩ := info_parts info29
                  have HC : Hid (∀ j u, ([zI y0, zI y1, zI y2, zI y3, zI y4, zI y5, zI y6, zI r, zI s] : List Value)[j]? = some u → (w7.alloc (.cells #[zI y0, zI y1, zI y2, zI y3, zI y4, zI y5, zI y6, zI r, zI s] 29)).cell? ((⟨Z, 0, none⟩ : Addr).add j) = some u) := fun j u hj => by
                    rw [addr_add, ← hZ, cell_of_row _ w7.heap.size j _ 29 (0, 0) (heap_alloc_new w7 _)]; simpa using hj
                  go_upto_region 16 with fail
                  go_wp2_with (at_builtin; refine wpList_append_own _ rfl (.tmp 96) (.tmp 98) 26 rfl (bm + 1) 29 i0 _ 9 72 Try.underlying26 hi hz0 hz1 hz2 rfl (by decide) _ _ _ rfl (hown7.out.alloc _) ⟨Z, 0, none⟩ 1 1 [zI y0, zI y1, zI y2, zI y3, zI y4, zI y5, zI y6, zI r, zI s] rfl rfl HC.out (by simp [Value.oneCell']) (by unfold maxLen; omega) (by omega) (by simp; omega) ?_; intro v' w8 hown8 hg8 hnil; clear hnil; replace hown8 := hidI hown8; replace hg8 := hidI hg8; clear hi hz0 hz1 hz2)
                  have Ba := below_alloc w7 (.cells #[zI y0, zI y1, zI y2, zI y3, zI y4, zI y5, zI y6, zI r, zI s] 29)
                  have hb1 : bm + 1 ≤ w7.heap.size := by omega
                  have hge : ∀ k, (Value.slice av j cv).ownBlock = some k → bm + 1 ≤ k := fun k hk => own_ge hown7.out hk
                  have B8 : Below (bm + 1) w7 w8 := (Ba.mono hb1).grown hg8.out (by simp only [World.alloc, Array.size_push]; omega) hge
                  have hsz8 : bm < w8.heap.size := by have := B8.size; omega
                  refine ⟨⟨j + 1, zs ++ [y0, y1, y2, y3, y4, y5, y6, r, s], by go_num, by omega, ND.out, ?_, B7.out.trans (B8.mono (by omega)), hsz8, rowis_below m7.out B8 (by omega)⟩, by simp [intOf]; omega⟩
                  have h := hown8.out
                  simpa [zcells] using h
                · refine (within49_c (b := false) (by simpa using hc)).mono ?_
                  rintro e w7 ⟨rfl, C7⟩
                  have B7 : Hid (Below bm w w7) := B6.out.trans (C7.mono (by omega))
                  have FIN := hidI (fun w' => dec_bad (base := w.heap.size) (E := E) (w' := w') GR.out (fun h => hc (hy5.out.1 h)) hlt)
                  clear C7 GR B6 r6 m6 hown6 hy5 GR2
                  go_wp2_with fail
                  go_ret2
                  exact ⟨_, _, rfl, by rw [hbm]; exact B7.out, FIN.out _⟩
              · refine (word66_c (b := false) (by simpa using hv)).mono ?_
                rintro e w5 ⟨rfl, C5⟩
                have B5 : Hid (Below bm w w5) := B.out.trans ((D4.trans (C5.mono D4.size)).mono (by omega))
                have FIN := hidI (fun w' => dec_bad (base := w.heap.size) (E := E) (w' := w') GR.out (fun h => hv h.2.2.2.2.2.1) hlt)
                clear D4 C5 xr xs' xs4 GR B
                go_wp2_with fail
                go_ret2
                exact ⟨_, _, rfl, by rw [hbm]; exact B5.out, FIN.out _⟩
            · refine (word66_c (b := false) (by simpa using hw)).mono ?_
              rintro e w4 ⟨rfl, C4⟩
              have B4 : Hid (Below bm w w4) := B.out.trans ((D3.trans (C4.mono D3.size)).mono (by omega))
              have FIN := hidI (fun w' => dec_bad (base := w.heap.size) (E := E) (w' := w') GR.out (fun h => hw h.2.2.2.2.1) hlt)
              clear D3 C4 xr xs' xr3 GR B
              go_wp2_with fail
              go_ret2
              exact ⟨_, _, rfl, by rw [hbm]; exact B4.out, FIN.out _⟩
          · refine (within49_c (b := false) (by simpa using hq)).mono ?_
            rintro e w3 ⟨rfl, C3⟩
            have B3 : Hid (Below bm w w3) := B.out.trans ((D2.trans (C3.mono D2.size)).mono (by omega))
            have FIN := hidI (fun w' => dec_bad (base := w.heap.size) (E := E) (w' := w') GR.out (fun h => hq ⟨h.2.2.1, h.2.2.2.1⟩) hlt)
            clear D2 C3 xr xs' GR B
            go_wp2_with fail
            go_ret2
            exact ⟨_, _, rfl, by rw [hbm]; exact B3.out, FIN.out _⟩
        · refine (within49_c (b := false) (by simpa using hp)).mono ?_
          rintro e w2 ⟨rfl, C2⟩
          have B2 : Hid (Below bm w w2) := B.out.trans ((D0.trans C2).mono (by omega))
          have FIN := hidI (fun w' => dec_bad (base := w.heap.size) (E := E) (w' := w') GR.out (fun h => hp ⟨h.1, h.2.1⟩) hlt)
          clear D0 C2 xr xs' GR B
          go_wp2_with fail
          go_ret2
          exact ⟨_, _, rfl, by rw [hbm]; exact B2.out, FIN.out _⟩
      · obtain rfl : j = k := by omega
        have hltI : ¬ ((4 * j : Nat) : Int) < ((4 * j : Nat) : Int) := by omega
        have hltI' : ¬ 4 * (j : Int) < 4 * (j : Int) := by omega
        have hrow := RowZ.of hown
        replace hown := hidI hown
        replace B := hidI B
        go_wp2_with fail
        refine (H13.out _ _ _ _ _ (by omega) hrow).mono ?_
        rintro e w2 ⟨rfl, C2⟩
        have hrow2 := hrow.below C2
        have B2 : Hid (Below bm w w2) := B.out.trans (C2.mono (by omega))
        replace hrow2 := hidI hrow2
        clear hown B C2 hrow hcm
        obtain ⟨EE, hEE⟩ : ∃ EE, E zs j = EE := ⟨_, rfl⟩
        rw [hEE]
        by_cases hE : EE = 0
        · subst hE
          have FIN : Hid (DecPost w.heap.size xs (4 * j) E (.slice av j cv) 0 w2) := .inr (.inr ⟨by omega, zs, by rw [hdk]; exact hdec, by rw [hdk]; exact hEE.symm, (fun h => absurd rfl h), fun _ => ⟨av, cv, by rw [hdk], by rw [hdk]; exact hrow2.out⟩⟩)
          clear hEE
          go_wp2_with fail
          go_ret2
          exact ⟨_, _, rfl, by rw [hbm]; exact B2.out, FIN.out⟩
        · have hEb : (EE == 0) = false := by simp [hE]
          have FIN : Hid (DecPost w.heap.size xs (4 * j) E (.slice none 0 0) EE w2) := .inr (.inr ⟨by omega, zs, by rw [hdk]; exact hdec, by rw [hdk]; exact hEE.symm, (fun _ => rfl), fun h => absurd h hE⟩)
          clear hEE
          go_wp2_with fail
          go_ret2
          exact ⟨_, _, rfl, by rw [hbm]; exact B2.out, FIN.out⟩
  · have h4I : ¬ ((n : Nat) : Int) % 4 = 0 := by omega
    go_wp2_with fail
    go_ret2
    exact ⟨_, _, rfl, by rw [hbm]; exact B01.out, .inl ⟨h4, rfl, rfl⟩⟩
end Go.Proofs.Yteabbkagekdehaa
