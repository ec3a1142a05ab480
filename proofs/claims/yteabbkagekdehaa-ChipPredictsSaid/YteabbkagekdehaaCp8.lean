/- The code's Counts. -/
import Derived.Test.YteabbkagekdehaaCp4
import Derived.Test.YteabbkagekdehaaPln
set_option linter.unusedVariables false
set_option linter.unusedSimpArgs false
set_option maxRecDepth 100000
namespace Go.Proofs.Yteabbkagekdehaa
open Go.AE Go.RowKit Go.IntWalk
/-- what Counts leaves -/
def CntPost (E : Int) (F : Nat → Nat) (v : Value) (w' : World) : Prop := (E ≠ 0 → v = .slice none 0 0) ∧ (E = 0 → ∃ g, v = .slice (some ⟨g, 0, none⟩) 20 20 ∧ g < w'.heap.size ∧ RowAt g 20 (fun k => (F k : Nat)) w')
theorem sumK_take {op : Nat → Int} {TL : List Nat} {j k : Nat} (h : j < TL.length) : sumK op 0 (TL.take (j + 1)) k = sumK op 0 (TL.take j) k + (if op j = k then TL.getD j 0 else 0) := by
  rw [List.take_add_one, List.getElem?_eq_getElem h, Option.toList_some, sumK_append]
  rw [show 0 + (TL.take j).length = j by rw [List.length_take]; omega]
  simp only [sumK, Nat.add_zero]
  rw [List.getD_eq_getElem?_getD, List.getElem?_eq_getElem h, Option.getD_some]
set_option maxHeartbeats 4000000 in
theorem counts_c {w : World} {a : Option Addr} {n cap : Nat} {zs : List Int} (hr : RowZ w a n zs) (hn : n ≤ 100000) {m0 m1 m2 m3 m4 E : Int}
    (h13 : ∀ w a cap, RowZ w a n zs → Calls Try.prog 13 #[mV m0 m1 m2 m3 m4, .slice a n cap] w fun en w' => en = .returned (zI E) ∧ Below w.heap.size w w')
    {TL : List Nat} (hT : E = 0 → tl (opZ zs) (mZ zs) n 0 [1] = TL ∧ TL.length = n ∧ TL.sum ≤ 40000000 ∧ (∀ i, i < n → 1 ≤ opZ zs i ∧ opZ zs i ≤ 19) ∧ ∀ i, i < n → opZ zs i = 3 → 0 ≤ mZ zs i ∧ mZ zs i ≤ 1000000) :
    Calls Try.prog 39 #[mV m0 m1 m2 m3 m4, .slice a n cap] w fun en w' => ∃ v, en = .returned (.tuple #[v, zI E]) ∧ Below w.heap.size w w' ∧ CntPost E (sumK (opZ zs) 0 TL) v w' := by
  unfold mV at *
  obtain ⟨bm, hbm⟩ : ∃ bm, w.heap.size = bm := ⟨_, rfl⟩
  have H13 : Hid _ := h13
  have HT : Hid _ := hT
  have hm20 : ∀ w, (Instr.makeSlice 22 (.int .i64 20) (.int .i64 20)).run Try.prog w = .ok (.slice (some ⟨w.heap.size, 0, none⟩) 20 20) (w.alloc (.cells (madeCells #[.int .i64 0] 20) 3)) := make_int2 20 (by omega)
  clear h13 hT
  go_enter Try.func39, Try.ntmps39
  go_wp2_with fail
  have B0 := below_alloc w (.cells #[zI m0, zI m1, zI m2, zI m3, zI m4] 36)
  refine (H13.out _ _ _ (hr.below B0)).mono ?_
  rintro en w1 ⟨rfl, B1⟩
  have B01 := B0.trans (B1.mono B0.size)
  rw [hbm] at B01
  replace B01 := hidI B01
  clear B0 B1
  by_cases hE : E = 0
  · subst hE
    obtain ⟨hTL, hTn, hTs, hop, hM⟩ := HT.out rfl
    obtain ⟨go', hgo⟩ : ∃ go', w1.heap.size = go' := ⟨_, rfl⟩
    have hz1 : bm ≤ go' := by have := B01.out.size; omega
    have hB2 := below_alloc w1 (.cells (madeCells #[.int .i64 0] 20) 3)
    have hR2 := made_row2 (heap_alloc_new w1 (.cells (madeCells #[.int .i64 0] 20) 3))
    have hz2 : (w1.alloc (.cells (madeCells #[.int .i64 0] 20) 3)).heap.size = go' + 1 := by simp only [World.alloc, Array.size_push]; omega
    have hr1 := hr.below (by rw [hbm]; exact B01.out)
    have htu := turns_c (w := w1.alloc (.cells (madeCells #[.int .i64 0] 20) 3)) (cap := cap) (hr1.below hB2) hn hTL hTn hM
    rw [hz2] at htu
    replace hTL := hidI hTL
    replace hop := hidI hop
    replace hr1 := hidI hr1
    replace hR2 := hidI hR2
    replace hB2 := hidI hB2
    clear hM HT
    go_wp2_with fail
    refine htu.mono ?_
    rintro en w4 ⟨rfl, hrow4, B4⟩
    have B4' := B4
    rw [← hz2] at B4'
    have B24 := hB2.out.trans (B4'.mono (by omega))
    have hgo4 : RowAt go' 20 (fun _ => 0) w4 := by
      have h := RowAt.block hR2.out (B4'.block w1.heap.size (by rw [hz2]; omega))
      rw [hgo] at h
      exact h
    have hr4 := hr1.out.below B24
    have B04 : Below bm w w4 := B01.out.trans (B24.mono (by omega))
    have hz4 : go' < w4.heap.size := by have := B4.size; omega
    have hap : n = 0 ∨ ∃ g, a = some ⟨g, 0, none⟩ ∧ g < go' := by
      rcases hr1.out with h | ⟨g, h1, h2, _⟩
      · exact .inl h
      · exact .inr ⟨g, h1, by omega⟩
    replace hr4 := hidI hr4
    replace B04 := hidI B04
    replace hrow4 := hidI hrow4
    obtain ⟨F, hF⟩ : ∃ F, sumK (opZ zs) 0 TL = F := ⟨_, rfl⟩
    replace hF := hidI hF
    clear htu hm20 B4 B4' B24 hR2 hB2 hr1 B01
    go_wp2_with fail
    go_loopw [20] (fun v20 wr => ∃ j : Nat, v20 = zI j ∧ j ≤ n ∧ RowAt go' 20 (fun k => (sumK (opZ zs) 0 (TL.take j) k : Nat)) wr ∧ Oth go' w4 wr)
      (fun v20 _ => n - (intOf v20).toNat)
    case atStart => exact ⟨0, rfl, Nat.zero_le _, hgo4.congr (fun k _ => by simp [sumK]), Oth.refl _ _⟩
    case round =>
      obtain ⟨j, rfl, hj, hrow, O⟩ := hrel
      clear hgo4
      by_cases hlt : j < n
      · have hltI : (j : Int) < (n : Int) := by omega
        rcases hap with h0 | ⟨g, rfl, hgg⟩
        · omega
        have hcz : w4.cell? ⟨g, j * 9, none⟩ = some (zI (opZ zs j)) := by
          rcases hr4.out with h0 | ⟨g', e, _, hc⟩
          · omega
          · cases e; exact hc _ (by omega)
        obtain ⟨o1, o2⟩ := hop.out j hlt
        obtain ⟨o, ho⟩ : ∃ o : Nat, opZ zs j = o := ⟨(opZ zs j).toNat, by omega⟩
        have ho20 : o < 20 := by omega
        have hoI : (o : Int) < 20 := by omega
        rw [ho] at hcz
        have xc : wr.cell? ⟨g, j * 9, none⟩ = some (zI (o : Int)) := by rw [O.cell (by show g < _; omega) (by show g ≠ go'; omega)]; exact hcz
        obtain ⟨y, hy⟩ : ∃ y, TL.getD j 0 = y := ⟨_, rfl⟩
        have hct : w4.cell? ⟨go' + 1, j, none⟩ = some (zI (y : Int)) := by rw [← hy]; exact (hrow4.out j hlt).1
        have xt : wr.cell? ⟨go' + 1, j, none⟩ = some (zI (y : Int)) := by rw [O.cell (cell_lt hct) (by show go' + 1 ≠ go'; omega)]; exact hct
        obtain ⟨u, hu⟩ : ∃ u, sumK (opZ zs) 0 (TL.take j) o = u := ⟨_, rfl⟩
        have xo : wr.cell? ⟨go', o, none⟩ = some (zI (u : Int)) := by rw [← hu]; exact (hrow o ho20).1
        have fo : wr.frozen? ⟨go', o, none⟩ = false := (hrow o ho20).2
        have hub : u + y ≤ 40000000 := by
          have h1 := sumK_take (op := opZ zs) (TL := TL) (j := j) (k := o) (by omega)
          rw [hu, hy, if_pos ho] at h1
          have h2 := sumK_le (opZ zs) o (TL.take (j + 1)) 0
          have h3 := take_sum_le TL (j + 1)
          omega
        have NR := hrow.set ho20 ((u + y : Nat) : Int)
        have NR2 : Hid (RowAt go' 20 (fun k => (sumK (opZ zs) 0 (TL.take (j + 1)) k : Nat)) (wr.setCell ⟨go', o, none⟩ (zI ((u + y : Nat) : Int)))) := NR.congr (fun k hk => by
          rw [sumK_take (by omega), hy, ho]
          by_cases e : k = o
          · subst e; rw [if_pos rfl, hu, if_pos rfl]
          · rw [if_neg e, if_neg (by omega)]; simp)
        have NO : Hid (Oth go' w4 (wr.setCell ⟨go', o, none⟩ (zI ((u + y : Nat) : Int)))) := O.trans (oth_setCell _ _ _ _)
        have hadd : ((u + y : Nat) : Int) = (u : Int) + (y : Int) := by omega
        rw [hadd] at NR2 NO
        clear NR hrow O hcz hct hadd hy hu
        go_wp2_with fail
        go_roundw
        case rel => exact ⟨j + 1, by go_num, by omega, NR2.out, NO.out⟩
        case measure => simp [intOf]; omega
      · obtain rfl : j = n := by omega
        have hltI : ¬ (j : Int) < (j : Int) := by omega
        rw [List.take_of_length_le (by omega), hF.out] at hrow
        have FIN : Hid (Below bm w wr ∧ CntPost 0 F (.slice (some ⟨go', 0, none⟩) 20 20) wr) := ⟨B04.out.trans (O.below (Nat.le_trans hz1 (Nat.le_refl _)) (by omega)), (fun h => absurd rfl h), fun _ => ⟨go', rfl, by have := O.size; omega, hrow⟩⟩
        clear hrow O
        go_wp2_with fail
        go_ret2
        exact ⟨_, rfl, by first | exact FIN.out.1 | (rw [hbm]; exact FIN.out.1), by first | exact FIN.out.2 | (rw [hF.out]; exact FIN.out.2)⟩
  · have hEb : (E == 0) = false := by simp [hE]
    clear hm20
    go_wp2_with fail
    go_ret2
    exact ⟨_, rfl, by rw [hbm]; exact B01.out, (fun _ => rfl), fun h => absurd h hE⟩
end Go.Proofs.Yteabbkagekdehaa
