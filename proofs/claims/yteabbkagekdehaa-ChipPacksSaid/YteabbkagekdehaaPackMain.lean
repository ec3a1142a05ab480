/- ChipPacks: whatever the list of numbers, the call returns true and turns nothing that was there. -/
import Derived.Test.YteabbkagekdehaaPack9
import Derived.Test.YteabbkagekdehaaPairs
import Derived.Test.YteabbkagekdehaaRegMain
set_option linter.unusedVariables false
set_option linter.unusedSimpArgs false
namespace Go.Proofs.Yteabbkagekdehaa
open Go.AE Go.RowKit Go.IntWalk Go.PackLaw
theorem pack_join {n m : Nat} {S PA PB : Nat → Int} {K C : Int} {w w' : World} {gv : Value} {c err err2 : Int} (h1 : PPost n m S PA PB K C w w' gv c err) (h2 : FPost n m S PA PB K C err2) :
    (err ≠ 0 ∧ err2 = err ∧ gv = .slice none 0 0 ∧ c = 0) ∨ (err = 0 ∧ err2 = 0 ∧ Cls n m S PA PB K C 0 ∧ ∃ (l : Int) (BL : List Nat), 0 ≤ l ∧ c = l ∧ Res (PPof m PA PB) S C K.toNat n [] (fun _ => 0) K.toNat (-1) l [] BL ∧ w'.ownsRow w.heap.size 3 1 gv n (ints BL)) := by
  rcases h1 with ⟨a1, a2, rfl, rfl⟩ | ⟨a1, l, BL, a2, a3⟩
  · rcases h2 with ⟨b1, b2⟩ | ⟨b1, _⟩
    · exact .inl ⟨a2, b1.eq a1, rfl, rfl⟩
    · exact absurd (a1.eq b1) a2
  · rcases h2 with ⟨b1, b2⟩ | ⟨b1, l2, b', b2, rfl⟩
    · exact absurd (b1.eq a1) b2
    · have e := Res.uniq a2 b2
      subst e
      rcases a3 with ⟨q1, rfl, rfl, rfl⟩ | ⟨q1, rfl, rfl, q2⟩
      · exact .inl ⟨by decide, by rw [if_pos q1], rfl, rfl⟩
      · exact .inr ⟨rfl, by rw [if_neg (by omega)], a1, c, BL, q1, rfl, a2, q2⟩
theorem Lie.of {n m : Nat} {aS aP : Option Addr} {cS cP : Nat} {L : List Int} {PV : List (Int × Int)} {b1 b2 : Nat} {w : World} (hn : L.length = n) (hm : PV.length = m) (h1 : w.ownsRow b1 3 1 (.slice aS n cS) n (L.map (Value.int .i64))) (h2 : w.ownsRow b2 83 2 (.slice aP m cP) m (pcells PV)) :
    Lie n m aS aP (fun t => L.getD t 0) (fun j => (PV.getD j (0, 0)).1) (fun j => (PV.getD j (0, 0)).2) w := by
  subst hn hm
  refine ⟨fun t ht => ?_, fun j hj => ?_⟩
  · rcases h1.2 with ⟨_, h0⟩ | ⟨g, cap, cur, hv, _⟩
    · omega
    · simp only [Value.slice.injEq] at hv
      obtain ⟨rfl, _⟩ := hv
      refine ⟨g, rfl, (h1.lt g rfl).2, ?_⟩
      rw [h1.cellAt t (by omega)]
      simp [List.getD, ht]
  · rcases h2.2 with ⟨_, h0⟩ | ⟨g, cap, cur, hv, _⟩
    · omega
    · simp only [Value.slice.injEq] at hv
      obtain ⟨rfl, _⟩ := hv
      obtain ⟨q1, q2⟩ := pcells_get PV j hj
      exact ⟨g, rfl, (h2.lt g rfl).2, by rw [h2.cellAt _ (by omega)]; exact q1, by rw [h2.cellAt _ (by omega)]; exact q2⟩
set_option maxHeartbeats 3000000 in
set_option maxRecDepth 10000 in
theorem pack_main (r : Raw) {w : World} (hJ : r.J μ0 w) : Calls Try.prog 4 #[.slice r.a r.len r.cap] w fun e w' => e = .returned (.bool true) ∧ Go.RowKit.Below w.heap.size w w' := by
  have S0 := Strm.start r hJ 25
  obtain ⟨B, hB⟩ : ∃ B, w.heap.size = B := ⟨_, rfl⟩
  have B0 : Go.RowKit.Below B w (w.alloc (.cells #[.slice r.a r.len r.cap, .int .i64 0] 25)) := by rw [← hB]; exact below_alloc w _
  have hs0 : (w.alloc (.cells #[.slice r.a r.len r.cap, .int .i64 0] 25)).heap.size = B + 1 := by simp [hB]
  rw [hB] at S0 ⊢
  generalize hra : r.a = ra at *
  generalize hrl : r.len = rl at *
  generalize hrc : r.cap = rc at *
  clear hra hrl hrc hJ
  obtain ⟨wa, hwa⟩ : ∃ wa, w.alloc (.cells #[.slice ra rl rc, .int .i64 0] 25) = wa := ⟨_, rfl⟩
  rw [hwa] at S0 B0 hs0
  obtain ⟨i0, hi, hz0, hz1, hz2⟩ := info_parts info3
  go_enter Try.func4, Try.ntmps4
  go_wp2_with fail
  rw [← hs0]
  refine (pick_n (w := wa) (n := 9) [0, 1, 2, 3, 4, 5, 6, 6, 7] S0 (by omega) rfl (by decide) (by decide) rfl).mono ?_
  rintro e w1 ⟨v1, rfl, hv1, S1, O1⟩
  obtain ⟨N, rfl⟩ : ∃ N : Nat, v1 = N := ⟨v1.toNat, by simp at hv1; omega⟩
  have hN : N ≤ 7 := by simp at hv1; omega
  have B1 : Go.RowKit.Below B w w1 := B0.trans (O1.below (Nat.le_refl _) (by omega))
  have hsz1 : B + 1 ≤ w1.heap.size := by have := O1.size; omega
  clear S0 B0 hwa O1 hv1
  go_wp2_with fail
  go_loopw [4, 21] (fun v i wr => ∃ (j k1 : Nat) (L : List Int), i = .int .i64 j ∧ L.length = j ∧ j ≤ N ∧ k1 ≤ 1 + 2 * j ∧ Hid (wr.ownsRow (B + 1) 3 1 v j (L.map (Value.int .i64))) ∧ Hid (Strm r B B k1 wr) ∧ B + 1 ≤ wr.heap.size ∧ Hid (Go.RowKit.Below B w wr))
    (fun _ i _ => N - (intOf i).toNat)
  case atStart => exact ⟨0, 1, [], rfl, rfl, by omega, by omega, World.ownsRow_nil _ _ _ _, S1, hsz1, B1⟩
  case round =>
    clear S1 B1 hsz1 hs0
    obtain ⟨j, k1, L, rfl, hL, hj, hk1, hown, S3, hsz, B3⟩ := hrel
    obtain ⟨a, c, rfl⟩ := ownsRow_shape hown.out
    by_cases hlt : j < N
    · have hz : (j : Int) < (N : Int) := by omega
      go_wp2_with fail
      refine (pick_n (n := 5) [1, 2, 3, 5, 8] S3.out (by omega) rfl (by decide) (by decide) rfl).mono ?_
      rintro e w4 ⟨x, rfl, hx, S4, O4⟩
      have hown4 := ownsRow_oth hown.out O4 (by omega)
      have hsz4 := O4.size
      have B4 : Go.RowKit.Below B w w4 := B3.out.trans (O4.below (Nat.le_refl _) (by omega))
      have HL : Hid (L.length = j) := hL
      clear hx hL S3 B3 hown O4
      go_wp2_with (at_builtin; refine wpList_append_own _ rfl (.tmp 23) (.tmp 27) 22 rfl (B + 1) 3 i0 _ 1 8 Try.underlying22 hi hz0 hz1 hz2 rfl (by decide) _ _ _ rfl (hown4.alloc _) ⟨w4.heap.size, 0, none⟩ 1 1 [.int .i64 x] rfl rfl (by intro j u hj; match j, hj with | 0, hj => (simp at hj; subst hj; simp [Addr.add])) (by simp [Value.oneCell']) (by unfold maxLen; omega) (by omega) (by simp; omega) ?_; intro v' w8 hown8 hg8 hnil)
      have hrow : ∀ k, (Value.slice a j c).ownBlock = some k → B + 1 ≤ k := fun k hk => (hown4.lt k hk).1
      have S9 : Hid (Strm r B B (k1 + 1) w8) := (S4.below (below_alloc w4 _)).grown hg8 fun k hk => hrow k hk
      have B9 : Hid (Go.RowKit.Below B w w8) := (B4.alloc (by omega) _).grown hg8 (by simp; omega) (fun k hk => by have := hrow k hk; omega)
      have hs9 := hg8.size
      have HO8 : Hid (w8.ownsRow (B + 1) 3 1 v' (j + 1) ((L ++ [x]).map (Value.int .i64))) := by
        show w8.ownsRow (B + 1) 3 1 v' (j + 1) _
        simpa using hown8
      have hs10 : B + 1 ≤ w8.heap.size := by simp at hs9; omega
      clear hg8 hnil hown8 hown4 S4 B4 hrow hs9 hsz4
      go_roundw
      case rel => exact ⟨j + 1, k1 + 1, L ++ [x], by go_num, by simp; exact HL.out, by omega, by omega, HO8.out, S9.out, hs10, B9.out⟩
      case measure => simp [intOf]; omega
    · have hz : ¬ (j : Int) < (N : Int) := by omega
      have hjN : N = j := by omega
      subst hjN
      go_wp2_with fail
      focus
        (refine (flip_c S3.out (by omega) (by omega) (by omega)).mono ?_
         rintro e w3 ⟨b, rfl, S4, O4, -⟩
         have hpos : 0 < N := by assumption
         have hown4 := ownsRow_oth hown.out O4 (by omega)
         have hsz4 := O4.size
         have B4 : Go.RowKit.Below B w w3 := B3.out.trans (O4.below (Nat.le_refl _) (by omega))
         clear S3 hown B3 O4
         cases b)
      focus
        (go_wp2_with fail
         have S5 : Hid (Strm r B B (k1 + 1) w3) := S4
         have H5 : Hid (w3.ownsRow (B + 1) 3 1 (.slice a N c) N (L.map (Value.int .i64))) := hown4
         have B5 : Hid (Go.RowKit.Below B w w3) := B4
         have hs5 : B + 1 ≤ w3.heap.size := by omega
         obtain ⟨L5, hL5⟩ : ∃ L5, L5 = L := ⟨_, rfl⟩
         rw [← hL5] at H5 hL
         clear hL5 S4 hown4 B4 hsz4
         obtain ⟨k5, hk5⟩ : ∃ k5, k1 + 1 = k5 := ⟨_, rfl⟩
         rw [hk5] at S5)
      rotate_left
      focus
        (go_wp2_with fail
         refine (pick_n (n := 4) [0, 4096, 4097, -1] S4 (by omega) rfl (by decide) (by decide) rfl).mono ?_
         rintro e w6 ⟨z, rfl, hz, S6, O6⟩
         have hown6 := ownsRow_oth hown4 O6 (by omega)
         have hsz6 := O6.size
         have B6 : Go.RowKit.Below B w w6 := B4.trans (O6.below (Nat.le_refl _) (by omega))
         obtain ⟨g, rfl⟩ : ∃ g, a = some ⟨g, 0, none⟩ := by
           rcases hown6.2 with ⟨h, h0⟩ | ⟨g, cap, cur, h, _⟩
           · omega
           · simp only [Value.slice.injEq] at h; exact ⟨g, h.1⟩
         have hgb : B + 1 ≤ g := (hown6.lt g rfl).1
         have hc1 : ∃ u, w6.cell? ⟨g, 0, none⟩ = some u := by
           rw [hown6.cellAt 0 (by omega)]
           exact ⟨_, List.getElem?_eq_getElem (by rw [List.length_map]; omega)⟩
         obtain ⟨u, hc1⟩ := hc1
         have f1 : w6.frozen? ⟨g, 0, none⟩ = false := hown6.frozenAt _
         have hz0' : (0 : Int) < (N : Int) := by omega
         obtain ⟨r1, g1⟩ := hown6.stored 0 (.int .i64 z)
         have hset : (L.map (Value.int .i64)).set 0 (.int .i64 z) = (L.set 0 z).map (Value.int .i64) := by rw [List.map_set]
         rw [hset] at r1
         have HR1 : Hid _ := r1
         have HG1 : Hid _ := g1
         have S7 : Hid (Strm r B B (k1 + 1 + 1) (w6.setCell ⟨g, 0, none⟩ (.int .i64 z))) := S6.grown HG1.out (fun k hk => by simp only [Option.some.injEq] at hk; omega)
         have B7 : Hid (Go.RowKit.Below B w (w6.setCell ⟨g, 0, none⟩ (.int .i64 z))) := below_set B6 _ _ (by omega) _
         have hs7 : B + 1 ≤ (w6.setCell ⟨g, 0, none⟩ (.int .i64 z)).heap.size := by rw [size_set]; omega
         have hsz7 : Hid (B + 1 ≤ (w6.setCell ⟨g, 0, none⟩ (.int .i64 z)).heap.size) := hs7
         clear r1 g1 hset hown6 S6 B6 O6 hs7 hz S4 hown4 B4
         go_wp2_with fail
         have S5 : Hid (Strm r B B (k1 + 1 + 1) (w6.setCell ⟨g, 0, none⟩ (.int .i64 z))) := S7
         have H5 : Hid ((w6.setCell ⟨g, 0, none⟩ (.int .i64 z)).ownsRow (B + 1) 3 1 (.slice (some ⟨g, 0, none⟩) N c) N ((L.set 0 z).map (Value.int .i64))) := HR1
         have B5 : Hid (Go.RowKit.Below B w (w6.setCell ⟨g, 0, none⟩ (.int .i64 z))) := B7
         have hs5 : B + 1 ≤ (w6.setCell ⟨g, 0, none⟩ (.int .i64 z)).heap.size := hsz7.out
         have hLs : (L.set 0 z).length = N := by rw [List.length_set]; exact hL
         clear hc1 f1 HR1 HG1 S7 B7 hsz7 hL hsz4 hsz6
         obtain ⟨L5, hL5⟩ : ∃ L5, L5 = L.set 0 z := ⟨_, rfl⟩
         rw [← hL5] at H5 hLs
         have hL := hLs
         clear hL5 hLs
         obtain ⟨k5, hk5⟩ : ∃ k5, k1 + 1 + 1 = k5 := ⟨_, rfl⟩
         rw [hk5] at S5
         generalize w6.setCell ⟨g, 0, none⟩ (.int .i64 z) = w7 at S5 H5 B5 hs5 ⊢)
      rotate_left
      focus
        (have S5 : Hid (Strm r B B k1 wr) := S3
         have H5 : Hid (wr.ownsRow (B + 1) 3 1 (.slice a N c) N (L.map (Value.int .i64))) := hown
         have B5 : Hid (Go.RowKit.Below B w wr) := B3
         have hs5 : B + 1 ≤ wr.heap.size := hsz
         obtain ⟨L5, hL5⟩ : ∃ L5, L5 = L := ⟨_, rfl⟩
         rw [← hL5] at H5 hL
         clear hL5 S3 hown B3 hsz
         obtain ⟨k5, hk5⟩ : ∃ k5, k1 = k5 := ⟨_, rfl⟩
         rw [hk5] at S5)
      all_goals
        refine (pairs_c S5.out (by omega) (by omega) (by omega)).mono ?_
        rintro e w8 ⟨aP, capP, PV, k8, rfl, hPV, hownP, S8, hk8, O8⟩
        have H8 : Hid (w8.ownsRow (B + 1) 3 1 (.slice _ N c) N (L5.map (Value.int .i64))) := ownsRow_oth H5.out O8 (by omega)
        have B8 : Go.RowKit.Below B w w8 := B5.out.trans (O8.below (Nat.le_refl _) (by omega))
        have hs8 : B + 1 ≤ w8.heap.size := by have := O8.size; omega
        have HP8 : Hid (w8.ownsRow (B + 1) 83 2 (.slice aP PV.length capP) PV.length (pcells PV)) := ownsRow_base hownP hs5
        have HPL : Hid (PV.length ≤ 6) := hPV
        clear S5 H5 B5 hs5 hownP O8
        obtain ⟨m, hm⟩ : ∃ m, PV.length = m := ⟨_, rfl⟩
        have HM : Hid (PV.length = m) := hm
        have hm6 : m ≤ 6 := by rw [← hm]; exact hPV
        rw [hm] at HP8
        rw [hm]
        clear hm hPV
        have HLL : Hid (L5.length = N) := hL
        clear hL
        go_wp2_with fail
        refine (pick_n (n := 8) [1, 2, 2, 3, 4, 8, 0, 9] S8 (by omega) rfl (by decide) (by decide) rfl).mono ?_
        rintro e w9 ⟨K, rfl, hK, S9, O9⟩
        have H9 : Hid (w9.ownsRow (B + 1) 3 1 (.slice _ N c) N (L5.map (Value.int .i64))) := ownsRow_oth H8.out O9 (by omega)
        have HP9 : Hid (w9.ownsRow (B + 1) 83 2 (.slice aP m capP) m (pcells PV)) := ownsRow_oth HP8.out O9 (by omega)
        have B9 : Go.RowKit.Below B w w9 := B8.trans (O9.below (Nat.le_refl _) (by omega))
        have hs9 : B + 1 ≤ w9.heap.size := by have := O9.size; omega
        clear H8 HP8 S8 O9 B8 hs8 hK
        go_wp2_with fail
        refine (pick_n (n := 8) [3, 6, 8, 10, 16, 4096, 0, 4097] S9 (by omega) rfl (by decide) (by decide) rfl).mono ?_
        rintro e w10 ⟨C, rfl, hC, S10, O10⟩
        have H10 : Hid (w10.ownsRow (B + 1) 3 1 (.slice _ N c) N (L5.map (Value.int .i64))) := ownsRow_oth H9.out O10 (by omega)
        have HP10 : Hid (w10.ownsRow (B + 1) 83 2 (.slice aP m capP) m (pcells PV)) := ownsRow_oth HP9.out O10 (by omega)
        have B10 : Hid (Go.RowKit.Below B w w10) := B9.trans (O10.below (Nat.le_refl _) (by omega))
        have hs10 : B ≤ w10.heap.size := by have := O10.size; omega
        clear H9 HP9 S9 O10 B9 hs9 hC S10
        have hlie := Lie.of HLL.out HM.out H10.out HP10.out
        have hpk := pack_c (capS := c) (capP := capP) (K := K) (C := C) hlie (by omega) (by omega)
        have HLIE : Hid _ := hlie
        clear hlie H10 HP10
        go_wp2_with fail
        refine hpk.mono ?_
        rintro e w11 ⟨gv, cc, err, rfl, B11, hpost⟩
        have hlie2 := HLIE.out.below B11
        have hft := fault_c (capS := c) (capP := capP) (K := K) (C := C) hlie2 (by omega) (by omega)
        have HPOST : Hid _ := hpost
        clear hpk hlie2 hpost
        go_wp2_with fail
        refine hft.mono ?_
        rintro e w12 ⟨err2, rfl, hf, B12⟩
        have hB12 : Hid (Go.RowKit.Below w10.heap.size w10 w12) := B11.trans (B12.mono B11.size)
        have hLast : Hid (∀ w', Go.RowKit.Below w10.heap.size w10 w' → Go.RowKit.Below B w w') := fun w' b => B10.out.trans (b.mono hs10)
        have hB1112 : Hid (Go.RowKit.Below w11.heap.size w11 w12) := B12
        rcases pack_join HPOST.out hf with ⟨j1, rfl, rfl, rfl⟩ | ⟨rfl, rfl, j3, l, BL, j4, rfl, j5, j6⟩
        · clear hf HPOST hft B11 B12
          have j1z : ¬ err2 = 0 := j1
          go_wp2_with fail
          refine (chips_calls _).mono ?_
          rintro e w13 ⟨rfl, B13⟩
          have HB13 : Hid _ := B13
          clear B13
          go_wp2_with fail
          go_ret
          exact ⟨rfl, hLast.out _ (hB12.out.trans (HB13.out.mono hB12.out.size))⟩
        · clear hf HPOST hft
          obtain ⟨hn6, hKC, hSok, hPok⟩ : N ≤ 6 ∧ (1 ≤ K ∧ K ≤ 8 ∧ 1 ≤ C ∧ C ≤ 4096) ∧ (∀ t, t < N → ¬ BadS (fun t => L5.getD t 0) t) ∧ (∀ j, j < m → ¬ BadP N (fun j => (PV.getD j (0, 0)).1) (fun j => (PV.getD j (0, 0)).2) j) := by
            cases j3
            exact ⟨by assumption, by assumption, by assumption, by assumption⟩
          obtain ⟨Kn, rfl⟩ : ∃ Kn : Nat, K = Kn := ⟨K.toNat, by omega⟩
          rw [Int.toNat_natCast] at j5
          rcases j5.same with ⟨q1, _⟩ | ⟨A, a1', a2, a3', a4⟩
          · omega
          have hBA : BL = A := by simpa using a4
          subst hBA
          have a1 : BL.length = N := by simpa using a1'
          have a3 : cc = (tog (PPof m (fun j => (PV.getD j (0, 0)).1) (fun j => (PV.getD j (0, 0)).2)) (asn BL) : Int) := by simpa using a3'
          clear a1' a3'
          have HG : Hid (Giv N Kn (fun t => L5.getD t 0) C (PPof m (fun j => (PV.getD j (0, 0)).1) (fun j => (PV.getD j (0, 0)).2))) := by
            have h := giv_of hn6 (by omega) hKC hSok hPok
            rw [Int.toNat_natCast] at h
            exact h
          have HPOK : Hid _ := hPok
          have L12 := HLIE.out.below hB12.out
          have gown := ownsRow_below j6 hB1112.out
          obtain ⟨ag, cg, rfl⟩ := ownsRow_shape gown
          have G12 : Hid (∀ t, t < N → ∃ g, ag = some ⟨g, 0, none⟩ ∧ g < w12.heap.size ∧ w12.cell? ⟨g, t, none⟩ = some (.int .i64 (asn BL t))) := fun t ht => by
            rcases gown.2 with ⟨_, h0⟩ | ⟨g, cap, cur, hv, _⟩
            · omega
            · simp only [Value.slice.injEq] at hv
              obtain ⟨rfl, _⟩ := hv
              refine ⟨g, rfl, (gown.lt g rfl).2, ?_⟩
              rw [gown.cellAt t (by omega)]
              simp [ints, asn, List.getD, a1, ht]
          have HL12 : Hid _ := L12
          have HJ5 : Hid _ := j5
          have HFE : Hid (Feas (fun t => L5.getD t 0) C Kn 0 (fun _ => 0) BL) := a2
          have HA1 : Hid (BL.length = N) := a1
          have HA3 : Hid (cc = (tog (PPof m (fun j => (PV.getD j (0, 0)).1) (fun j => (PV.getD j (0, 0)).2)) (asn BL) : Int)) := a3
          have hm2 := make_int Kn (by omega)
          clear j3 j4 j5 j6 a1 a2 a3 a4 L12 gown hSok hPok HLIE B11 B12 hB1112
          go_wp2_with fail
          refine (chips_calls _).mono ?_
          rintro e w13 ⟨rfl, B13⟩
          obtain ⟨G, hG⟩ : ∃ G, w13.heap.size = G := ⟨_, rfl⟩
          have hG12 : w12.heap.size ≤ G := by have := B13.size; omega
          have HB13 : Hid (Go.RowKit.Below w12.heap.size w12 w13) := B13
          have hneN : ((N : Int) == (N : Int)) = true := by simp
          clear B13
          go_wp2_with fail
          go_loopw [101] (fun ib wr => ∃ (i : Nat) (U : Nat → Int), ib = .int .i64 i ∧ i ≤ N ∧ Hid (Feas (fun t => L5.getD t 0) C Kn i U (BL.drop i)) ∧ Hid (∀ t, t < Kn → 0 ≤ U t ∧ U t ≤ C) ∧ Hid (RowAt G Kn U wr) ∧ Hid (Go.RowKit.Below w12.heap.size w12 wr)) (fun ib _ => N - (intOf ib).toNat)
          case atStart =>
            refine ⟨0, fun _ => 0, rfl, by omega, HFE.out, fun t _ => by simp only; omega, made_row (by rw [← hG]; exact heap_alloc_new w13 _), HB13.out.alloc HB13.out.size _⟩
          case round =>
            clear HB13 hG hm2
            obtain ⟨i, U, rfl, hi', hF, hUb, hrow, hB⟩ := hrel
            by_cases hlt : i < N
            · have hz : (i : Int) < (N : Int) := by omega
              obtain ⟨g3, rfl, hg3, e3⟩ := G12.out i hlt
              obtain ⟨gS, hgSe, hgS, eS⟩ := HL12.out.s i hlt
              have hdrop : BL.drop i = asn BL i :: BL.drop (i + 1) := by
                have h := HA1.out
                rw [List.drop_eq_getElem_cons (by omega)]
                simp [asn, List.getD, show i < BL.length by omega]
              have hF' := hF.out
              rw [hdrop] at hF'
              obtain ⟨f1, f2, f3⟩ := hF'
              obtain ⟨b, hb⟩ : ∃ b, asn BL i = b := ⟨_, rfl⟩
              rw [hb] at f1 f2 f3 e3
              have f3 : Feas (fun t => L5.getD t 0) C Kn (i + 1) (up U b (U b + L5.getD i 0)) (BL.drop (i + 1)) := f3
              have hub := hUb.out b f1
              have e3' : wr.cell? ⟨g3, i, none⟩ = some (.int .i64 b) := by rw [hB.out.cell (by exact hg3)]; exact e3
              have eS' : wr.cell? ⟨gS, i, none⟩ = some (.int .i64 (L5.getD i 0)) := by rw [hB.out.cell (by exact hgS)]; exact eS
              obtain ⟨eU, fU⟩ := hrow.out b f1
              have hs1 := HG.out.s i hlt
              simp only at f2 hs1
              obtain ⟨sv, hsv⟩ : ∃ sv, L5.getD i 0 = sv := ⟨_, rfl⟩
              rw [hsv] at f2 f3 eS' hs1
              have t1 : ¬ (b : Int) < 0 := by omega
              have t2 : ¬ (Kn : Int) ≤ (b : Int) := by omega
              have t3 : (b : Int) < (Kn : Int) := by omega
              have HF3 : Hid _ := f3
              have HB0 : Hid (b < Kn) := f1
              clear e3 eS hdrop f3 hF hb
              obtain ⟨aS5, haS5⟩ : ∃ q, q = (⟨gS, 0, none⟩ : Addr) := ⟨_, rfl⟩
              first
                | (obtain rfl := hgSe)
                | (obtain rfl : _ = gS := by simpa using hgSe)
                | skip
              clear haS5
              have hrow9 : Hid (RowAt G Kn (up U b (U b + sv)) (wr.setCell ⟨G, b, none⟩ (.int .i64 (U b + sv))).drew) := hrow.out.set HB0.out (U b + sv)
              have hB9 : Hid (Go.RowKit.Below w12.heap.size w12 (wr.setCell ⟨G, b, none⟩ (.int .i64 (U b + sv))).drew) := below_drew1 (below_set hB.out _ _ (by omega) _)
              have hUb9 : Hid (∀ t, t < Kn → 0 ≤ up U b (U b + sv) t ∧ up U b (U b + sv) t ≤ C) := fun t ht => by
                unfold up
                by_cases e : t = b
                · simp only [if_pos e]; omega
                · simp only [if_neg e]; exact hUb.out t ht
              go_wp2_with fail
              go_region
              all_goals clear e3' eS' eU fU hrow hB
              all_goals go_wp2_with fail
              all_goals
                go_roundw
                case rel => exact ⟨i + 1, _, by go_num, by omega, HF3.out, hUb9.out, hrow9.out, hB9.out⟩
                case measure => simp [intOf]; omega
            · have hz : ¬ (i : Int) < (N : Int) := by omega
              have hiN : i = N := by omega
              have hK1 := HG.out.k1
              have hK8 := HG.out.k8
              have hmx := max_c (K := Kn) (cap := Kn) (g := G) (U := U) (w := wr) hK1 (by omega) (fun t ht => (hrow.out t ht).1)
              have htg := together_c (n := N) (cap := cg) (m := m) (cap1 := capP) (a0 := ag) (a1 := aP) (N := asn BL) (PP := PPof m (fun j => (PV.getD j (0, 0)).1) (fun j => (PV.getD j (0, 0)).2)) (w := wr) (PPof_len _ _ _) (by omega) (by omega) (fun t ht => by
                obtain ⟨g, q1, q2, q3⟩ := G12.out t ht
                exact ⟨g, q1, by have := hB.out.size; omega, by rw [hB.out.cell (by exact q2)]; exact q3⟩) (fun j hj => by
                obtain ⟨g, q1, q2, q3, q4⟩ := HL12.out.pairs HPOK.out j hj
                exact ⟨g, q1, by have := hB.out.size; omega, by rw [hB.out.cell (by exact q2)]; exact q3, by rw [hB.out.cell (by exact q2)]; exact q4⟩) (fun x hx => by have h := (HG.out.pp x hx).2; unfold PackLaw.hi at h; omega)
              rw [← HA3.out] at htg
              clear hK1 hK8
              go_wp2_with fail
              refine hmx.mono ?_
              rintro e w20 ⟨t, ht, rfl, rfl⟩
              have hUt := (hUb.out t ht).2
              clear hmx
              go_wp2_with fail
              refine htg.mono ?_
              rintro e w21 ⟨rfl, B21⟩
              have hfw := fewest_c (n := N) (K := Kn) (m := m) (capS := c) (capP := capP) (w := w21) HG.out (PPof_len _ _ _) (fun t ht => by
                obtain ⟨g, q1, q2, q3⟩ := HL12.out.s t ht
                exact ⟨g, q1, by have := hB.out.size; have := B21.size; omega, by rw [B21.cell (by show g < _; have := hB.out.size; omega), hB.out.cell (by exact q2)]; exact q3⟩) (fun j hj => by
                obtain ⟨g, q1, q2, q3, q4⟩ := HL12.out.pairs HPOK.out j hj
                exact ⟨g, q1, by have := hB.out.size; have := B21.size; omega, by rw [B21.cell (by show g < _; have := hB.out.size; omega), hB.out.cell (by exact q2)]; exact q3, by rw [B21.cell (by show g < _; have := hB.out.size; omega), hB.out.cell (by exact q2)]; exact q4⟩)
              have HB21 : Hid (Go.RowKit.Below w12.heap.size w12 w21) := hB.out.trans (B21.mono hB.out.size)
              clear B21 htg
              go_wp2_with fail
              refine hfw.mono ?_
              rintro e w22 ⟨l2, b2, rfl, hR2, B22⟩
              have hl2 := Res.uniq HJ5.out hR2
              subst hl2
              have HB22 : Hid (Go.RowKit.Below w12.heap.size w12 w22) := HB21.out.trans (B22.mono HB21.out.size)
              clear hfw hR2 B22
              go_wp2_with fail
              go_ret
              exact ⟨by simp, hLast.out _ (hB12.out.trans (HB22.out.mono hB12.out.size))⟩
end Go.Proofs.Yteabbkagekdehaa
