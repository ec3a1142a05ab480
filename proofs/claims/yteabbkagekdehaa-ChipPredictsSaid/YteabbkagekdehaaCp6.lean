/- The code's clock: 'pass' over a block. -/
import Derived.Test.YteabbkagekdehaaCp5
set_option linter.unusedVariables false
set_option linter.unusedSimpArgs false
set_option maxRecDepth 100000
namespace Go.Proofs.Yteabbkagekdehaa
open Go.AE Go.RowKit Go.IntWalk
/-- the code and the ends of its loops lie there, apart from the clock -/
structure Lies (w : World) (a : Option Addr) (n : Nat) (zs : List Int) (be : Nat) (E : Nat → Nat) (bk br : Nat) : Prop where
  row : n = 0 ∨ ∃ g, a = some ⟨g, 0, none⟩ ∧ g < w.heap.size ∧ g ≠ bk ∧ g ≠ br ∧ ∀ j, j < n * 9 → w.cell? ⟨g, j, none⟩ = some (.int .i64 (zs.getD j 0))
  le : be < w.heap.size
  ne : be ≠ bk ∧ be ≠ br
  ends : ∀ j, j < n → w.cell? ⟨be, j, none⟩ = some (zI (E j : Nat))
theorem Lies.frb {w w' : World} {a : Option Addr} {n : Nat} {zs : List Int} {be : Nat} {E : Nat → Nat} {bk br : Nat} (h : Lies w a n zs be E bk br) (H : FrB bk br w w') : Lies w' a n zs be E bk br := by
  obtain ⟨h1, h2, h3, h4⟩ := h
  refine ⟨?_, Nat.lt_of_lt_of_le h2 H.size, h3, fun j hj => by rw [H.cell (by exact h2) (by exact h3.1) (by exact h3.2)]; exact h4 j hj⟩
  rcases h1 with h1 | ⟨g, g1, g2, g3, g4, g5⟩
  · exact .inl h1
  · exact .inr ⟨g, g1, Nat.lt_of_lt_of_le g2 H.size, g3, g4, fun j hj => by rw [H.cell (by exact g2) (by exact g3) (by exact g4)]; exact g5 j hj⟩
theorem BT.inv {n : Nat} {op M : Nat → Int} {q e : Nat} {t : CT} (b : BT n op M q t e) : (t = .stop ∧ q = e ∧ (q = n ∨ q < n ∧ op q = 4)) ∨ (∃ t2, t = .plain q t2 ∧ q < n ∧ op q ≠ 4 ∧ op q ≠ 3 ∧ BT n op M (q + 1) t2 e) ∨
    (∃ m e1 tb t2, t = .loop q m e1 tb t2 ∧ q < n ∧ op q = 3 ∧ M q = m ∧ m ≤ 1000000 ∧ BT n op M (q + 1) tb e1 ∧ e1 < n ∧ op e1 = 4 ∧ BT n op M (e1 + 1) t2 e) := by
  cases b with
  | stop h => exact .inl ⟨rfl, rfl, h⟩
  | plain h h4 h3 b => exact .inr (.inl ⟨_, rfl, h, h4, h3, b⟩)
  | loop h h3 hm h1 hb he h4 hc => exact .inr (.inr ⟨_, _, _, _, rfl, h, h3, hm, h1, hb, he, h4, hc⟩)
/-- what is asked of the code -/
structure Ask (m0 m1 m2 m3 m4 : Int) (n Q : Nat) (zs : List Int) (pr D Mn : Nat → Nat) : Prop where
  right : ∀ i, i < n → RightZ m2 m4 zs i
  pri : ∀ i, i < n → Says 107 [mV m0 m1 m2 m3 m4, rowV zs i] (zI (pr i : Nat)) ∧ Says 89 [mV m0 m1 m2 m3 m4, rowV zs i] (zI (pr i : Nat)) ∧ pr i ≤ 20
  q : (Q : Int) = m4
  m2 : m2 ≤ 4096
  d : ∀ i, D i = (zs.getD (i * 9 + 2) 0).toNat
  m : ∀ i, Mn i = (mZ zs i).toNat
theorem Ask.mn {m0 m1 m2 m3 m4 : Int} {n Q : Nat} {zs : List Int} {pr D Mn : Nat → Nat} (h : Ask m0 m1 m2 m3 m4 n Q zs pr D Mn) {i : Nat} (hi : i < n) (h18 : opZ zs i = 18) : Mn i ≤ 4096 := by
  obtain ⟨_, _, a3, a4⟩ := (h.right i hi).2.2.1 h18
  have a5 := h.m2
  rw [h.m i]
  generalize mZ zs i = x at *
  omega
theorem stepC_else {op : Nat → Int} {pr D Mn : Nat → Nat} {i : Nat} (s : Nat × (Nat → Nat)) (h18 : op i ≠ 18) (h19 : op i ≠ 19) : stepC op pr D Mn i s = (s.1 + pr i, s.2) := by
  unfold stepC
  rw [if_neg h18, if_neg h19]
theorem stepC_19 {op : Nat → Int} {pr D Mn : Nat → Nat} {i : Nat} (s : Nat × (Nat → Nat)) (h19 : op i = 19) : stepC op pr D Mn i s = (max (s.1 + pr i) (s.2 (D i)), s.2) := by
  unfold stepC
  rw [if_neg (by rw [h19]; decide), if_pos h19]
theorem stepC_18 {op : Nat → Int} {pr D Mn : Nat → Nat} {i : Nat} (s : Nat × (Nat → Nat)) (h18 : op i = 18) : stepC op pr D Mn i s = (max s.1 (s.2 (D i)) + pr i, fun q => if q = D i then max s.1 (s.2 (D i)) + pr i + 8 + Mn i else s.2 q) := by
  unfold stepC
  rw [if_pos h18]
set_option maxHeartbeats 8000000 in
theorem pass_c {a : Option Addr} {n cap : Nat} {zs : List Int} (hn : n ≤ 100000) {m0 m1 m2 m3 m4 : Int} {Q : Nat} {pr D Mn : Nat → Nat} (hA : Ask m0 m1 m2 m3 m4 n Q zs pr D Mn) {bk br be : Nat} {E : Nat → Nat} : ∀ (k p e : Nat) (t : CT) (w : World) (s : Nat × (Nat → Nat)) (K : Nat),
    n - p ≤ k → BT n (opZ zs) (mZ zs) p t e → EndsOK t E → Lies w a n zs be E bk br → Clk w bk br Q m0 m1 m2 m3 m4 s → BdC K s → K + 4125 * t.cnt ≤ 4000000000000 →
    Calls Try.prog 87 #[.pointer (some ⟨bk, 0, none⟩), .slice a n cap, .slice (some ⟨be, 0, none⟩) n n, .int .i64 p] w fun en w' => en = .returned (zI e) ∧ Clk w' bk br Q m0 m1 m2 m3 m4 (evC (opZ zs) pr D Mn t s) ∧ FrB bk br w w' := by
  intro k
  induction k using Nat.strongRecOn with
  | ind k ih =>
    intro p e t w s K hk B0 hE hL hC hB hK
    have hge := B0.ge
    have HI : Hid _ := ih
    have HA : Hid _ := hA
    clear ih hA
    obtain ⟨FS, hFS⟩ : ∃ FS, evC (opZ zs) pr D Mn t s = FS := ⟨_, rfl⟩
    rw [hFS]
    go_enter Try.func87, Try.ntmps87
    go_wp2_with fail
    go_loopw [9] (fun v9 wr => ∃ (q : Nat) (t1 : CT) (s1 : Nat × (Nat → Nat)) (K1 : Nat), v9 = zI q ∧ BT n (opZ zs) (mZ zs) q t1 e ∧ EndsOK t1 E ∧ evC (opZ zs) pr D Mn t1 s1 = FS ∧ BdC K1 s1 ∧ K1 + 4125 * t1.cnt ≤ 4000000000000 ∧ Clk wr bk br Q m0 m1 m2 m3 m4 s1 ∧ FrB bk br w wr ∧ p ≤ q)
      (fun v9 _ => n - (intOf v9).toNat)
    case atStart => exact ⟨p, t, s, K, rfl, B0, hE, hFS, hB, hK, hC, FrB.refl _ _ _, Nat.le_refl _⟩
    case round =>
      clear B0 hE hFS hB hK hC
      obtain ⟨q, t1, s1, K1, rfl, B, hE, hFS, hB, hK, hC, hF, hpq⟩ := hrel
      have hL1 := hL.frb hF
      have hB' := B.ge
      have hinv := B.inv
      rcases hinv with ⟨rfl, rfl, h⟩ | hinv
      · by_cases hq : q = n
        · subst hq
          have hlt : ¬ (q : Int) < (q : Int) := by omega
          have FIN : Hid _ := (⟨hFS ▸ hC, hF⟩ : Clk wr bk br Q m0 m1 m2 m3 m4 FS ∧ FrB bk br w wr)
          clear hC hF hL1 hE hFS hB
          go_wp2_with fail
          go_ret
          exact ⟨rfl, FIN.out⟩
        · obtain ⟨hqn, h4⟩ : q < n ∧ opZ zs q = 4 := by omega
          have hlt : (q : Int) < (n : Int) := by omega
          rcases hL1.row with h0 | ⟨g, rfl, hg, hgk, hgr, hcell⟩
          · omega
          have x0 : wr.cell? ⟨g, q * 9, none⟩ = some (.int .i64 4) := by rw [hcell _ (by omega)]; exact congrArg _ (congrArg _ h4)
          obtain ⟨z1, x1⟩ : ∃ z, wr.cell? ⟨g, q * 9 + 1, none⟩ = some (.int .i64 z) := ⟨_, hcell _ (by omega)⟩
          obtain ⟨z2, x2⟩ : ∃ z, wr.cell? ⟨g, q * 9 + 2, none⟩ = some (.int .i64 z) := ⟨_, hcell _ (by omega)⟩
          obtain ⟨z3, x3⟩ : ∃ z, wr.cell? ⟨g, q * 9 + 3, none⟩ = some (.int .i64 z) := ⟨_, hcell _ (by omega)⟩
          obtain ⟨z4, x4⟩ : ∃ z, wr.cell? ⟨g, q * 9 + 4, none⟩ = some (.int .i64 z) := ⟨_, hcell _ (by omega)⟩
          obtain ⟨z5, x5⟩ : ∃ z, wr.cell? ⟨g, q * 9 + 5, none⟩ = some (.int .i64 z) := ⟨_, hcell _ (by omega)⟩
          obtain ⟨z6, x6⟩ : ∃ z, wr.cell? ⟨g, q * 9 + 6, none⟩ = some (.int .i64 z) := ⟨_, hcell _ (by omega)⟩
          obtain ⟨z7, x7⟩ : ∃ z, wr.cell? ⟨g, q * 9 + 7, none⟩ = some (.int .i64 z) := ⟨_, hcell _ (by omega)⟩
          obtain ⟨z8, x8⟩ : ∃ z, wr.cell? ⟨g, q * 9 + 8, none⟩ = some (.int .i64 z) := ⟨_, hcell _ (by omega)⟩
          have FIN : Hid (Clk wr bk br Q m0 m1 m2 m3 m4 FS ∧ FrB bk br w wr) := ⟨hFS ▸ hC, hF⟩
          have hkr : bk < wr.heap.size ∧ br < wr.heap.size := ⟨hC.lk, hC.lr⟩
          clear hC hF hL1 hE hFS hB hcell h h4
          go_wp2_with fail
          go_ret
          have Ba := below_alloc wr (.cells #[.int .i64 4, zI z1, zI z2, zI z3, zI z4, zI z5, zI z6, zI z7, zI z8] 29)
          exact ⟨rfl, FIN.out.1.below Ba, FIN.out.2.trans (FrB.of_below Ba)⟩

      · obtain ⟨hqn, h4⟩ : q < n ∧ opZ zs q ≠ 4 := by
          rcases hinv with ⟨t2, _, h1, h2, _⟩ | ⟨m, e1, tb, t2, _, h1, h2, _⟩
          · exact ⟨h1, h2⟩
          · exact ⟨h1, by rw [h2]; decide⟩
        have hlt : (q : Int) < (n : Int) := by omega
        rcases hL1.row with h0 | ⟨g, rfl, hg, hgk, hgr, hcell⟩
        · omega
        obtain ⟨o, eo⟩ : ∃ z, zs.getD (q * 9) 0 = z := ⟨_, rfl⟩
        have x0 : wr.cell? ⟨g, q * 9, none⟩ = some (zI o) := by rw [hcell _ (by omega), eo]
        obtain ⟨z1, ez1⟩ : ∃ z, zs.getD (q * 9 + 1) 0 = z := ⟨_, rfl⟩
        have x1 : wr.cell? ⟨g, q * 9 + 1, none⟩ = some (zI z1) := by rw [hcell _ (by omega), ez1]
        obtain ⟨d, ed⟩ : ∃ z, zs.getD (q * 9 + 2) 0 = z := ⟨_, rfl⟩
        have x2 : wr.cell? ⟨g, q * 9 + 2, none⟩ = some (zI d) := by rw [hcell _ (by omega), ed]
        obtain ⟨z3, ez3⟩ : ∃ z, zs.getD (q * 9 + 3) 0 = z := ⟨_, rfl⟩
        have x3 : wr.cell? ⟨g, q * 9 + 3, none⟩ = some (zI z3) := by rw [hcell _ (by omega), ez3]
        obtain ⟨z4, ez4⟩ : ∃ z, zs.getD (q * 9 + 4) 0 = z := ⟨_, rfl⟩
        have x4 : wr.cell? ⟨g, q * 9 + 4, none⟩ = some (zI z4) := by rw [hcell _ (by omega), ez4]
        obtain ⟨z5, ez5⟩ : ∃ z, zs.getD (q * 9 + 5) 0 = z := ⟨_, rfl⟩
        have x5 : wr.cell? ⟨g, q * 9 + 5, none⟩ = some (zI z5) := by rw [hcell _ (by omega), ez5]
        obtain ⟨z6, ez6⟩ : ∃ z, zs.getD (q * 9 + 6) 0 = z := ⟨_, rfl⟩
        have x6 : wr.cell? ⟨g, q * 9 + 6, none⟩ = some (zI z6) := by rw [hcell _ (by omega), ez6]
        obtain ⟨z7, ez7⟩ : ∃ z, zs.getD (q * 9 + 7) 0 = z := ⟨_, rfl⟩
        have x7 : wr.cell? ⟨g, q * 9 + 7, none⟩ = some (zI z7) := by rw [hcell _ (by omega), ez7]
        obtain ⟨mm, emm⟩ : ∃ z, zs.getD (q * 9 + 8) 0 = z := ⟨_, rfl⟩
        have x8 : wr.cell? ⟨g, q * 9 + 8, none⟩ = some (zI mm) := by rw [hcell _ (by omega), emm]
        have hR := HA.out.right q hqn
        have hP := (HA.out.pri q hqn).1
        have hp20 := (HA.out.pri q hqn).2.2
        have hD := HA.out.d q
        have hMn := HA.out.m q
        unfold RightZ at hR
        unfold mV rowV at hP
        unfold opZ mZ at hR
        unfold opZ at h4
        unfold mZ at hMn
        rw [eo] at h4
        rw [eo, ed, emm] at hR
        rw [ed] at hD
        rw [emm] at hMn
        rw [eo, ez1, ed, ez3, ez4, ez5, ez6, ez7, emm] at hP
        have P107 : Hid (∀ w, Calls Try.prog 107 #[.agg #[.int .i64 m0, .int .i64 m1, .int .i64 m2, .int .i64 m3, .int .i64 m4], .agg #[zI o, zI z1, zI d, zI z3, zI z4, zI z5, zI z6, zI z7, zI mm]] w fun en w' => en = .returned (.int .i64 (pr q : Nat)) ∧ Below w.heap.size w w') := hP
        obtain ⟨X, hX⟩ : ∃ X, wr.heap.size = X := ⟨_, rfl⟩
        have Ba := below_alloc wr (.cells #[zI o, zI z1, zI d, zI z3, zI z4, zI z5, zI z6, zI z7, zI mm] 29)
        have y1 := below_row (w := wr) #[zI o, zI z1, zI d, zI z3, zI z4, zI z5, zI z6, zI z7, zI mm] 29 hX
        have hC1 := hC.below Ba
        have hF1 := hF.trans (FrB.of_below Ba)
        have hz1 : (wr.alloc (.cells #[zI o, zI z1, zI d, zI z3, zI z4, zI z5, zI z6, zI z7, zI mm] 29)).heap.size = X + 1 := by simp only [World.alloc, Array.size_push]; omega
        have hkX : bk < X ∧ br < X := ⟨by have := hC.lk; omega, by have := hC.lr; omega⟩
        replace y1 := hidI y1
        replace hC1 := hidI hC1
        replace hF1 := hidI hF1
        replace hB := hidI hB
        replace hE := hidI hE
        replace hFS := hidI hFS
        replace hinv := hidI hinv
        have hoI : opZ zs q = o := eo
        have hmI : mZ zs q = mm := emm
        replace hoI := hidI hoI
        replace hmI := hidI hmI
        clear hL1 hC hF hP hcell eo ez1 ed ez3 ez4 ez5 ez6 ez7 emm B
        go_upto_region 5 with fail
        obtain ⟨w1, hw1⟩ : ∃ w1, wr.alloc (.cells #[zI o, zI z1, zI d, zI z3, zI z4, zI z5, zI z6, zI z7, zI mm] 29) = w1 := ⟨_, rfl⟩
        rw [hw1] at y1 hC1 hF1 hz1
        rw [hw1]
        try rw [hX]
        clear hw1 Ba hX x0 x1 x2 x3 x4 x5 x6 x7 x8
        obtain ⟨pp, hpp⟩ : ∃ pp, pr q = pp := ⟨_, rfl⟩
        rw [hpp] at P107 hp20
        replace hpp := hidI hpp
        have q107 := P107.out
        have h4b : (o == 4) = false := by simp [h4]
        obtain ⟨c, rr⟩ := s1
        have hcB : c ≤ 4000000000000 := by have := hB.out.1; omega
        by_cases h18 : o = 18
        · subst h18
          obtain ⟨hd0, hd1, hm0, hm1⟩ := hR.2.2.1 rfl
          obtain ⟨dn, rfl⟩ : ∃ dn : Nat, d = dn := ⟨d.toNat, by omega⟩
          have hdq : dn < Q := by have := HA.out.q; omega
          have hdI : (dn : Int) < (Q : Int) := by omega
          obtain ⟨Mx, rfl⟩ : ∃ Mx : Nat, mm = Mx := ⟨mm.toNat, by omega⟩
          have k5 := hC1.out.c5
          have k6 := hC1.out.c6
          have f5 := hC1.out.f5
          have yy := y1.out
          have kr : w1.cell? ⟨br, dn, none⟩ = some (zI (rr dn : Nat)) := (hC1.out.row dn hdq).1
          have hrB : rr dn ≤ 4000000000000 := by have := hB.out.2 dn; simp only at this; omega
          go_upto_region 9 with fail
          go_region
          obtain ⟨cm, hcm⟩ : ∃ cm, max c (rr dn) = cm := ⟨_, rfl⟩
          have hcmB : cm ≤ 4000000000000 := by omega
          have hmx : max (c : Int) (rr dn : Int) = (cm : Int) := by omega
          rw [hmx]
          have hcy := Clk.cyc hC1.out cm
          have hC2 : Clk (w1.setCell ⟨bk, 5, none⟩ (zI (cm : Int))).drew bk br Q m0 m1 m2 m3 m4 (cm, rr) := hcy.1.below ⟨rfl, rfl, rfl, Nat.le_refl _, fun _ _ => rfl⟩
          have hF2 : FrB bk br w (w1.setCell ⟨bk, 5, none⟩ (zI (cm : Int))).drew := (hF1.out.trans hcy.2).trans (FrB.of_below ⟨rfl, rfl, rfl, Nat.le_refl _, fun _ _ => rfl⟩)
          have y2 : ∀ j, (w1.setCell ⟨bk, 5, none⟩ (zI (cm : Int))).drew.cell? ⟨X, j, none⟩ = #[zI 18, zI z1, zI dn, zI z3, zI z4, zI z5, zI z6, zI z7, zI Mx][j]? := fun j => by
            show (w1.setCell ⟨bk, 5, none⟩ (zI (cm : Int))).cell? ⟨X, j, none⟩ = _
            rw [World.cell?_setCell_other _ _ _ _ (fun e => by cases e; omega)]; exact y1.out j
          have hz2 : (w1.setCell ⟨bk, 5, none⟩ (zI (cm : Int))).drew.heap.size = X + 1 := by
            show (w1.setCell ⟨bk, 5, none⟩ (zI (cm : Int))).heap.size = X + 1
            rw [csize_set]; exact hz1
          obtain ⟨w8, hw8⟩ : ∃ w8, (w1.setCell ⟨bk, 5, none⟩ (zI (cm : Int))).drew = w8 := ⟨_, rfl⟩
          rw [hw8] at hC2 hF2 y2 hz2
          rw [hw8]
          replace hC2 := hidI hC2
          replace hF2 := hidI hF2
          replace y2 := hidI y2
          replace hcm := hidI hcm
          clear hw8 hcy hmx k5 k6 f5 kr hC1 hF1 y1 yy hz1
          obtain ⟨k0, k1, k2, k3, k4⟩ := hC2.out.ms
          have k5 := hC2.out.c5
          have f5 := hC2.out.f5
          have yy := y2.out
          have hwr : Hid (IntKind.i64.wrap ((cm : Int) + (pp : Int)) = ((cm + pp : Nat) : Int)) := by show _ = _; rw [i64_in _ (by omega)]; simp
          have hwr2 : Hid ((cm : Int) + (pp : Int) = ((cm + pp : Nat) : Int)) := by show _ = _; simp
          go_upto_region 10 with fail
          go_cut [] from 12 to 118 (fun w' => Clk w' bk br Q m0 m1 m2 m3 m4 (cm + pp, rr) ∧ FrB bk br w w' ∧ (∀ j, w'.cell? ⟨X, j, none⟩ = #[zI 18, zI z1, zI dn, zI z3, zI z4, zI z5, zI z6, zI z7, zI Mx][j]?) ∧ X < w'.heap.size)
          case first =>
            go_region_with (first
              | (go_at_call 107
                 refine (q107 _).mono ?_
                 rintro e w2 ⟨rfl, B2x⟩
                 have D12 : Below w8.heap.size w8 w2 := by first | exact B2x | exact (⟨rfl, rfl, rfl, Nat.le_refl _, fun _ _ => rfl⟩ : Below w8.heap.size w8 w8.drew).trans B2x
                 have hCx := Clk.below hC2.out D12
                 have k5x : w2.cell? ⟨bk, 5, none⟩ = some (zI cm) := hCx.c5
                 have f5x := hCx.f5))
            all_goals (
              go_wp2_with fail
              go_meet
              case rel =>
                first | rw [hwr.out] | rw [hwr2.out]
                exact ⟨(Clk.cyc hCx _).1, (hF2.out.trans (FrB.of_below D12)).trans (Clk.cyc hCx _).2, fun j => by rw [World.cell?_setCell_other _ _ _ _ (fun e => by cases e; omega)]; exact rowis_below yy D12 (by omega) j, by rw [csize_set]; have := D12.size; omega⟩)
          case rest =>
            obtain ⟨hCc, hFc, hyc, hXc⟩ := hcut
            replace hCc := hidI hCc
            replace hFc := hidI hFc
            clear hC2 hF2 y2 yy k0 k1 k2 k3 k4 k5 f5 hwr hwr2 q107 P107 hz2
            rcases hinv.out with ⟨t2, rfl, _, _, _, B2⟩ | ⟨m, e1, tb, t2, rfl, _, h3, _⟩
            · replace B2 := hidI B2
              have hE2 : Hid (EndsOK t2 E) := hE.out
              have hK2 : K1 + 4125 + 4125 * t2.cnt ≤ 4000000000000 := by simp only [CT.cnt] at hK; omega
              have hFS2 : evC (opZ zs) pr D Mn t2 (stepC (opZ zs) pr D Mn q (c, rr)) = FS := hFS.out
              have hBs : BdC (K1 + 4125) (stepC (opZ zs) pr D Mn q (c, rr)) := hB.out.step (by rw [hpp.out]; exact hp20) (fun h => HA.out.mn hqn h)
              rw [stepC_18 _ hoI.out, hpp.out, hD, hMn, Int.toNat_natCast, Int.toNat_natCast] at hFS2 hBs
              simp only [hcm.out] at hFS2 hBs
              replace hFS2 := hidI hFS2
              replace hBs := hidI hBs
              have k5 : wc.cell? ⟨bk, 5, none⟩ = some (zI ((cm + pp : Nat) : Int)) := hCc.out.c5
              have k6 := hCc.out.c6
              have kr : wc.cell? ⟨br, dn, none⟩ = some (zI (rr dn : Nat)) := (hCc.out.row dn hdq).1
              have kf : wc.frozen? ⟨br, dn, none⟩ = false := (hCc.out.row dn hdq).2
              have hMxB : Mx ≤ 4096 := by have := HA.out.m2; omega
              have hs1 : ((cm + pp : Nat) : Int) + 8 + (Mx : Int) = ((cm + pp + 8 + Mx : Nat) : Int) := by omega
              have hs2 : (cm : Int) + (pp : Int) + 8 + (Mx : Int) = ((cm + pp + 8 + Mx : Nat) : Int) := by omega
              replace hs1 := hidI hs1
              replace hs2 := hidI hs2
              go_upto_region 13 with fail
              go_region
              first | rw [hs1.out] | rw [hs2.out]
              have hcy := Clk.que hCc.out hdq (cm + pp + 8 + Mx)
              have hC9 : Clk (wc.setCell ⟨br, dn, none⟩ (zI ((cm + pp + 8 + Mx : Nat) : Int))).drew bk br Q m0 m1 m2 m3 m4 (cm + pp, fun q => if q = dn then cm + pp + 8 + Mx else rr q) := hcy.1.below ⟨rfl, rfl, rfl, Nat.le_refl _, fun _ _ => rfl⟩
              have hF9 : FrB bk br w (wc.setCell ⟨br, dn, none⟩ (zI ((cm + pp + 8 + Mx : Nat) : Int))).drew := (hFc.out.trans hcy.2).trans (FrB.of_below ⟨rfl, rfl, rfl, Nat.le_refl _, fun _ _ => rfl⟩)
              obtain ⟨w9, hw9⟩ : ∃ w9, (wc.setCell ⟨br, dn, none⟩ (zI ((cm + pp + 8 + Mx : Nat) : Int))).drew = w9 := ⟨_, rfl⟩
              rw [hw9] at hC9 hF9
              rw [hw9]
              replace hC9 := hidI hC9
              replace hF9 := hidI hF9
              clear hw9 hcy k5 k6 kr kf hCc hFc hyc
              go_wp2_with fail
              go_roundw
              case rel => exact ⟨q + 1, t2, _, K1 + 4125, by go_num, B2.out, hE2.out, hFS2.out, hBs.out, hK2, hC9.out, hF9.out, by omega⟩
              case measure => simp [intOf]; omega
            · rw [hoI.out] at h3
              exact absurd h3 (by decide)
        · have h18b : (o == 18) = false := by simp [h18]
          obtain ⟨k0, k1, k2, k3, k4⟩ := hC1.out.ms
          have k5 := hC1.out.c5
          have f5 := hC1.out.f5
          have yy := y1.out
          have hwr : IntKind.i64.wrap ((c : Int) + (pp : Int)) = ((c + pp : Nat) : Int) := by rw [i64_in _ (by omega)]; simp
          replace hwr := hidI hwr
          have hwr2 : Hid ((c : Int) + (pp : Int) = ((c + pp : Nat) : Int)) := by show _ = _; simp
          go_upto_region 10 with fail
          go_cut [] from 12 to 118 (fun w' => Clk w' bk br Q m0 m1 m2 m3 m4 (c + pp, rr) ∧ FrB bk br w w' ∧ (∀ j, w'.cell? ⟨X, j, none⟩ = #[zI o, zI z1, zI d, zI z3, zI z4, zI z5, zI z6, zI z7, zI mm][j]?) ∧ X < w'.heap.size)
          case first =>
            go_region_with (first
              | (go_at_call 107
                 refine (q107 _).mono ?_
                 rintro e w2 ⟨rfl, B2x⟩
                 have D12 : Below w1.heap.size w1 w2 := by first | exact B2x | exact (⟨rfl, rfl, rfl, Nat.le_refl _, fun _ _ => rfl⟩ : Below w1.heap.size w1 w1.drew).trans B2x
                 have hCx := Clk.below hC1.out D12
                 have k5x : w2.cell? ⟨bk, 5, none⟩ = some (zI c) := hCx.c5
                 have f5x := hCx.f5))
            all_goals (
              go_wp2_with fail
              go_meet
              case rel =>
                first | rw [hwr.out] | rw [hwr2.out]
                exact ⟨(Clk.cyc hCx _).1, (hF1.out.trans (FrB.of_below D12)).trans (Clk.cyc hCx _).2, fun j => by rw [World.cell?_setCell_other _ _ _ _ (fun e => by cases e; omega)]; exact rowis_below yy D12 (by omega) j, by rw [csize_set]; have := D12.size; omega⟩)
          case rest =>
            obtain ⟨hCc, hFc, hyc, hXc⟩ := hcut
            replace hCc := hidI hCc
            replace hFc := hidI hFc
            clear hC1 hF1 y1 yy k0 k1 k2 k3 k4 k5 f5 hwr hwr2 q107 P107 hz1
            rcases hinv.out with ⟨t2, rfl, _, _, h3, B2⟩ | ⟨m, e1, tb, t2, rfl, _, h3, hm, hm1, hb, he, hop4, hcr⟩
            · rw [hoI.out] at h3
              have h3b : (o == 3) = false := by simp [h3]
              replace B2 := hidI B2
              have hE2 : EndsOK t2 E := hE.out
              have hK2 : K1 + 4125 + 4125 * t2.cnt ≤ 4000000000000 := by simp only [CT.cnt] at hK; omega
              have hFS2 : evC (opZ zs) pr D Mn t2 (stepC (opZ zs) pr D Mn q (c, rr)) = FS := hFS.out
              have hBs : BdC (K1 + 4125) (stepC (opZ zs) pr D Mn q (c, rr)) := hB.out.step (by rw [hpp.out]; exact hp20) (fun h => absurd (hoI.out.symm.trans h) h18)
              by_cases h19 : o = 19
              · subst h19
                obtain ⟨hd0, hd1⟩ := hR.2.2.2 rfl
                obtain ⟨dn, rfl⟩ : ∃ dn : Nat, d = dn := ⟨d.toNat, by omega⟩
                have hdq : dn < Q := by have := HA.out.q; omega
                have hdI : (dn : Int) < (Q : Int) := by omega
                have k5 := hCc.out.c5
                have k6 := hCc.out.c6
                have f5 := hCc.out.f5
                have kr : wc.cell? ⟨br, dn, none⟩ = some (zI (rr dn : Nat)) := (hCc.out.row dn hdq).1
                have hrB : rr dn ≤ 4000000000000 := by have := hB.out.2 dn; simp only at this; omega
                rw [stepC_19 _ hoI.out, hpp.out, hD, Int.toNat_natCast] at hFS2 hBs
                replace hFS2 := hidI hFS2
                replace hBs := hidI hBs
                replace hE2 := hidI hE2
                go_upto_region 15 with fail
                go_region
                have hmx : max ((c : Int) + (pp : Int)) (rr dn : Int) = ((max (c + pp) (rr dn) : Nat) : Int) := by omega
                rw [hmx]
                have hcy := Clk.cyc hCc.out (max (c + pp) (rr dn))
                have hC9 : Clk (wc.setCell ⟨bk, 5, none⟩ (zI ((max (c + pp) (rr dn) : Nat) : Int))).drew bk br Q m0 m1 m2 m3 m4 (max (c + pp) (rr dn), rr) := hcy.1.below ⟨rfl, rfl, rfl, Nat.le_refl _, fun _ _ => rfl⟩
                have hF9 : FrB bk br w (wc.setCell ⟨bk, 5, none⟩ (zI ((max (c + pp) (rr dn) : Nat) : Int))).drew := (hFc.out.trans hcy.2).trans (FrB.of_below ⟨rfl, rfl, rfl, Nat.le_refl _, fun _ _ => rfl⟩)
                obtain ⟨w9, hw9⟩ : ∃ w9, (wc.setCell ⟨bk, 5, none⟩ (zI ((max (c + pp) (rr dn) : Nat) : Int))).drew = w9 := ⟨_, rfl⟩
                rw [hw9] at hC9 hF9
                rw [hw9]
                replace hC9 := hidI hC9
                replace hF9 := hidI hF9
                clear hw9 hcy hmx k5 k6 f5 kr hCc hFc hyc
                go_wp2_with fail
                go_roundw
                case rel => exact ⟨q + 1, t2, _, K1 + 4125, by go_num, B2.out, hE2.out, hFS2.out, hBs.out, hK2, hC9.out, hF9.out, by omega⟩
                case measure => simp [intOf]; omega
              · have h19b : (o == 19) = false := by simp [h19]
                rw [stepC_else _ (by rw [hoI.out]; exact h18) (by rw [hoI.out]; exact h19), hpp.out] at hFS2 hBs
                replace hFS2 := hidI hFS2
                replace hBs := hidI hBs
                replace hE2 := hidI hE2
                go_wp2_with fail
                go_roundw
                case rel => exact ⟨q + 1, t2, (c + pp, rr), K1 + 4125, by go_num, B2.out, hE2.out, hFS2.out, hBs.out, hK2, hCc.out, hFc.out, by omega⟩
                case measure => simp [intOf]; omega
            · rw [hoI.out] at h3
              subst h3
              obtain rfl : mm = (m : Int) := hmI.out.symm.trans hm
              obtain ⟨Z, hZ⟩ : ∃ Z, 4125 * (tb.cnt + 1) = Z := ⟨_, rfl⟩
              have hKm : K1 + 4125 + m * Z + 4125 * t2.cnt ≤ 4000000000000 := by
                simp only [CT.cnt] at hK
                have e1 : 4125 * (1 + m * (tb.cnt + 1) + t2.cnt) = 4125 + m * Z + 4125 * t2.cnt := by
                  rw [← hZ, Nat.mul_add, Nat.mul_add, Nat.mul_one, Nat.mul_left_comm]
                omega
              obtain ⟨hEq, hEb, hEt⟩ : E q = e1 ∧ EndsOK tb E ∧ EndsOK t2 E := hE.out
              obtain ⟨S2, hS2⟩ : ∃ S2, iter m (fun s => evC (opZ zs) pr D Mn tb (s.1 + 1, s.2)) (c + pp, rr) = S2 := ⟨_, rfl⟩
              have hFS2 : evC (opZ zs) pr D Mn t2 S2 = FS := by rw [← hS2, ← hpp.out]; exact hFS.out
              have hB2 : BdC (K1 + 4125) (c + pp, rr) := hB.out.add (c := pp) (by omega)
              have hmI1 : (m : Int) ≤ 1000000 := by omega
              have hb' := hb.ge
              have hc' := hcr.ge
              replace hFS2 := hidI hFS2
              replace hS2 := hidI hS2
              replace hB2 := hidI hB2
              replace hb := hidI hb
              replace hcr := hidI hcr
              replace hEb := hidI hEb
              replace hEt := hidI hEt
              clear hE hFS hB hinv
              go_wp2_with fail
              go_loopw [99] (fun v99 w2 => ∃ (j : Nat) (s2 : Nat × (Nat → Nat)), v99 = zI j ∧ j ≤ m ∧ iter (m - j) (fun s => evC (opZ zs) pr D Mn tb (s.1 + 1, s.2)) s2 = S2 ∧ BdC (K1 + 4125 + j * Z) s2 ∧ Clk w2 bk br Q m0 m1 m2 m3 m4 s2 ∧ FrB bk br w w2)
                (fun v99 _ => m - (intOf v99).toNat)
              case atStart => exact ⟨0, _, rfl, Nat.zero_le _, hS2.out, hB2.out.mono (by omega), hCc.out, hFc.out⟩
              case round =>
                obtain ⟨j, s2, rfl, hj, hit, hB3, hC3, hF3⟩ := hrel
                clear hyc hXc hCc hFc
                by_cases hjm : j < m
                · have hjI : (j : Int) < (m : Int) := by omega
                  obtain ⟨c2, rr2⟩ := s2
                  have hmul : (j + 1) * Z ≤ m * Z := Nat.mul_le_mul_right _ (by omega)
                  rw [Nat.succ_mul] at hmul
                  have hc2 : c2 ≤ 4000000000000 := by have := hB3.1; simp only at this; omega
                  have k5 : _ = some (zI c2) := hC3.c5
                  have f5 := hC3.f5
                  have hcy := Clk.cyc hC3 (c2 + 1)
                  have hwr : IntKind.i64.wrap ((c2 : Int) + 1) = ((c2 + 1 : Nat) : Int) := by rw [i64_in _ (by omega)]; simp
                  have eqq : ((q + 1 : Nat) : Int) = (q : Int) + 1 := by omega
                  have hB4 : BdC (K1 + 4125 + j * Z + 4125) (c2 + 1, rr2) := hB3.add (c := 1) (by omega)
                  have hZ1 : 4125 + 4125 * tb.cnt = Z := by omega
                  have hrec := HI.out (n - (q + 1)) (by omega) (q + 1) e1 tb (wr.setCell ⟨bk, 5, none⟩ (zI ((c2 + 1 : Nat) : Int))) (c2 + 1, rr2) (K1 + 4125 + j * Z + 4125) (Nat.le_refl _) hb.out hEb.out (hL.frb (hF3.trans hcy.2)) hcy.1 hB4 (by omega)
                  have hcast : ((c2 + 1 : Nat) : Int) = (c2 : Int) + 1 := by omega
                  rw [hcast, eqq] at hrec
                  rw [hcast] at hcy
                  have hF4 := hF3.trans hcy.2
                  have hit2 : iter (m - (j + 1)) (fun s => evC (opZ zs) pr D Mn tb (s.1 + 1, s.2)) (evC (opZ zs) pr D Mn tb (c2 + 1, rr2)) = S2 := by
                    rw [show m - j = (m - (j + 1)) + 1 by omega] at hit
                    exact hit
                  have hB5 : BdC (K1 + 4125 + (j + 1) * Z) (evC (opZ zs) pr D Mn tb (c2 + 1, rr2)) := (BdC.ev hb.out (fun i hi => (HA.out.pri i hi).2.2) (fun i hi h => HA.out.mn hi h) hB4).mono (by rw [Nat.succ_mul j Z]; omega)
                  obtain ⟨S3, hS3⟩ : ∃ S3, evC (opZ zs) pr D Mn tb (c2 + 1, rr2) = S3 := ⟨_, rfl⟩
                  rw [hS3] at hrec hit2 hB5
                  replace hit2 := hidI hit2
                  replace hB5 := hidI hB5
                  replace hF4 := hidI hF4
                  replace hB4 := hidI hB4
                  clear hit hB3 hC3 hF3 hwr hcy hmul hcast eqq hS3
                  go_wp2_with fail
                  refine hrec.mono ?_
                  rintro e w3 ⟨rfl, hC5, hF5⟩
                  clear hrec k5 f5
                  have hF6 := hF4.out.trans hF5
                  replace hC5 := hidI hC5
                  replace hF6 := hidI hF6
                  clear hF4 hF5
                  go_wp2_with fail
                  go_roundw
                  case rel => exact ⟨j + 1, S3, by go_num, by omega, hit2.out, hB5.out, hC5.out, hF6.out⟩
                  case measure => simp [intOf]; omega
                · obtain rfl : j = m := by omega
                  have hjI : ¬ (j : Int) < (j : Int) := by omega
                  rw [Nat.sub_self] at hit
                  obtain rfl : s2 = S2 := hit
                  have hend := (hL.frb hF3).ends q hqn
                  rw [hEq] at hend
                  replace hB3 := hidI hB3
                  replace hC3 := hidI hC3
                  replace hF3 := hidI hF3
                  clear hS2 hB2
                  go_wp2_with fail
                  go_roundw
                  case rel => exact ⟨e1 + 1, t2, s2, K1 + 4125 + j * Z, by go_num, hcr.out, hEt.out, hFS2.out, hB3.out, by omega, hC3.out, hF3.out, by omega⟩
                  case measure => simp [intOf]; omega

end Go.Proofs.Yteabbkagekdehaa
