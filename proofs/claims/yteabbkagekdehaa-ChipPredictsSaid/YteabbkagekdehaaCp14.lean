/- The document's clock: 'run' over a block. -/
import Derived.Test.YteabbkagekdehaaCp6
import Derived.Test.YteabbkagekdehaaCp12
import Derived.Test.YteabbkagekdehaaPln
set_option linter.unusedVariables false
set_option linter.unusedSimpArgs false
set_option maxRecDepth 100000
namespace Go.Proofs.Yteabbkagekdehaa
open Go.AE Go.RowKit Go.IntWalk
/-- the code lies there, apart from the clock -/
def LiesP (w : World) (a : Option Addr) (n : Nat) (zs : List Int) (bp bq : Nat) : Prop := n = 0 ∨ ∃ g, a = some ⟨g, 0, none⟩ ∧ g < w.heap.size ∧ g ≠ bp ∧ g ≠ bq ∧ ∀ j, j < n * 9 → w.cell? ⟨g, j, none⟩ = some (.int .i64 (zs.getD j 0))
theorem LiesP.frb {w w' : World} {a : Option Addr} {n : Nat} {zs : List Int} {bp bq : Nat} (h : LiesP w a n zs bp bq) (H : FrB bp bq w w') : LiesP w' a n zs bp bq := by
  rcases h with h1 | ⟨g, g1, g2, g3, g4, g5⟩
  · exact .inl h1
  · exact .inr ⟨g, g1, Nat.lt_of_lt_of_le g2 H.size, g3, g4, fun j hj => by rw [H.cell (by exact g2) (by exact g3) (by exact g4)]; exact g5 j hj⟩
theorem LiesP.row {w : World} {a : Option Addr} {n : Nat} {zs : List Int} {bp bq : Nat} (h : LiesP w a n zs bp bq) : RowZ w a n zs := by
  rcases h with h1 | ⟨g, g1, g2, _, _, g5⟩
  · exact .inl h1
  · exact .inr ⟨g, g1, g2, g5⟩
set_option maxHeartbeats 8000000 in
theorem run_c {a : Option Addr} {n cap : Nat} {zs : List Int} (hn : n ≤ 100000) {m0 m1 m2 m3 m4 : Int} {Q : Nat} {pr D Mn : Nat → Nat} (hA : Ask m0 m1 m2 m3 m4 n Q zs pr D Mn) (hQ : Q ≤ 4) {bp bq : Nat} : ∀ (k p e : Nat) (t : CT) (w : World) (s : Nat × (Nat → Nat)) (K nn : Nat),
    n - p ≤ k → BT n (opZ zs) (mZ zs) p t e → LiesP w a n zs bp bq → Prd w bp bq m0 m1 m2 m3 m4 s.1 nn s.2 → nn ≤ K → BdC K s → K + 4125 * t.cnt ≤ 4000000000000 →
    Calls Try.prog 69 #[.pointer (some ⟨bp, 0, none⟩), .slice a n cap, .int .i64 p] w fun en w' => en = .returned (zI e) ∧ (∃ nn', nn' ≤ K + 4125 * t.cnt ∧ Prd w' bp bq m0 m1 m2 m3 m4 (evG (opZ zs) pr D Mn t s).1 nn' (evG (opZ zs) pr D Mn t s).2) ∧ FrB bp bq w w' := by
  intro k
  induction k using Nat.strongRecOn with
  | ind k ih =>
    intro p e t w s K nn hk B0 hL hC hnn hB hK
    have hge := B0.ge
    have HI : Hid _ := ih
    have HA : Hid _ := hA
    clear ih hA
    obtain ⟨FS, hFS⟩ : ∃ FS, evG (opZ zs) pr D Mn t s = FS := ⟨_, rfl⟩
    obtain ⟨KF, hKF⟩ : ∃ KF, K + 4125 * t.cnt = KF := ⟨_, rfl⟩
    rw [hFS, hKF]
    rw [hKF] at hK
    go_enter Try.func69, Try.ntmps69
    go_wp2_with fail
    go_loopw [2] (fun v2 wr => ∃ (q : Nat) (t1 : CT) (s1 : Nat × (Nat → Nat)) (K1 nn1 : Nat), v2 = zI q ∧ BT n (opZ zs) (mZ zs) q t1 e ∧ evG (opZ zs) pr D Mn t1 s1 = FS ∧ BdC K1 s1 ∧ nn1 ≤ K1 ∧ K1 + 4125 * t1.cnt ≤ KF ∧ Prd wr bp bq m0 m1 m2 m3 m4 s1.1 nn1 s1.2 ∧ FrB bp bq w wr ∧ p ≤ q)
      (fun v2 _ => n - (intOf v2).toNat)
    case atStart => exact ⟨p, t, s, K, nn, rfl, B0, hFS, hB, hnn, by omega, hC, FrB.refl _ _ _, Nat.le_refl _⟩
    case round =>
      clear B0 hFS hB hC hnn
      obtain ⟨q, t1, s1, K1, nn1, rfl, B, hFS, hB, hnn, hK1, hC, hF, hpq⟩ := hrel
      have hL1 := hL.frb hF
      have hB' := B.ge
      have hinv := B.inv
      rcases hinv with ⟨rfl, rfl, h⟩ | hinv
      · have FIN : Hid ((∃ nn', nn' ≤ KF ∧ Prd wr bp bq m0 m1 m2 m3 m4 FS.1 nn' FS.2) ∧ FrB bp bq w wr) := ⟨⟨nn1, by omega, hFS ▸ hC⟩, hF⟩
        by_cases hq : q = n
        · have hlt : ¬ (q : Int) < (n : Int) := by omega
          clear hC hF hL1 hFS hB h
          go_wp2_with fail
          go_ret
          exact ⟨rfl, FIN.out⟩
        · obtain ⟨hqn, h4⟩ : q < n ∧ opZ zs q = 4 := by omega
          have hlt : (q : Int) < (n : Int) := by omega
          rcases hL1 with h0 | ⟨g, rfl, hg, hgk, hgr, hcell⟩
          · omega
          have x0 : wr.cell? ⟨g, q * 9, none⟩ = some (.int .i64 4) := by rw [hcell _ (by omega)]; exact congrArg _ (congrArg _ h4)
          clear hC hF hFS hB hcell h h4
          go_wp2_with fail
          go_ret
          exact ⟨rfl, FIN.out⟩
      · obtain ⟨hqn, h4⟩ : q < n ∧ opZ zs q ≠ 4 := by
          rcases hinv with ⟨t2, _, h1, h2, _⟩ | ⟨m, e1, tb, t2, _, h1, h2, _⟩
          · exact ⟨h1, h2⟩
          · exact ⟨h1, by rw [h2]; decide⟩
        have hlt : (q : Int) < (n : Int) := by omega
        rcases hL1 with h0 | ⟨g, rfl, hg, hgk, hgr, hcell⟩
        · omega
        obtain ⟨o, eo⟩ : ∃ z, zs.getD (q * 9) 0 = z := ⟨_, rfl⟩
        have x0 : wr.cell? ⟨g, q * 9, none⟩ = some (zI o) := by rw [hcell _ (by omega), eo]
        obtain ⟨z1, ez1⟩ : ∃ z, zs.getD (q * 9 + 1) 0 = z := ⟨_, rfl⟩
        have x1 : wr.cell? ⟨g, q * 9 + 1, none⟩ = some (zI z1) := by rw [hcell _ (by omega), ez1]
        obtain ⟨d, ed⟩ : ∃ z, zs.getD (q * 9 + 2) 0 = z := ⟨_, rfl⟩
        have x2 : wr.cell? ⟨g, q * 9 + 2, none⟩ = some (zI d) := by rw [hcell _ (by omega), ed]
        obtain ⟨z3, ez3⟩ : ∃ z, zs.getD (q * 9 + 3) 0 = z := ⟨_, rfl⟩
        have x3 : wr.cell? ⟨g, q * 9 + 3, none⟩ = some (zI z3) := by rw [hcell _ (by omega), ez3]
        obtain ⟨z4, ez4⟩ : ∃ z, zs.getD (q * 9 + 4) 0 = z := ⟨_, rfl⟩
        have x4 : wr.cell? ⟨g, q * 9 + 4, none⟩ = some (zI z4) := by rw [hcell _ (by omega), ez4]
        obtain ⟨z5, ez5⟩ : ∃ z, zs.getD (q * 9 + 5) 0 = z := ⟨_, rfl⟩
        have x5 : wr.cell? ⟨g, q * 9 + 5, none⟩ = some (zI z5) := by rw [hcell _ (by omega), ez5]
        obtain ⟨z6, ez6⟩ : ∃ z, zs.getD (q * 9 + 6) 0 = z := ⟨_, rfl⟩
        have x6 : wr.cell? ⟨g, q * 9 + 6, none⟩ = some (zI z6) := by rw [hcell _ (by omega), ez6]
        obtain ⟨z7, ez7⟩ : ∃ z, zs.getD (q * 9 + 7) 0 = z := ⟨_, rfl⟩
        have x7 : wr.cell? ⟨g, q * 9 + 7, none⟩ = some (zI z7) := by rw [hcell _ (by omega), ez7]
        obtain ⟨mm, emm⟩ : ∃ z, zs.getD (q * 9 + 8) 0 = z := ⟨_, rfl⟩
        have x8 : wr.cell? ⟨g, q * 9 + 8, none⟩ = some (zI mm) := by rw [hcell _ (by omega), emm]
        have hR := HA.out.right q hqn
        have hP := (HA.out.pri q hqn).2.1
        have hp20 := (HA.out.pri q hqn).2.2
        have hD := HA.out.d q
        have hMn := HA.out.m q
        unfold RightZ at hR
        unfold mV rowV at hP
        unfold opZ mZ at hR
        unfold opZ at h4
        unfold mZ at hMn
        rw [eo] at h4
        rw [eo, ed, emm] at hR
        rw [ed] at hD
        rw [emm] at hMn
        rw [eo, ez1, ed, ez3, ez4, ez5, ez6, ez7, emm] at hP
        have P107 : Hid (∀ w, Calls Try.prog 89 #[.agg #[.int .i64 m0, .int .i64 m1, .int .i64 m2, .int .i64 m3, .int .i64 m4], .agg #[zI o, zI z1, zI d, zI z3, zI z4, zI z5, zI z6, zI z7, zI mm]] w fun en w' => en = .returned (.int .i64 (pr q : Nat)) ∧ Below w.heap.size w w') := hP
        obtain ⟨X, hX⟩ : ∃ X, wr.heap.size = X := ⟨_, rfl⟩
        have Ba := below_alloc wr (.cells #[zI o, zI z1, zI d, zI z3, zI z4, zI z5, zI z6, zI z7, zI mm] 29)
        have y1 := below_row (w := wr) #[zI o, zI z1, zI d, zI z3, zI z4, zI z5, zI z6, zI z7, zI mm] 29 hX
        have hC1 := hC.below Ba
        have hF1 := hF.trans (FrB.of_below Ba)
        have hz1 : (wr.alloc (.cells #[zI o, zI z1, zI d, zI z3, zI z4, zI z5, zI z6, zI z7, zI mm] 29)).heap.size = X + 1 := by simp only [World.alloc, Array.size_push]; omega
        have hkX : bp < X ∧ bq < X := ⟨by have := hC.lk; omega, by have := hC.lq; omega⟩
        replace y1 := hidI y1
        replace hC1 := hidI hC1
        replace hF1 := hidI hF1
        replace hB := hidI hB
        replace hFS := hidI hFS
        replace hinv := hidI hinv
        have hoI : opZ zs q = o := eo
        have hmI : mZ zs q = mm := emm
        replace hoI := hidI hoI
        replace hmI := hidI hmI
        have h4b : (o == 4) = false := by simp [h4]
        clear hC hF hP hcell eo ez1 ed ez3 ez4 ez5 ez6 ez7 emm B
        go_upto_region 3 with fail
        obtain ⟨w1, hw1⟩ : ∃ w1, wr.alloc (.cells #[zI o, zI z1, zI d, zI z3, zI z4, zI z5, zI z6, zI z7, zI mm] 29) = w1 := ⟨_, rfl⟩
        rw [hw1] at y1 hC1 hF1 hz1
        rw [hw1]
        try rw [hX]
        clear hw1 Ba hX x0 x1 x2 x3 x4 x5 x6 x7 x8
        obtain ⟨pp, hpp⟩ : ∃ pp, pr q = pp := ⟨_, rfl⟩
        rw [hpp] at P107 hp20
        replace hpp := hidI hpp
        have q107 := P107.out
        obtain ⟨c, rr⟩ := s1
        have hcB : c ≤ 4000000000000 := by have := hB.out.1; omega
        by_cases h18 : o = 18
        · subst h18
          obtain ⟨hd0, hd1, hm0, hm1⟩ := hR.2.2.1 rfl
          obtain ⟨dn, rfl⟩ : ∃ dn : Nat, d = dn := ⟨d.toNat, by omega⟩
          have hdq : dn < 4 := by have := HA.out.q; omega
          obtain ⟨Mx, rfl⟩ : ∃ Mx : Nat, mm = Mx := ⟨mm.toNat, by omega⟩
          have hrB : rr dn ≤ 4000000000000 := by have := hB.out.2 dn; simp only at this; omega
          have yy := y1.out
          have hwt := wait_c hC1.out hdq
          go_wp2_with fail
          refine hwt.mono ?_
          rintro en w8 ⟨rfl, hC2, hF8⟩
          have hF2 := hF1.out.trans hF8
          have y2 : ∀ j, w8.cell? ⟨X, j, none⟩ = #[zI 18, zI z1, zI dn, zI z3, zI z4, zI z5, zI z6, zI z7, zI Mx][j]? := fun j => by rw [hF8.cell (by show X < _; omega) (by show X ≠ bp; omega) (by show X ≠ bq; omega)]; exact y1.out j
          have hz2 : X < w8.heap.size := by have := hF8.size; omega
          obtain ⟨cm, hcm⟩ : ∃ cm, max c (rr dn) = cm := ⟨_, rfl⟩
          have hcmB : cm ≤ 4000000000000 := by omega
          obtain ⟨rq, hrq⟩ : ∃ rq : Nat → Nat, (fun k => if k = dn then 0 else rr k) = rq := ⟨_, rfl⟩
          rw [hcm, hrq] at hC2
          replace hC2 := hidI hC2
          replace hF2 := hidI hF2
          replace y2 := hidI y2
          replace hcm := hidI hcm
          replace hrq := hidI hrq
          clear hwt hF8 hC1 hF1 y1 yy hz1
          obtain ⟨k0, k1, k2, k3, k4⟩ := hC2.out.ms
          have k5 := hC2.out.c5
          have f5 := hC2.out.f5
          have yy := y2.out
          have hwr : Hid (IntKind.i64.wrap ((cm : Int) + (pp : Int)) = ((cm + pp : Nat) : Int)) := by show _ = _; rw [i64_in _ (by omega)]; simp
          have hwr2 : Hid ((cm : Int) + (pp : Int) = ((cm + pp : Nat) : Int)) := by show _ = _; simp
          go_upto_region 5 with fail
          go_cut [] from 10 to 98 (fun w' => Prd w' bp bq m0 m1 m2 m3 m4 (cm + pp) nn1 rq ∧ FrB bp bq w w' ∧ (∀ j, w'.cell? ⟨X, j, none⟩ = #[zI 18, zI z1, zI dn, zI z3, zI z4, zI z5, zI z6, zI z7, zI Mx][j]?) ∧ X < w'.heap.size)
          case first =>
            go_region_with (first
              | (go_at_call 89
                 refine (q107 _).mono ?_
                 rintro e w2 ⟨rfl, B2x⟩
                 have D12 : Below w8.heap.size w8 w2 := by first | exact B2x | exact (⟨rfl, rfl, rfl, Nat.le_refl _, fun _ _ => rfl⟩ : Below w8.heap.size w8 w8.drew).trans B2x
                 have hCx := Prd.below hC2.out D12
                 have k5x : w2.cell? ⟨bp, 5, none⟩ = some (zI cm) := hCx.c5
                 have f5x := hCx.f5))
            all_goals (
              go_wp2_with fail
              go_meet
              case rel =>
                first | rw [hwr.out] | rw [hwr2.out]
                exact ⟨(Prd.cyc hCx _).1, (hF2.out.trans (FrB.of_below D12)).trans (Prd.cyc hCx _).2, fun j => by rw [World.cell?_setCell_other _ _ _ _ (fun e => by cases e; omega)]; exact rowis_below yy D12 (by omega) j, by rw [csize_set]; have := D12.size; omega⟩)
          case rest =>
            obtain ⟨hCc, hFc, hyc, hXc⟩ := hcut
            replace hCc := hidI hCc
            replace hFc := hidI hFc
            clear hC2 hF2 y2 yy k0 k1 k2 k3 k4 k5 f5 hwr hwr2 q107 P107 hz2
            rcases hinv.out with ⟨t2, rfl, _, _, _, B2⟩ | ⟨m, e1, tb, t2, rfl, _, h3, _⟩
            · replace B2 := hidI B2
              have hK2 : K1 + 4125 + 4125 * t2.cnt ≤ KF := by simp only [CT.cnt] at hK1; omega
              have hFS2 : evG (opZ zs) pr D Mn t2 (stepG (opZ zs) pr D Mn q (c, rr)) = FS := hFS.out
              have hBs : BdC (K1 + 4125) (stepG (opZ zs) pr D Mn q (c, rr)) := hB.out.stepG (by rw [hpp.out]; exact hp20) (fun h => HA.out.mn hqn h)
              have est : stepG (opZ zs) pr D Mn q (c, rr) = (cm + pp, fun k => if k = dn then cm + pp + 8 + Mx else rq k) := by
                unfold stepG waitG
                rw [if_pos hoI.out, hpp.out, hD, hMn, Int.toNat_natCast, Int.toNat_natCast]
                simp only [hcm.out]
                rw [← hrq.out]
              rw [est] at hFS2 hBs
              have hMxB : Mx ≤ 4096 := by have := HA.out.m2; omega
              obtain ⟨w7, hup, hM7, hg7⟩ := (MpAt.block (w' := wc.drew) hCc.out.mp rfl).upd (by omega) hdq (v := cm + pp + 8 + Mx) (by omega)
              have hs2 : ((cm + pp + 8 + Mx : Nat) : Int) = (cm : Int) + (pp : Int) + 8 + (Mx : Int) := by omega
              rw [hs2] at hup
              have k5 : wc.cell? ⟨bp, 5, none⟩ = some (zI ((cm : Int) + (pp : Int))) := by rw [hCc.out.c5]; simp
              have k6 := hCc.out.c6
              have T7 := (hCc.out.below (w' := wc.drew) ⟨rfl, rfl, rfl, Nat.le_refl _, fun _ _ => rfl⟩).turn hM7 ⟨hg7.os, hg7.tape, hg7.output, hg7.size, fun k hk hne => hg7.block k hk (fun e => hne (by cases e; rfl))⟩
              have F7 : FrB bp bq w w7 := (hFc.out.trans (FrB.of_below (w' := wc.drew) ⟨rfl, rfl, rfl, Nat.le_refl _, fun _ _ => rfl⟩)).trans T7.2
              have P7 := hidI T7.1
              replace F7 := hidI F7
              replace hFS2 := hidI hFS2
              replace hBs := hidI hBs
              clear hs2 hM7 hg7 T7
              go_upto_region 8 with fail
              go_region
              clear hup k5 k6 hyc hCc hFc
              go_wp2_with fail
              go_roundw
              case rel => exact ⟨q + 1, t2, _, K1 + 4125, nn1 + 1, by go_num, B2.out, hFS2.out, hBs.out, by omega, hK2, P7.out, F7.out, by omega⟩
              case measure => simp [intOf]; omega
            · rw [hoI.out] at h3
              exact absurd h3 (by decide)
        · have h18b : (o == 18) = false := by simp [h18]
          obtain ⟨k0, k1, k2, k3, k4⟩ := hC1.out.ms
          have k5 := hC1.out.c5
          have f5 := hC1.out.f5
          have yy := y1.out
          have hwr : Hid (IntKind.i64.wrap ((c : Int) + (pp : Int)) = ((c + pp : Nat) : Int)) := by show _ = _; rw [i64_in _ (by omega)]; simp
          have hwr2 : Hid ((c : Int) + (pp : Int) = ((c + pp : Nat) : Int)) := by show _ = _; simp
          go_upto_region 5 with fail
          go_cut [] from 10 to 98 (fun w' => Prd w' bp bq m0 m1 m2 m3 m4 (c + pp) nn1 rr ∧ FrB bp bq w w' ∧ (∀ j, w'.cell? ⟨X, j, none⟩ = #[zI o, zI z1, zI d, zI z3, zI z4, zI z5, zI z6, zI z7, zI mm][j]?) ∧ X < w'.heap.size)
          case first =>
            go_region_with (first
              | (go_at_call 89
                 refine (q107 _).mono ?_
                 rintro e w2 ⟨rfl, B2x⟩
                 have D12 : Below w1.heap.size w1 w2 := by first | exact B2x | exact (⟨rfl, rfl, rfl, Nat.le_refl _, fun _ _ => rfl⟩ : Below w1.heap.size w1 w1.drew).trans B2x
                 have hCx := Prd.below hC1.out D12
                 have k5x : w2.cell? ⟨bp, 5, none⟩ = some (zI c) := hCx.c5
                 have f5x := hCx.f5))
            all_goals (
              go_wp2_with fail
              go_meet
              case rel =>
                first | rw [hwr.out] | rw [hwr2.out]
                exact ⟨(Prd.cyc hCx _).1, (hF1.out.trans (FrB.of_below D12)).trans (Prd.cyc hCx _).2, fun j => by rw [World.cell?_setCell_other _ _ _ _ (fun e => by cases e; omega)]; exact rowis_below yy D12 (by omega) j, by rw [csize_set]; have := D12.size; omega⟩)
          case rest =>
            obtain ⟨hCc, hFc, hyc, hXc⟩ := hcut
            replace hCc := hidI hCc
            replace hFc := hidI hFc
            clear hC1 hF1 y1 yy k0 k1 k2 k3 k4 k5 f5 hwr hwr2 q107 P107 hz1
            rcases hinv.out with ⟨t2, rfl, _, _, h3, B2⟩ | ⟨m, e1, tb, t2, rfl, _, h3, hm, hm1, hb, he, hop4, hcr⟩
            · rw [hoI.out] at h3
              have h3b : (o == 3) = false := by simp [h3]
              replace B2 := hidI B2
              have hK2 : K1 + 4125 + 4125 * t2.cnt ≤ KF := by simp only [CT.cnt] at hK1; omega
              have hFS2 : evG (opZ zs) pr D Mn t2 (stepG (opZ zs) pr D Mn q (c, rr)) = FS := hFS.out
              have hBs : BdC (K1 + 4125) (stepG (opZ zs) pr D Mn q (c, rr)) := hB.out.stepG (by rw [hpp.out]; exact hp20) (fun h => absurd (hoI.out.symm.trans h) h18)
              by_cases h19 : o = 19
              · subst h19
                obtain ⟨hd0, hd1⟩ := hR.2.2.2 rfl
                obtain ⟨dn, rfl⟩ : ∃ dn : Nat, d = dn := ⟨d.toNat, by omega⟩
                have hdq : dn < 4 := by have := HA.out.q; omega
                have hwt := wait_c hCc.out hdq
                have est : stepG (opZ zs) pr D Mn q (c, rr) = (max (c + pp) (rr dn), fun k => if k = dn then 0 else rr k) := by
                  unfold stepG waitG
                  rw [if_neg (by rw [hoI.out]; decide), if_pos hoI.out, hpp.out, hD, Int.toNat_natCast]
                rw [est] at hFS2 hBs
                replace hFS2 := hidI hFS2
                replace hBs := hidI hBs
                go_wp2_with fail
                refine hwt.mono ?_
                rintro en w9 ⟨rfl, hC9, hF9⟩
                have hF9' := hFc.out.trans hF9
                replace hC9 := hidI hC9
                replace hF9' := hidI hF9'
                clear hwt hCc hFc hyc hF9
                go_wp2_with fail
                go_roundw
                case rel => exact ⟨q + 1, t2, _, K1 + 4125, nn1, by go_num, B2.out, hFS2.out, hBs.out, by omega, hK2, hC9.out, hF9'.out, by omega⟩
                case measure => simp [intOf]; omega
              · have h19b : (o == 19) = false := by simp [h19]
                have est : stepG (opZ zs) pr D Mn q (c, rr) = (c + pp, rr) := by
                  unfold stepG
                  rw [if_neg (by rw [hoI.out]; exact h18), if_neg (by rw [hoI.out]; exact h19), hpp.out]
                rw [est] at hFS2 hBs
                replace hFS2 := hidI hFS2
                replace hBs := hidI hBs
                go_wp2_with fail
                go_roundw
                case rel => exact ⟨q + 1, t2, (c + pp, rr), K1 + 4125, nn1, by go_num, B2.out, hFS2.out, hBs.out, by omega, hK2, hCc.out, hFc.out, by omega⟩
                case measure => simp [intOf]; omega
            · rw [hoI.out] at h3
              subst h3
              obtain rfl : mm = (m : Int) := hmI.out.symm.trans hm
              obtain ⟨Z, hZ⟩ : ∃ Z, 4125 * (tb.cnt + 1) = Z := ⟨_, rfl⟩
              have hKm : K1 + 4125 + m * Z + 4125 * t2.cnt ≤ KF := by
                simp only [CT.cnt] at hK1
                have e1 : 4125 * (1 + m * (tb.cnt + 1) + t2.cnt) = 4125 + m * Z + 4125 * t2.cnt := by
                  rw [← hZ, Nat.mul_add, Nat.mul_add, Nat.mul_one, Nat.mul_left_comm]
                omega
              obtain ⟨S2, hS2⟩ : ∃ S2, iter m (fun s => evG (opZ zs) pr D Mn tb (s.1 + 1, s.2)) (c + pp, rr) = S2 := ⟨_, rfl⟩
              have hFS2 : evG (opZ zs) pr D Mn t2 S2 = FS := by rw [← hS2, ← hpp.out]; exact hFS.out
              have hB2 : BdC (K1 + 4125) (c + pp, rr) := hB.out.add (c := pp) (by omega)
              have hb' := hb.ge
              have hc' := hcr.ge
              have hLc := hL.frb hFc.out
              have hex := executed_c (w := wc) (cap := cap) hLc.row hn n (q + 1) tb.cnt e1 (by omega) hb.blk
              have eqq : ((q + 1 : Nat) : Int) = (q : Int) + 1 := by omega
              rw [eqq] at hex
              replace hFS2 := hidI hFS2
              replace hS2 := hidI hS2
              replace hB2 := hidI hB2
              replace hb := hidI hb
              replace hcr := hidI hcr
              replace hLc := hidI hLc
              clear hFS hB hinv
              go_wp2_with fail
              refine hex.mono ?_
              rintro en w0 ⟨rfl, rfl⟩
              clear hex
              go_wp2_with fail
              go_loopw [81] (fun v99 w2 => ∃ (j nn2 : Nat) (s2 : Nat × (Nat → Nat)), v99 = zI j ∧ j ≤ m ∧ iter (m - j) (fun s => evG (opZ zs) pr D Mn tb (s.1 + 1, s.2)) s2 = S2 ∧ BdC (K1 + 4125 + j * Z) s2 ∧ nn2 ≤ K1 + 4125 + j * Z ∧ Prd w2 bp bq m0 m1 m2 m3 m4 s2.1 nn2 s2.2 ∧ FrB bp bq w w2)
                (fun v99 _ => m - (intOf v99).toNat)
              case atStart => exact ⟨0, nn1, _, rfl, Nat.zero_le _, hS2.out, hB2.out.mono (by omega), by omega, hCc.out, hFc.out⟩
              case round =>
                obtain ⟨j, nn2, s2, rfl, hj, hit, hB3, hnn3, hC3, hF3⟩ := hrel
                clear hyc hXc hCc hFc
                by_cases hjm : j < m
                · have hjI : (j : Int) < (m : Int) := by omega
                  obtain ⟨c2, rr2⟩ := s2
                  have hmul : (j + 1) * Z ≤ m * Z := Nat.mul_le_mul_right _ (by omega)
                  rw [Nat.succ_mul j Z] at hmul
                  have hc2 : c2 ≤ 4000000000000 := by have := hB3.1; simp only at this; omega
                  have k5 : _ = some (zI c2) := hC3.c5
                  have f5 := hC3.f5
                  have hcy := Prd.cyc hC3 (c2 + 1)
                  have eqq : ((q + 1 : Nat) : Int) = (q : Int) + 1 := by omega
                  have hB4 : BdC (K1 + 4125 + j * Z + 4125) (c2 + 1, rr2) := hB3.add (c := 1) (by omega)
                  have hZ1 : 4125 + 4125 * tb.cnt = Z := by omega
                  have hrec := HI.out (n - (q + 1)) (by omega) (q + 1) e1 tb (wr.setCell ⟨bp, 5, none⟩ (zI ((c2 + 1 : Nat) : Int))) (c2 + 1, rr2) (K1 + 4125 + j * Z + 4125) nn2 (Nat.le_refl _) hb.out (hL.frb (hF3.trans hcy.2)) hcy.1 (by omega) hB4 (by omega)
                  have hcast : ((c2 + 1 : Nat) : Int) = (c2 : Int) + 1 := by omega
                  rw [hcast, eqq] at hrec
                  rw [hcast] at hcy
                  have hF4 := hF3.trans hcy.2
                  have hit2 : iter (m - (j + 1)) (fun s => evG (opZ zs) pr D Mn tb (s.1 + 1, s.2)) (evG (opZ zs) pr D Mn tb (c2 + 1, rr2)) = S2 := by
                    rw [show m - j = (m - (j + 1)) + 1 by omega] at hit
                    exact hit
                  have hB5 : BdC (K1 + 4125 + (j + 1) * Z) (evG (opZ zs) pr D Mn tb (c2 + 1, rr2)) := (BdC.evG hb.out (fun i hi => (HA.out.pri i hi).2.2) (fun i hi h => HA.out.mn hi h) hB4).mono (by rw [Nat.succ_mul j Z]; omega)
                  obtain ⟨S3, hS3⟩ : ∃ S3, evG (opZ zs) pr D Mn tb (c2 + 1, rr2) = S3 := ⟨_, rfl⟩
                  rw [hS3] at hrec hit2 hB5
                  replace hit2 := hidI hit2
                  replace hB5 := hidI hB5
                  replace hF4 := hidI hF4
                  replace hB4 := hidI hB4
                  clear hit hB3 hC3 hF3 hcy hmul hcast eqq hS3
                  go_wp2_with fail
                  refine hrec.mono ?_
                  rintro e w3 ⟨rfl, ⟨nn5, hn5, hC5⟩, hF5⟩
                  clear hrec k5 f5
                  have hF6 := hF4.out.trans hF5
                  have hn6 : nn5 ≤ K1 + 4125 + (j + 1) * Z := by rw [Nat.succ_mul j Z]; omega
                  replace hC5 := hidI hC5
                  replace hF6 := hidI hF6
                  clear hF4 hF5 hn5
                  go_wp2_with fail
                  go_roundw
                  case rel => exact ⟨j + 1, nn5, S3, by go_num, by omega, hit2.out, hB5.out, hn6, hC5.out, hF6.out⟩
                  case measure => simp [intOf]; omega
                · obtain rfl : j = m := by omega
                  have hjI : ¬ (j : Int) < (j : Int) := by omega
                  rw [Nat.sub_self] at hit
                  obtain rfl : s2 = S2 := hit
                  replace hB3 := hidI hB3
                  replace hC3 := hidI hC3
                  replace hF3 := hidI hF3
                  clear hS2 hB2
                  go_wp2_with fail
                  go_roundw
                  case rel => exact ⟨e1 + 1, t2, s2, K1 + 4125 + j * Z, nn2, by go_num, hcr.out, hFS2.out, hB3.out, hnn3, by omega, hC3.out, hF3.out, by omega⟩
                  case measure => simp [intOf]; omega
end Go.Proofs.Yteabbkagekdehaa
