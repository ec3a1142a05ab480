/- The document's Predicted. -/
import Derived.Test.YteabbkagekdehaaCp12
import Derived.Test.YteabbkagekdehaaCp15
set_option linter.unusedVariables false
set_option linter.unusedSimpArgs false
set_option maxRecDepth 100000
namespace Go.Proofs.Yteabbkagekdehaa
open Go.AE Go.RowKit Go.IntWalk
set_option maxHeartbeats 4000000 in
theorem predicted2_c {w : World} {a : Option Addr} {n cap : Nat} {m0 m1 m2 m3 m4 : Int} {Q : Nat} (hQ : Q ≤ 4) (hq : (Q : Int) = m4) {G : Nat × (Nat → Nat)} {R : Nat} (hR0 : max G.1 (mxTo G.2 Q) = R)
    (hrun : ∀ (w' : World), w'.heap.size = w.heap.size + 3 → Below w.heap.size w w' → Prd w' (w.heap.size + 2) (w.heap.size + 1) m0 m1 m2 m3 m4 0 0 (fun _ => 0) →
      Calls Try.prog 69 #[.pointer (some ⟨w.heap.size + 2, 0, none⟩), .slice a n cap, .int .i64 0] w' fun en w2 => en = .returned (zI n) ∧ (∃ nn', Prd w2 (w.heap.size + 2) (w.heap.size + 1) m0 m1 m2 m3 m4 G.1 nn' G.2) ∧ FrB (w.heap.size + 2) (w.heap.size + 1) w' w2) :
    Calls Try.prog 40 #[mV m0 m1 m2 m3 m4, .slice a n cap] w fun en w' => en = .returned (zI (R : Nat)) ∧ Below w.heap.size w w' := by
  unfold mV
  obtain ⟨bm, hbm⟩ : ∃ bm, w.heap.size = bm := ⟨_, rfl⟩
  obtain rfl : m4 = (Q : Int) := hq.symm
  rw [hbm] at hrun
  have HR := hidI hrun
  have HR0 := hidI hR0
  clear hrun hR0 hq
  have hmk : ∀ w, (Instr.makeMap 100 none).run Try.prog w = .ok (.map (some w.heap.size)) (w.alloc (.map #[] 0)) := fun w => run_makeMap 100 w
  have hzA : (w.alloc (.cells #[zI m0, zI m1, zI m2, zI m3, zI (Q : Int)] 36)).heap.size = bm + 1 := by simp only [World.alloc, Array.size_push]; omega
  go_enter Try.func40, Try.ntmps40
  go_wp2_with fail
  have yA := below_row (w := w) #[zI m0, zI m1, zI m2, zI m3, zI (Q : Int)] 36 hbm
  have BA : Below bm w (w.alloc (.cells #[zI m0, zI m1, zI m2, zI m3, zI (Q : Int)] 36)) := by rw [← hbm]; exact below_alloc w _
  obtain ⟨wA, hwA⟩ : ∃ wA, w.alloc (.cells #[zI m0, zI m1, zI m2, zI m3, zI (Q : Int)] 36) = wA := ⟨_, rfl⟩
  rw [hwA] at yA BA hzA ⊢
  have MB := MpAt.made wA
  have BB := below_alloc wA (.map #[] 0)
  have hzB : (wA.alloc (.map #[] 0)).heap.size = bm + 2 := by simp only [World.alloc, Array.size_push]; omega
  obtain ⟨wB, hwB⟩ : ∃ wB, wA.alloc (.map #[] 0) = wB := ⟨_, rfl⟩
  rw [hwB] at MB BB hzB ⊢
  rw [hzA] at MB BB
  have yC := below_row (w := wB) #[zI m0, zI m1, zI m2, zI m3, zI (Q : Int), zI 0, .map (some (bm + 1))] 102 hzB
  have hnC := heap_alloc_new wB (.cells #[zI m0, zI m1, zI m2, zI m3, zI (Q : Int), zI 0, .map (some (bm + 1))] 102)
  have BC := below_alloc wB (.cells #[zI m0, zI m1, zI m2, zI m3, zI (Q : Int), zI 0, .map (some (bm + 1))] 102)
  have hzC : (wB.alloc (.cells #[zI m0, zI m1, zI m2, zI m3, zI (Q : Int), zI 0, .map (some (bm + 1))] 102)).heap.size = bm + 3 := by simp only [World.alloc, Array.size_push]; omega
  obtain ⟨wC, hwC⟩ : ∃ wC, wB.alloc (.cells #[zI m0, zI m1, zI m2, zI m3, zI (Q : Int), zI 0, .map (some (bm + 1))] 102) = wC := ⟨_, rfl⟩
  rw [hwC] at yC hnC BC hzC ⊢
  rw [hzB] at hnC BC
  have PC : Prd wC (bm + 2) (bm + 1) m0 m1 m2 m3 (Q : Int) 0 0 (fun _ => 0) := ⟨⟨yC 0, yC 1, yC 2, yC 3, yC 4⟩, yC 5, yC 6, frozen_of_row wC (bm + 2) 5 _ 102 hnC, MB.block (BC.block (bm + 1) (by omega)), by omega, by omega, by omega⟩
  have BwC : Below bm w wC := BA.trans ((BB.mono (by omega)).trans (BC.mono (by omega)))
  have yb : ∀ j, wC.cell? ⟨bm, j, none⟩ = #[zI m0, zI m1, zI m2, zI m3, zI (Q : Int)][j]? := rowis_below (rowis_below yA BB (by omega)) BC (by omega)
  refine (HR.out wC hzC BwC PC).mono ?_
  rintro en w2 ⟨rfl, ⟨nn', P2⟩, F2⟩
  have yb2 : w2.cell? ⟨bm, 4, none⟩ = some (zI (Q : Int)) := by rw [F2.cell (by show bm < _; omega) (by show bm ≠ _; omega) (by show bm ≠ _; omega)]; exact yb 4
  have Bw2 : Below bm w w2 := BwC.trans ⟨F2.os, F2.tape, F2.output, F2.size, fun k hk => F2.block k (by omega) (by omega) (by omega)⟩
  have hzz : bm + 3 ≤ w2.heap.size := by have := F2.size; omega
  obtain ⟨cg, gg⟩ := G
  replace P2 := hidI P2
  replace Bw2 := hidI Bw2
  clear hwC hwB hwA hmk HR yA BA MB BB yC hnC BC PC BwC yb F2 hzA hzB hzC
  go_wp2_with fail
  go_loopw [16] (fun v16 wr => ∃ (j c : Nat) (g : Nat → Nat), v16 = zI j ∧ j ≤ Q ∧ Prd wr (bm + 2) (bm + 1) m0 m1 m2 m3 (Q : Int) c nn' g ∧ c = max cg (mxTo gg j) ∧ (∀ k, j ≤ k → g k = gg k) ∧ Below bm w wr ∧ bm + 3 ≤ wr.heap.size)
    (fun v16 _ => Q - (intOf v16).toNat)
  case atStart => exact ⟨0, cg, gg, rfl, Nat.zero_le _, P2.out, by simp [mxTo], fun _ _ => rfl, Bw2.out, hzz⟩
  case round =>
    clear Bw2 P2 yb2 hzz
    obtain ⟨j, c, g, rfl, hj, P3, hc, hg, B3, hz3⟩ := hrel
    by_cases hlt : j < Q
    · have hltI : (j : Int) < (Q : Int) := by omega
      have hwt := wait_c P3 (q := j) (by omega)
      have hgj := hg j (Nat.le_refl _)
      replace B3 := hidI B3
      clear P3
      go_wp2_with fail
      refine hwt.mono ?_
      rintro en w4 ⟨rfl, P4, F4⟩
      have B4 : Below bm w w4 := B3.out.trans ⟨F4.os, F4.tape, F4.output, F4.size, fun k hk => F4.block k (by omega) (by omega) (by omega)⟩
      have hz4 : bm + 3 ≤ w4.heap.size := by have := F4.size; omega
      replace P4 := hidI P4
      replace B4 := hidI B4
      clear hwt F4 B3
      go_wp2_with fail
      go_roundw
      case rel => exact ⟨j + 1, _, _, by go_num, by omega, P4.out, by rw [hgj, hc]; simp only [mxTo]; omega, fun k hk => by rw [if_neg (by omega)]; exact hg k (by omega), B4.out, hz4⟩
      case measure => simp [intOf]; omega
    · obtain rfl : j = Q := by omega
      have hltI : ¬ (j : Int) < (j : Int) := by omega
      have k5 := P3.c5
      have hRc : c = R := by rw [hc]; exact HR0.out
      rw [hRc] at k5
      replace B3 := hidI B3
      clear P3 hc hg
      go_wp2_with fail
      go_ret
      exact ⟨rfl, by first | exact B3.out | (rw [hbm]; exact B3.out)⟩
end Go.Proofs.Yteabbkagekdehaa
