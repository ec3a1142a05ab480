/- ChipRegisters: whatever the list of numbers, the call returns true and turns nothing that was there. -/
import Derived.Test.YteabbkagekdehaaRegs3
import Derived.Test.YteabbkagekdehaaNeA
import Derived.Deep.QuietTactic
import Derived.BigQuiet
set_option linter.unusedVariables false
set_option linter.unusedSimpArgs false
namespace Go.Proofs.Yteabbkagekdehaa
open Go.AE Go.RowKit Go.IntWalk Go.Greedy
theorem below_drewN {B : Nat} {w w' : World} (h : Go.RowKit.Below B w w') (q : Nat) : Go.RowKit.Below B w (w'.drewN q) := ⟨h.os, h.tape, h.output, h.size, h.block⟩
theorem Strm.start (r : Raw) {w : World} (hJ : r.J μ0 w) (e : TypeId) : Strm r w.heap.size w.heap.size 0 (w.alloc (.cells #[.slice r.a r.len r.cap, .int .i64 0] e)) := by
  have hb : ∀ b, b < w.heap.size → (w.alloc (.cells #[.slice r.a r.len r.cap, .int .i64 0] e)).heap[b]? = w.heap[b]? := fun b hb => Below.heap_alloc _ _ _ hb
  refine ⟨Nat.le_refl _, ?_, ?_, ?_, ?_⟩
  · rw [cell_of_row _ w.heap.size 0 _ e (0, 0) (heap_alloc_new w _)]; rfl
  · rw [cell_of_row _ w.heap.size 1 _ e (0, 0) (heap_alloc_new w _)]; rfl
  · exact frozen_of_row _ w.heap.size 1 _ e (heap_alloc_new w _)
  · rcases hJ with h | ⟨b, off, h1, h2, h3, _⟩
    · exact .inl h
    · by_cases h0 : r.len = 0
      · exact .inl h0
      · have hlt : b < w.heap.size := cell_lt (h3 0 (by omega))
        exact .inr ⟨b, off, h1, hlt, h2, fun i hi => by rw [World.cell?_of_block (w := w) (hb b hlt)]; exact h3 i hi⟩
set_option maxHeartbeats 1000000 in
set_option maxRecDepth 10000 in
theorem reg_main (r : Raw) {w : World} (hJ : r.J μ0 w) : Calls Try.prog 6 #[.slice r.a r.len r.cap] w fun e w' => e = .returned (.bool true) ∧ Go.RowKit.Below w.heap.size w w' := by
  have S0 := Strm.start r hJ 25
  obtain ⟨B, hB⟩ : ∃ B, w.heap.size = B := ⟨_, rfl⟩
  have B0 : Go.RowKit.Below B w (w.alloc (.cells #[.slice r.a r.len r.cap, .int .i64 0] 25)) := by rw [← hB]; exact below_alloc w _
  rw [hB] at S0 ⊢
  generalize r.a = ra at *
  generalize r.len = rl at *
  generalize r.cap = rc at *
  go_enter Try.func6, Try.ntmps6
  go_wp2_with fail
  refine (lives_c S0 (by omega)).mono ?_
  rintro e w1 ⟨v, L, k1, rfl, hL13, hok, hown, S1, hk1, O1⟩
  have B1 : Go.RowKit.Below B w w1 := B0.trans (O1.below (Nat.le_refl _) (by have := S0.lt; omega))
  clear S0 O1 B0
  obtain ⟨a, cap, rfl⟩ := ownsRow_shape hown
  have hlives : ∀ j, j < L.length → ∃ g, a = some ⟨g, 0, none⟩ ∧ g < w1.heap.size ∧ B < g ∧ LivesAt g L w1 := fun j hj => by
    rcases hown.2 with ⟨_, h0⟩ | ⟨g, cap', cur, hv, _⟩
    · omega
    · simp only [Value.slice.injEq] at hv
      obtain ⟨rfl, _⟩ := hv
      exact ⟨g, rfl, (hown.lt g rfl).2, by have h := (hown.lt g rfl).1; simp at h; omega, LivesAt.of_row hown⟩
  have hlc : L.length ≤ cap := by
    rcases hown.2 with ⟨_, h0⟩ | ⟨g, cap', cur, hv, _, _, h5, _⟩
    · omega
    · simp only [Value.slice.injEq] at hv
      obtain ⟨_, _, rfl⟩ := hv
      exact h5
  have HLV : Hid (∀ j, j < L.length → ∃ g, a = some ⟨g, 0, none⟩ ∧ g < w1.heap.size ∧ B < g ∧ LivesAt g L w1) := hlives
  have HOK : Hid (∀ x ∈ L, x.ok) := hok
  clear hlives hok hown
  go_wp2_with fail
  refine (pick_n (n := 9) [1, 2, 3, 4, 6, 8, 64, 0, 65] S1 (by omega) rfl (by decide) (by decide) rfl).mono ?_
  rintro e w2 ⟨count, rfl, hcount, S2, O2⟩
  have B2 : Go.RowKit.Below B w w2 := B1.trans (O2.below (Nat.le_refl _) (by have := S1.lt; omega))
  have hsz1 := O2.size
  have HLV2 : Hid (∀ j, j < L.length → ∃ g, a = some ⟨g, 0, none⟩ ∧ g < w2.heap.size ∧ LivesAt g L w2) := fun j hj => by
    obtain ⟨g, h1, h2, h3, h4⟩ := HLV.out j hj
    exact ⟨g, h1, by omega, h4.block (O2.block g h2 (by omega))⟩
  clear HLV hcount S2 O2 S1 B1 hsz1
  have hBw : B ≤ w2.heap.size := by have := B2.size; omega
  go_wp2_with fail
  refine (regs_c (count := count) hL13 HOK.out HLV2.out).mono ?_
  rintro e w3 ⟨B3, gv, err, rfl, hpost⟩
  have HPOST : Hid _ := hpost
  clear hpost
  obtain ⟨W, hW⟩ : ∃ W, w2.heap.size = W := ⟨_, rfl⟩
  obtain ⟨n, hn⟩ : ∃ n, L.length = n := ⟨_, rfl⟩
  have HN : Hid (L.length = n) := hn
  have HW : Hid (w2.heap.size = W) := hW
  rw [hn] at hL13 hlc
  rw [hW] at B3 hBw
  clear hW
  have RD : Hid (∀ wr, Go.RowKit.Below W w2 wr → ∀ j, j < n → ∃ g, a = some ⟨g, 0, none⟩ ∧ g < W ∧ LivesAt g L wr) := fun wr b j hj => by
    obtain ⟨g, h1, h2, h3⟩ := HLV2.out j (by rw [HN.out]; exact hj)
    rw [HW.out] at h2
    exact ⟨g, h1, h2, h3.block (b.block g h2)⟩
  go_wp2_with fail
  go_loopw [8, 32] (fun wv i wr => ∃ (k : Nat) (wn : Int), i = .int .i64 k ∧ wv = .int .i64 wn ∧ k ≤ n ∧ Hid ((wn = 0 ∧ ∀ j, j < k → ¬ Bad L j) ∨ (wn = 1 ∧ ∃ j, j < k ∧ Bad L j)) ∧ Go.RowKit.Below w3.heap.size w3 wr)
    (fun _ i _ => n - (intOf i).toNat)
  case atStart => exact ⟨0, 0, rfl, rfl, by omega, .inl ⟨rfl, fun j h => by omega⟩, Below.refl _ _⟩
  case round =>
    obtain ⟨k, wn, rfl, rfl, hk, hwn, B4⟩ := hrel
    have B34 : Go.RowKit.Below W w2 wr := B3.trans (B4.mono (by have := B3.size; have := HW.out; omega))
    by_cases hlt : k < n
    · obtain ⟨g, rfl, hgw, hl⟩ := RD.out wr B34 k hlt
      obtain ⟨c0, c1, c2, c3⟩ := hl k (by omega)
      have hz : (k : Int) < (n : Int) := by omega
      have nxt : Hid (∀ cs e, Go.RowKit.Below w3.heap.size w3 (wr.alloc (.cells cs e))) := fun cs e => B4.alloc B4.size _
      clear hl B34
      by_cases q : Bad L k
      · have Q : Hid _ := q
        have fin : Hid (((1 : Int) = 0 ∧ ∀ j, j < k + 1 → ¬ Bad L j) ∨ ((1 : Int) = 1 ∧ ∃ j, j < k + 1 ∧ Bad L j)) := .inr ⟨rfl, k, by omega, Q.out⟩
        rcases q with q | q
        · go_wp2_with fail
          go_roundw
          case rel => exact ⟨k + 1, 1, by go_num, rfl, by omega, fin, nxt.out _ _⟩
          case measure => simp [intOf]; omega
        · go_wp2_with fail
          all_goals go_roundw
          all_goals first
            | exact ⟨k + 1, 1, by go_num, rfl, by omega, fin, nxt.out _ _⟩
            | (simp [intOf]; omega)
      · have Q : Hid _ := q
        have q1 : ¬ LF L k < 0 := fun h => q (.inl h)
        have q2 : ¬ LT L k < LF L k := fun h => q (.inr h)
        clear q
        go_wp2_with fail
        go_roundw
        case rel =>
          refine ⟨k + 1, wn, by go_num, rfl, by omega, ?_, nxt.out _ _⟩
          rcases hwn.out with ⟨h1, h2⟩ | ⟨h1, j, h2, h3⟩
          · refine .inl ⟨h1, fun j hj => ?_⟩
            by_cases e : j = k
            · rw [e]; exact Q.out
            · exact h2 j (by omega)
          · exact .inr ⟨h1, j, by omega, h3⟩
        case measure => simp [intOf]; omega
    · have hz : ¬ (k : Int) < (n : Int) := by omega
      have hkn : n = k := by omega
      subst hkn
      have hcr := crowd_c (a := a) (cap := cap) (L := L) (w := wr) (by omega) (fun j hj => by
        obtain ⟨g, h1, h2, h3⟩ := RD.out wr B34 j (by omega)
        exact ⟨g, h1, by have := B34.size; have := HW.out; omega, h3⟩)
      rw [hn] at hcr
      go_wp2_with fail
      refine hcr.mono ?_
      rintro e w5 ⟨crowd, rfl, hcrowd, B5⟩
      have HCR : Hid _ := hcrowd
      have B35 : Go.RowKit.Below w3.heap.size w3 w5 := B4.trans (B5.mono B4.size)
      clear hcr hcrowd B5 B4 B34
      have BEL : Hid (∀ w', Go.RowKit.Below w3.heap.size w3 w' → Go.RowKit.Below B w w') := fun w' b => B2.trans ((B3.trans (b.mono (by have := B3.size; have := HW.out; omega))).mono hBw)
      have last : Hid (∀ w6, Go.RowKit.Below w5.heap.size w5 w6 → Go.RowKit.Below B w w6) := fun w6 b => BEL.out _ (B35.trans (b.mono B35.size))
      have bool4 : Hid (∀ (b : Prop) [Decidable b], b → Ending.returned (.bool (decide b)) = .returned (.bool true)) := fun b _ h => by rw [decide_eq_true h]
      rcases HPOST.out with ⟨⟨j, hj, hjb⟩, rfl, rfl⟩ | ⟨hnb, hcnt, rfl, rfl⟩ | ⟨hnb, hc1, hc2, hov, rfl, rfl⟩ | ⟨hnb, hc1, hc2, rfl, out, l, go, capo, rfl, hgo, hrowg, hgood, hall, hless, hnod, hsub⟩
      · obtain rfl : wn = 1 := by
          rcases hwn.out with ⟨_, h2⟩ | ⟨h1, _⟩
          · exact absurd hjb (h2 j (by omega))
          · exact h1
        clear hjb hj
        go_wp2_with fail
        refine (chips_calls _).mono ?_
        rintro e w6 ⟨rfl, B6⟩
        go_wp2_with fail
        go_ret
        exact ⟨rfl, last.out _ B6⟩
      · obtain rfl : wn = 0 := by
          rcases hwn.out with ⟨h1, _⟩ | ⟨_, j, h2, h3⟩
          · exact h1
          · exact absurd h3 (hnb j (by omega))
        have HNB : Hid _ := hnb
        clear hnb
        rcases hcnt with hcnt | hcnt
        · go_wp2_with fail
          all_goals refine (chips_calls _).mono ?_
          all_goals rintro e w6 ⟨rfl, B6⟩
          all_goals go_wp2_with fail
          all_goals go_ret
          all_goals exact ⟨rfl, last.out _ B6⟩
        · go_wp2_with fail
          all_goals refine (chips_calls _).mono ?_
          all_goals rintro e w6 ⟨rfl, B6⟩
          all_goals go_wp2_with fail
          all_goals go_ret
          all_goals exact ⟨rfl, last.out _ B6⟩
      · obtain rfl : wn = 0 := by
          rcases hwn.out with ⟨h1, _⟩ | ⟨_, j, h2, h3⟩
          · exact h1
          · exact absurd h3 (hnb j (by omega))
        have hgt : count < (crowd : Int) := by
          obtain ⟨i, h1, h2⟩ := hov
          have := HCR.out.le i (by omega)
          rw [hn] at h2
          omega
        have HNB : Hid _ := hnb
        clear hnb hov
        go_wp2_with fail
        all_goals refine (chips_calls _).mono ?_
        all_goals rintro e w6 ⟨rfl, B6⟩
        all_goals go_wp2_with fail
        all_goals go_ret
        all_goals exact ⟨rfl, last.out _ B6⟩
      · obtain rfl : wn = 0 := by
          rcases hwn.out with ⟨h1, _⟩ | ⟨_, j, h2, h3⟩
          · exact h1
          · exact absurd h3 (hnb j (by omega))
        rw [hn] at hnb hrowg hall hless hsub
        have hle : (crowd : Int) ≤ count := by
          have h := Greedy.Good.crowd hgood hall HCR.out (count := count.toNat) (fun i hi => by have := hless i hi; omega)
          omega
        have hlo : Hid (∀ i, i < n → out i < crowd) := fun i hi => Nat.lt_of_lt_of_le (Greedy.Good.lt (n := n) (fun j hj => by have h := hnb j hj; unfold Bad at h; omega) hgood hnod hsub i (hall i hi)) (HCR.out.le i hi)
        have hap : Hid (∀ i, i < n → ∀ j, j < n → i ≠ j → LF L i ≤ LT L j → LF L j ≤ LT L i → out i ≠ out j) := fun i hi j hj => Greedy.Good.apart hgood i (hall i hi) j (hall j hj)
        have HROW : Hid (RowAt go n (fun t => (out t : Int)) w3) := hrowg
        clear hnb hrowg hgood hall hless hnod hsub HCR hwn
        go_wp2_with fail
        refine (chips_calls _).mono ?_
        rintro e w6 ⟨rfl, B6⟩
        have B36 : Go.RowKit.Below w3.heap.size w3 w6 := B35.trans (B6.mono B35.size)
        clear B6 B35 last
        go_wp2_with fail
        go_loopw [91] (fun i wr => ∃ k : Nat, i = .int .i64 k ∧ k ≤ n ∧ Go.RowKit.Below w3.heap.size w3 wr) (fun i _ => n - (intOf i).toNat)
        case atStart => exact ⟨0, rfl, by omega, B36⟩
        case round =>
          clear B36
          obtain ⟨k, rfl, hk, B7⟩ := hrel
          by_cases hlt : k < n
          · obtain ⟨g, rfl, hgw, hl⟩ := RD.out wr (B3.trans (B7.mono (by have := B3.size; have := HW.out; omega))) k hlt
            obtain ⟨c0, c1, c2, c3⟩ := hl k (by omega)
            have hgoL : go < w3.heap.size := cell_lt (HROW.out k hlt).1
            have hrow : RowAt go n (fun t => (out t : Int)) wr := HROW.out.block (B7.block go hgoL)
            have ck := (hrow k hlt).1
            have hz : (k : Int) < (n : Int) := by omega
            have o1 := hlo.out k hlt
            have o2 : ¬ (crowd : Int) ≤ (out k : Int) := by omega
            have hkz : (k : Int) ≤ (n : Int) := by omega
            have hkc : k ≤ cap := by omega
            obtain ⟨X, hX⟩ : ∃ X, wr.heap.size = X := ⟨_, rfl⟩
            have hX3 : w3.heap.size ≤ X := by rw [← hX]; exact B7.size
            have hWX : W ≤ w3.heap.size := by have := B3.size; have := HW.out; omega
            have ck2 : ∀ cs e, (wr.alloc (.cells cs e)).cell? ⟨go, k, none⟩ = some (.int .i64 (out k)) := fun cs e => by rw [World.cell?_of_block (w := wr) (Below.heap_alloc _ _ _ (by simp only; omega))]; exact ck
            clear hl hrow
            go_wp2_with fail
            go_loopw [113] (fun i wr8 => ∃ j : Nat, i = .int .i64 j ∧ j ≤ k ∧ wr8.cell? ⟨X, 1, none⟩ = some (.int .i64 (LF L k)) ∧ wr8.cell? ⟨X, 2, none⟩ = some (.int .i64 (LT L k)) ∧ X < wr8.heap.size ∧ Go.RowKit.Below w3.heap.size w3 wr8) (fun i _ => n - (intOf i).toNat)
            case atStart =>
              refine ⟨0, rfl, by omega, ?_, ?_, by simp [hX], B7.alloc B7.size _⟩
              · rw [← hX, cell_of_row _ wr.heap.size 1 _ 57 (0, 0) (heap_alloc_new wr _)]; rfl
              · rw [← hX, cell_of_row _ wr.heap.size 2 _ 57 (0, 0) (heap_alloc_new wr _)]; rfl
            case round =>
              clear c0 c1 c2 c3 ck ck2 B7 hX
              obtain ⟨j, rfl, hj, a1, a2, hXl, B8⟩ := hrel
              by_cases hlt2 : j < k
              · obtain ⟨g2, hg2, hgw2, hl⟩ := RD.out wr (B3.trans (B8.mono hWX)) j (by omega)
                obtain rfl : g = g2 := by simpa using hg2
                clear hg2
                obtain ⟨c0, c1, c2, c3⟩ := hl j (by omega)
                have hrow : RowAt go n (fun t => (out t : Int)) wr := HROW.out.block (B8.block go hgoL)
                have ck := (hrow k hlt).1
                have cj := (hrow j (by omega)).1
                have hz2 : (j : Int) < (k : Int) := by omega
                have hz3 : (j : Int) < (n : Int) := by omega
                have nxt : Hid (∀ cs e, (wr.alloc (.cells cs e)).cell? ⟨X, 1, none⟩ = some (.int .i64 (LF L k)) ∧ (wr.alloc (.cells cs e)).cell? ⟨X, 2, none⟩ = some (.int .i64 (LT L k)) ∧ X < (wr.alloc (.cells cs e)).heap.size ∧ Go.RowKit.Below w3.heap.size w3 (wr.alloc (.cells cs e))) := fun cs e =>
                  ⟨by rw [World.cell?_of_block (w := wr) (Below.heap_alloc _ _ _ hXl)]; exact a1, by rw [World.cell?_of_block (w := wr) (Below.heap_alloc _ _ _ hXl)]; exact a2, by simp; omega, B8.alloc B8.size _⟩
                have ck2 : ∀ cs e, (wr.alloc (.cells cs e)).cell? ⟨go, k, none⟩ = some (.int .i64 (out k)) := fun cs e => by rw [World.cell?_of_block (w := wr) (Below.heap_alloc _ _ _ (by simp only; omega))]; exact ck
                have cj2 : ∀ cs e, (wr.alloc (.cells cs e)).cell? ⟨go, j, none⟩ = some (.int .i64 (out j)) := fun cs e => by rw [World.cell?_of_block (w := wr) (Below.heap_alloc _ _ _ (by simp only; omega))]; exact cj
                obtain ⟨Y, hY⟩ : ∃ Y, wr.heap.size = Y := ⟨_, rfl⟩
                obtain ⟨wq, hwq⟩ : ∃ wq, wr.alloc (.cells #[.int .i64 (L[j]?.getD default).node, .int .i64 (LF L j), .int .i64 (LT L j), .int .i64 (L[j]?.getD default).size] 57) = wq := ⟨_, rfl⟩
                have e1 : wq.cell? ⟨go, k, none⟩ = some (.int .i64 (out k)) := by rw [← hwq]; exact ck2 _ _
                have e2 : wq.cell? ⟨go, j, none⟩ = some (.int .i64 (out j)) := by rw [← hwq]; exact cj2 _ _
                have N : Hid (wq.cell? ⟨X, 1, none⟩ = some (.int .i64 (LF L k)) ∧ wq.cell? ⟨X, 2, none⟩ = some (.int .i64 (LT L k)) ∧ X < wq.heap.size ∧ Go.RowKit.Below w3.heap.size w3 wq) := by rw [← hwq]; exact nxt.out _ _
                have e3 := N.out.1
                have e4 := N.out.2.1
                have e5 : wq.cell? ⟨Y, 1, none⟩ = some (.int .i64 (LF L j)) := by rw [← hwq, ← hY, cell_of_row _ wr.heap.size 1 _ 57 (0, 0) (heap_alloc_new wr _)]; rfl
                have e6 : wq.cell? ⟨Y, 2, none⟩ = some (.int .i64 (LT L j)) := by rw [← hwq, ← hY, cell_of_row _ wr.heap.size 2 _ 57 (0, 0) (heap_alloc_new wr _)]; rfl
                have hapkj := hap.out k hlt j (by omega) (by omega)
                have HAP : Hid _ := hapkj
                clear hl hrow hapkj ck2 cj2 nxt
                go_wp2_with fail
                clear hY hwq
                by_cases h1 : out k = out j
                · have h1z : ((out k : Int) == (out j : Int)) = true := by simp [h1]
                  by_cases h2 : LF L k ≤ LT L j
                  · have h3 : ¬ LF L j ≤ LT L k := fun h3 => HAP.out h2 h3 h1
                    have H1 : Hid _ := h1
                    clear h1
                    go_quiet (fail)
                    clear e1 e2 e3 e4 e5 e6
                    go_wp2_with fail
                    go_roundw
                    case rel => exact ⟨j + 1, by go_num, by omega, N.out.1, N.out.2.1, N.out.2.2.1, below_drewN N.out.2.2.2 _⟩
                    case measure => simp [intOf]; omega
                  · have H1 : Hid _ := h1
                    clear h1
                    go_quiet (fail)
                    clear e1 e2 e3 e4 e5 e6
                    go_wp2_with fail
                    go_roundw
                    case rel => exact ⟨j + 1, by go_num, by omega, N.out.1, N.out.2.1, N.out.2.2.1, below_drewN N.out.2.2.2 _⟩
                    case measure => simp [intOf]; omega
                · have h1z : ((out k : Int) == (out j : Int)) = false := by simp; omega
                  have H1 : Hid _ := h1
                  clear h1
                  go_quiet (fail)
                  clear e1 e2 e3 e4 e5 e6
                  go_wp2_with fail
                  go_roundw
                  case rel => exact ⟨j + 1, by go_num, by omega, N.out.1, N.out.2.1, N.out.2.2.1, below_drewN N.out.2.2.2 _⟩
                  case measure => simp [intOf]; omega
              · have hz2 : ¬ (j : Int) < (k : Int) := by omega
                go_wp2_with fail
                go_roundw
                case rel => exact ⟨k + 1, by go_num, by omega, B8⟩
                case measure => simp [intOf]; omega
          · have hz : ¬ (k : Int) < (n : Int) := by omega
            go_wp2_with fail
            go_ret
            exact ⟨rfl, BEL.out _ B7⟩
end Go.Proofs.Yteabbkagekdehaa
