/- Stream.Code: whatever the numbers, instructions of small number, in memory of the call's own. -/
import Derived.Test.YteabbkagekdehaaHcB
import Derived.RegionTactic
import Derived.BigRegion
set_option linter.unusedVariables false
set_option linter.unusedSimpArgs false
set_option maxRecDepth 100000
namespace Go.Proofs.Yteabbkagekdehaa
open Go.AE Go.RowKit Go.IntWalk
theorem CS.setSt {r : Raw} {n0 s b base K n : Nat} {l q st : Int} {w0 w : World} (h : CS r n0 s b base l q st w0 K n w) (z : Int) : CS r n0 s b base l q z w0 K n (w.setCell ⟨b, 7, none⟩ (.int .i64 z)) := by
  obtain ⟨C, O⟩ := h
  obtain ⟨k, hk, S⟩ := C.S
  obtain ⟨a, cap, zs, c6, hown⟩ := C.row
  have hlt := C.lt
  have bl : ∀ k, k ≠ b → (w.setCell ⟨b, 7, none⟩ (.int .i64 z)).heap[k]? = w.heap[k]? := fun k hk => Below.heap_setCell _ _ _ _ (by exact hk)
  have c : ∀ o, o ≠ 7 → (w.setCell ⟨b, 7, none⟩ (.int .i64 z)).cell? ⟨b, o, none⟩ = w.cell? ⟨b, o, none⟩ := fun o ho => World.cell?_setCell_other _ _ _ _ (fun e => ho (by cases e; rfl))
  refine ⟨⟨⟨k, hk, S.keep fun x hx => bl x (by have := S.lo; omega)⟩, ⟨hlt.1, hlt.2.1, hlt.2.2.1, hlt.2.2.2.1, by rw [csize_set]; exact hlt.2.2.2.2⟩, by rw [c _ (by decide)]; exact C.cP, by rw [c _ (by decide)]; exact C.cL, by rw [c _ (by decide)]; exact C.cQ, ⟨a, cap, zs, by rw [c _ (by decide)]; exact c6, ?_⟩, World.cell?_setCell_same _ _ _ C.cS, fun o => by rw [World.frozen?_setCell]; exact C.fz o⟩,
    ⟨O.os, O.tape, O.output, by rw [csize_set]; exact O.size, fun k h1 h2 h3 => (bl k h3).trans (O.block k h1 h2 h3)⟩⟩
  obtain ⟨q1, q2⟩ := hown
  refine ⟨q1, ?_⟩
  rcases q2 with q2 | ⟨g, cap', cur, hv, hg, hh, rr⟩
  · exact .inl q2
  · exact .inr ⟨g, cap', cur, hv, hg, by rw [bl g (by omega)]; exact hh, rr⟩
theorem one3_c {r : Raw} {n0 s b base K n : Nat} {l q st : Int} {w0 w : World} (C : CS r n0 s b base l q st w0 K n w) (hst : st = 0 ∨ st = 16) (hl : 1 ≤ l ∧ l ≤ 8) (hq : 1 ≤ q ∧ q ≤ 4) (hK : K + 1086 ≤ 900000) (hN : n + 170 ≤ 90000) :
    Calls Try.prog 83 #[.pointer (some ⟨b, 0, none⟩), .int .i64 3] w fun e w' => ∃ u, e = .returned u ∧ ∃ n', n ≤ n' ∧ n' ≤ n + 170 ∧ CS r n0 s b base l q st w0 (K + 1086) n' w' :=
  (one_L3 (r := r) (n0 := n0) (s := s) (b := b) (base := base) (W0 := w0) hst hl hq).2.2 (blk := fun i => if i = 0 then s else b) (B := 0) rfl rfl C hK hN (us := [.pointer (some ⟨b, 0, none⟩), .int .i64 3]) (.cons ⟨0, rfl, fun n hn => by cases hn⟩ (.cons ⟨0, ⟨3, rfl, Int.le_refl _, Int.le_refl _⟩, fun n hn => by cases hn⟩ .nil))
/-- what a maker of code leaves -/
def PostCode (r : Raw) (n0 s : Nat) (w : World) (N k : Nat) (e : Ending) (w' : World) : Prop := ∃ a n cap zs k', e = .returned (.slice a n cap) ∧ n ≤ N ∧ w'.ownsRow w.heap.size 29 9 (.slice a n cap) n (zcells zs) ∧ Strm r n0 s k' w' ∧ k' ≤ k ∧ Oth s w w'
section
variable {r : Raw} {n0 s : Nat} {w : World}
set_option maxHeartbeats 1000000 in
theorem code_c {k : Nat} (S : Strm r n0 s k w) (hk : k < 500000) (m0 m1 m2 m3 m4 : Int) {many : Nat} (hmany : many ≤ 14) :
    Calls Try.prog 56 #[.pointer (some ⟨s, 0, none⟩), .agg #[.int .i64 m0, .int .i64 m1, .int .i64 m2, .int .i64 m3, .int .i64 m4], .int .i64 many, .int .i64 3] w (PostCode r n0 s w 3000 (k + 20000)) := by
  obtain ⟨q, hq⟩ : ∃ q, max 1 (min m4 4) = q := ⟨_, rfl⟩
  obtain ⟨l, hl⟩ : ∃ l, max 1 (min m3 8) = l := ⟨_, rfl⟩
  have Hq : 1 ≤ q ∧ q ≤ 4 := by omega
  have Hl : 1 ≤ l ∧ l ≤ 8 := by omega
  have hs := S.lt
  go_enter Try.func56, Try.ntmps56
  go_wp2_with fail
  go_region
  clear hq hl
  obtain ⟨wa, hwa⟩ : ∃ wa, w.alloc (.cells #[.int .i64 m0, .int .i64 m1, .int .i64 m2, .int .i64 m3, .int .i64 m4] 36) = wa := ⟨_, rfl⟩
  have Ba : Below w.heap.size w wa := by rw [← hwa]; exact below_alloc w _
  have hza : wa.heap.size = w.heap.size + 1 := by rw [← hwa]; simp
  rw [hwa]
  obtain ⟨b, hb⟩ : ∃ b, w.heap.size + 1 = b := ⟨_, rfl⟩
  have hzb : wa.heap.size = b := by omega
  rw [hb]
  obtain ⟨W0, hW0⟩ : ∃ W0, (wa.alloc (.cells #[.pointer (some ⟨s, 0, none⟩), .int .i64 m0, .int .i64 m1, .int .i64 m2, .int .i64 l, .int .i64 q, .slice none 0 0, .int .i64 0] 136)).drew = W0 := ⟨_, rfl⟩
  have B0 : Below w.heap.size w W0 := by
    rw [← hW0]
    exact Ba.trans ((below_alloc wa _).mono (by omega) |>.trans ⟨rfl, rfl, rfl, Nat.le_refl _, fun _ _ => rfl⟩)
  have hz0 : W0.heap.size = b + 1 := by rw [← hW0]; show (wa.alloc _).heap.size = _; simp [hzb]
  have hcell : W0.heap[b]? = some (.cells #[.pointer (some ⟨s, 0, none⟩), .int .i64 m0, .int .i64 m1, .int .i64 m2, .int .i64 l, .int .i64 q, .slice none 0 0, .int .i64 0] 136) := by
    rw [← hW0, ← hzb]; exact heap_alloc_new wa _
  have C0 : CS r n0 s b (b + 1) l q 0 W0 k 0 W0 := by
    refine ⟨⟨⟨k, Nat.le_refl _, S.below B0⟩, ⟨by have := S.lo; omega, by omega, by omega, by omega, by omega⟩, by simp [World.cell?, hcell], by simp [World.cell?, hcell], by simp [World.cell?, hcell], ⟨none, 0, [], by simp [World.cell?, hcell], World.ownsRow_nil _ _ _ _⟩, by simp [World.cell?, hcell], fun o => by simp [World.frozen?, hcell]⟩, Oth2.refl _ _ _ _⟩
  rw [hW0]
  have FIN : Hid (∀ (st : Int) (K n : Nat) (w' : World), CS r n0 s b (b + 1) l q st W0 K n w' → K ≤ k + 20000 → n ≤ 3000 → ∃ a cap, w'.cell? ⟨b, 6, none⟩ = some (.slice a n cap) ∧ PostCode r n0 s w 3000 (k + 20000) (.returned (.slice a n cap)) w') := by
    intro st K n w' C hK hn
    obtain ⟨a, cap, zs, c6, hown⟩ := C.c.row
    obtain ⟨k', hk', S'⟩ := C.c.S
    refine ⟨a, cap, c6, a, n, cap, zs, k', rfl, hn, ownsRow_base hown (by omega), S', by omega, ⟨C.o.os.trans B0.os, C.o.tape.trans B0.tape, C.o.output.trans B0.output, Nat.le_trans B0.size C.o.size, fun c hc hcs => ?_⟩⟩
    rw [C.o.block c (by omega) hcs (by omega)]
    exact B0.block c hc
  clear hcell B0 hW0 Ba hwa S
  clear hb hzb hza hz0
  go_wp2_with fail
  refine (cflip C0 (by omega) (by omega) (by omega)).mono ?_
  rintro e w1 ⟨v, rfl, C1⟩
  cases v
  · have c7 := C1.c.cS
    have f7 := C1.c.fz 7
    go_wp2_with fail
    refine (cnext (C1.setSt 16) (by omega) (by omega) (by omega)).mono ?_
    rintro e w2 ⟨x, rfl, x0, x1, C2, -, -⟩
    clear c7 f7
    go_wp2_with fail
    refine (cadd C2 (by omega) _ _ _ _ _ _ _ _ _).mono ?_
    rintro e w3 ⟨rfl, C3⟩
    go_wp2_with fail
    refine (cadd C3 (by omega) _ _ _ _ _ _ _ _ _).mono ?_
    rintro e w4 ⟨rfl, CX⟩
    go_wp2_with fail
    clear C1 C2 C3 C0
    go_loopw [45] (fun i wr => ∃ (j n K : Nat), i = .int .i64 j ∧ j ≤ many ∧ K ≤ k + 10 + 1086 * j ∧ n ≤ 2 + 170 * j ∧ CS r n0 s b (b + 1) l q 16 W0 K n wr)
      (fun i _ => many - (intOf i).toNat)
    case atStart => exact ⟨0, _, _, rfl, Nat.zero_le _, by omega, by omega, CX⟩
    case round =>
      clear CX
      obtain ⟨j, n, K, rfl, hj, hK, hn, C⟩ := hrel
      by_cases hlt : j < many
      · have hltI : (j : Int) < (many : Int) := by omega
        go_wp2_with fail
        refine (one3_c C (by omega) Hl Hq (by omega) (by omega)).mono ?_
        rintro e w4 ⟨u, rfl, n', h1, h2, C'⟩
        go_wp2_with fail
        go_roundw
        case rel => exact ⟨j + 1, n', K + 1086, by go_num, by omega, by omega, by omega, C'⟩
        case measure => simp [intOf]; omega
      · have hjm : j = many := by omega
        obtain ⟨a, cap, c6, h⟩ := FIN.out _ _ _ _ C (by omega) (by omega)
        have h : Hid _ := h
        have hltI : ¬ (j : Int) < (many : Int) := by omega
        go_wp2_with fail
        go_ret
        exact h.out
  · go_wp2_with fail
    have CX := C1
    clear C1 C0
    go_loopw [45] (fun i wr => ∃ (j n K : Nat), i = .int .i64 j ∧ j ≤ many ∧ K ≤ k + 10 + 1086 * j ∧ n ≤ 2 + 170 * j ∧ CS r n0 s b (b + 1) l q 0 W0 K n wr)
      (fun i _ => many - (intOf i).toNat)
    case atStart => exact ⟨0, _, _, rfl, Nat.zero_le _, by omega, by omega, CX⟩
    case round =>
      clear CX
      obtain ⟨j, n, K, rfl, hj, hK, hn, C⟩ := hrel
      by_cases hlt : j < many
      · have hltI : (j : Int) < (many : Int) := by omega
        go_wp2_with fail
        refine (one3_c C (by omega) Hl Hq (by omega) (by omega)).mono ?_
        rintro e w4 ⟨u, rfl, n', h1, h2, C'⟩
        go_wp2_with fail
        go_roundw
        case rel => exact ⟨j + 1, n', K + 1086, by go_num, by omega, by omega, by omega, C'⟩
        case measure => simp [intOf]; omega
      · have hjm : j = many := by omega
        obtain ⟨a, cap, c6, h⟩ := FIN.out _ _ _ _ C (by omega) (by omega)
        have h : Hid _ := h
        have hltI : ¬ (j : Int) < (many : Int) := by omega
        go_wp2_with fail
        go_ret
        exact h.out
end
end Go.Proofs.Yteabbkagekdehaa
