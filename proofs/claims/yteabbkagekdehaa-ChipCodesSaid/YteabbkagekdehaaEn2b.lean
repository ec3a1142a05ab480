/- The document's Encoded: the same words. -/
import Derived.Test.YteabbkagekdehaaEn2
set_option linter.unusedVariables false
set_option linter.unusedSimpArgs false
set_option maxRecDepth 100000
namespace Go.Proofs.Yteabbkagekdehaa
open Go.AE Go.RowKit Go.IntWalk
set_option maxHeartbeats 2000000 in
theorem encoded_c {w : World} {a : Option Addr} {n cap : Nat} {zs : List Int} (hr : RowZ w a n zs) (hn : n ≤ 100000) :
    Calls Try.prog 32 #[.slice a n cap] w fun en w' => ∃ a' cap', en = .returned (.slice a' (n * 4) cap') ∧ w'.ownsRow w.heap.size 3 1 (.slice a' (n * 4) cap') (n * 4) (zcells (wordsTo zs n)) ∧ Below w.heap.size w w' := by
  obtain ⟨bm, hbm⟩ : ∃ bm, w.heap.size = bm := ⟨_, rfl⟩
  go_enter Try.func32, Try.ntmps32
  go_wp2_with fail
  go_loopw [3, 8] (fun v7 v19 wr => ∃ i : Nat, v19 = zI i ∧ i ≤ n ∧ wr.ownsRow bm 3 1 v7 (i * 4) (zcells (wordsTo zs i)) ∧ Below bm w wr ∧ bm ≤ wr.heap.size)
    (fun _ v19 _ => n - (intOf v19).toNat)
  case atStart => exact ⟨0, rfl, Nat.zero_le _, World.ownsRow_nil _ _ _ _, by rw [← hbm]; exact Below.refl _ _, by omega⟩
  case round =>
    obtain ⟨i, rfl, hin, hown, B, hsz⟩ := hrel
    obtain ⟨av, cv, rfl⟩ := ownsRow_shape hown
    by_cases hlt : i < n
    · have hltI : (i : Int) < (n : Int) := by omega
      rcases (hr.below (by rw [hbm]; exact B)) with h0 | ⟨g, rfl, hg, hcell⟩
      · omega
      · obtain ⟨z0, h0⟩ : ∃ z, zs.getD (i * 9) 0 = z := ⟨_, rfl⟩
        have x0 : wr.cell? ⟨g, i * 9, none⟩ = some (zI z0) := by rw [hcell _ (by omega)]; exact congrArg _ (congrArg _ h0)
        obtain ⟨z1, h1⟩ : ∃ z, zs.getD (i * 9 + 1) 0 = z := ⟨_, rfl⟩
        have x1 : wr.cell? ⟨g, i * 9 + 1, none⟩ = some (zI z1) := by rw [hcell _ (by omega)]; exact congrArg _ (congrArg _ h1)
        obtain ⟨z2, h2⟩ : ∃ z, zs.getD (i * 9 + 2) 0 = z := ⟨_, rfl⟩
        have x2 : wr.cell? ⟨g, i * 9 + 2, none⟩ = some (zI z2) := by rw [hcell _ (by omega)]; exact congrArg _ (congrArg _ h2)
        obtain ⟨z3, h3⟩ : ∃ z, zs.getD (i * 9 + 3) 0 = z := ⟨_, rfl⟩
        have x3 : wr.cell? ⟨g, i * 9 + 3, none⟩ = some (zI z3) := by rw [hcell _ (by omega)]; exact congrArg _ (congrArg _ h3)
        obtain ⟨z4, h4⟩ : ∃ z, zs.getD (i * 9 + 4) 0 = z := ⟨_, rfl⟩
        have x4 : wr.cell? ⟨g, i * 9 + 4, none⟩ = some (zI z4) := by rw [hcell _ (by omega)]; exact congrArg _ (congrArg _ h4)
        obtain ⟨z5, h5⟩ : ∃ z, zs.getD (i * 9 + 5) 0 = z := ⟨_, rfl⟩
        have x5 : wr.cell? ⟨g, i * 9 + 5, none⟩ = some (zI z5) := by rw [hcell _ (by omega)]; exact congrArg _ (congrArg _ h5)
        obtain ⟨z6, h6⟩ : ∃ z, zs.getD (i * 9 + 6) 0 = z := ⟨_, rfl⟩
        have x6 : wr.cell? ⟨g, i * 9 + 6, none⟩ = some (zI z6) := by rw [hcell _ (by omega)]; exact congrArg _ (congrArg _ h6)
        obtain ⟨z7, h7⟩ : ∃ z, zs.getD (i * 9 + 7) 0 = z := ⟨_, rfl⟩
        have x7 : wr.cell? ⟨g, i * 9 + 7, none⟩ = some (zI z7) := by rw [hcell _ (by omega)]; exact congrArg _ (congrArg _ h7)
        obtain ⟨z8, h8⟩ : ∃ z, zs.getD (i * 9 + 8) 0 = z := ⟨_, rfl⟩
        have x8 : wr.cell? ⟨g, i * 9 + 8, none⟩ = some (zI z8) := by rw [hcell _ (by omega)]; exact congrArg _ (congrArg _ h8)
        have NX : Hid (wordsTo zs (i + 1) = wordsTo zs i ++ [wA z0 z1 z2 z3, wB z4 z5 z6, z7, z8]) := by
          show _ = _
          simp only [wordsTo]
          rw [h0, h1, h2, h3, h4, h5, h6, h7, h8]
        replace hown := hidI hown
        replace B := hidI B
        clear hcell h0 h1 h2 h3 h4 h5 h6 h7 h8
        obtain ⟨X, hX⟩ : ∃ X, wr.heap.size = X := ⟨_, rfl⟩
        go_upto_region 5 with fail
        have Ba := below_alloc wr (.cells #[zI z0, zI z1, zI z2, zI z3, zI z4, zI z5, zI z6, zI z7, zI z8] 29)
        have y1 := below_row (w := wr) #[zI z0, zI z1, zI z2, zI z3, zI z4, zI z5, zI z6, zI z7, zI z8] 29 hX
        have hown2 := hown.out.alloc (.cells #[zI z0, zI z1, zI z2, zI z3, zI z4, zI z5, zI z6, zI z7, zI z8] 29)
        have B02 := B.out.trans (Ba.mono hsz)
        have hz2 : (wr.alloc (.cells #[zI z0, zI z1, zI z2, zI z3, zI z4, zI z5, zI z6, zI z7, zI z8] 29)).heap.size = X + 1 := by simp only [World.alloc, Array.size_push]; omega
        try rw [hX]
        obtain ⟨w2, hw2⟩ : ∃ w2, wr.alloc (.cells #[zI z0, zI z1, zI z2, zI z3, zI z4, zI z5, zI z6, zI z7, zI z8] 29) = w2 := ⟨_, rfl⟩
        rw [hw2] at y1 hown2 B02 hz2
        rw [hw2]
        obtain ⟨Y, hY⟩ : ∃ Y, w2.heap.size = Y := ⟨_, rfl⟩
        have hsz2 : bm ≤ w2.heap.size := by omega
        obtain ⟨p, hp⟩ : ∃ p, wA z0 z1 z2 z3 = p := ⟨_, rfl⟩
        obtain ⟨q, hq⟩ : ∃ q, wB z4 z5 z6 = q := ⟨_, rfl⟩
        rw [hp, hq] at NX
        unfold wA at hp
        unfold wB at hq
        replace hown2 := hidI hown2
        replace B02 := hidI B02
        clear hown B hw2 x0 x1 x2 x3 x4 x5 x6 x7 x8 hX Ba hz2
        obtain ⟨i0, hi, hz0, hz1, hz2⟩ := info_parts info3
        have HC : Hid (∀ j u, ([zI p, zI q, zI z7, zI z8] : List Value)[j]? = some u → (w2.alloc (.cells #[zI p, zI q, zI z7, zI z8] 3)).cell? ((⟨Y, 0, none⟩ : Addr).add j) = some u) := fun j u hj => by
          rw [addr_add, ← hY, cell_of_row _ w2.heap.size j _ 3 (0, 0) (heap_alloc_new w2 _)]; simpa using hj
        go_wp2_with (at_builtin; (try rw [hp, hq]); refine wpList_append_own _ rfl (.tmp 12) (.tmp 42) 22 rfl bm 3 i0 _ 1 8 Try.underlying22 hi hz0 hz1 hz2 rfl (by decide) _ _ _ rfl (hown2.out.alloc _) ⟨Y, 0, none⟩ 4 4 [zI p, zI q, zI z7, zI z8] rfl rfl HC.out (by simp [Value.oneCell']) (by unfold maxLen; omega) (by omega) (by simp; omega) ?_; intro v' w8 hown8 hg8 hnil; clear hnil; replace hown8 := hidI hown8; replace hg8 := hidI hg8; clear hi hz0 hz1 hz2 hp hq)
        have Ba := below_alloc w2 (.cells #[zI p, zI q, zI z7, zI z8] 3)
        have B8 : Below bm w w8 := (B02.out.trans (Ba.mono hsz2)).grown hg8.out (by simp only [World.alloc, Array.size_push]; omega) (fun k hk => own_ge hown2.out hk)
        have hsz8 : bm ≤ w8.heap.size := by have := hg8.out.size; simp only [World.alloc, Array.size_push] at this; omega
        refine ⟨⟨i + 1, by go_num, by omega, ?_, B8, hsz8⟩, by simp [intOf]; omega⟩
        have h := hown8.out
        rw [NX.out, show (i + 1) * 4 = i * 4 + 4 by omega]
        simpa [zcells] using h
    · obtain rfl : i = n := by omega
      have hltI : ¬ (i : Int) < (i : Int) := by omega
      have FIN : Hid _ := (⟨hown, B⟩ : _ ∧ _)
      clear hown B
      go_wp2_with fail
      go_ret
      subst hbm
      exact ⟨_, _, rfl, FIN.out.1, FIN.out.2⟩
end Go.Proofs.Yteabbkagekdehaa
