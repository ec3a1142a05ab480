/- Encode and Encoded: the same words. -/
import Derived.Test.YteabbkagekdehaaEn1
import Derived.Test.YteabbkagekdehaaEnLaw
set_option linter.unusedVariables false
set_option linter.unusedSimpArgs false
set_option maxRecDepth 100000
namespace Go.Proofs.Yteabbkagekdehaa
open Go.AE Go.RowKit Go.IntWalk
def wordsTo (zs : List Int) : Nat → List Int
  | 0 => []
  | i + 1 => wordsTo zs i ++ [wA (zs.getD (i * 9) 0) (zs.getD (i * 9 + 1) 0) (zs.getD (i * 9 + 2) 0) (zs.getD (i * 9 + 3) 0), wB (zs.getD (i * 9 + 4) 0) (zs.getD (i * 9 + 5) 0) (zs.getD (i * 9 + 6) 0), zs.getD (i * 9 + 7) 0, zs.getD (i * 9 + 8) 0]
/-- what Encode leaves -/
def EncPost (base n : Nat) (zs : List Int) (E : Int) (v : Value) (w' : World) : Prop := (E ≠ 0 → v = .slice none 0 0) ∧ (E = 0 → ∃ a' cap', v = .slice a' (n * 4) cap' ∧ w'.ownsRow base 3 1 v (n * 4) (zcells (wordsTo zs n)))
theorem own_ge {w : World} {base : Nat} {e : TypeId} {size : Nat} {v : Value} {n : Nat} {xs : List Value} (h : w.ownsRow base e size v n xs) {k : Nat} (hk : v.ownBlock = some k) : base ≤ k := by
  rcases h.2 with ⟨rfl, h0⟩ | ⟨g, cap, cur, rfl, h1, _⟩
  · cases hk
  · cases hk; exact h1
set_option maxHeartbeats 2000000 in
theorem encode_c {w : World} {a : Option Addr} {n cap : Nat} {zs : List Int} (hr : RowZ w a n zs) (hn : n ≤ 100000) {m0 m1 m2 m3 m4 E : Int}
    (h13 : ∀ w a cap, RowZ w a n zs → Calls Try.prog 13 #[mV m0 m1 m2 m3 m4, .slice a n cap] w fun en w' => en = .returned (zI E) ∧ Below w.heap.size w w') :
    Calls Try.prog 30 #[mV m0 m1 m2 m3 m4, .slice a n cap] w fun en w' => ∃ v, en = .returned (.tuple #[v, zI E]) ∧ Below w.heap.size w w' ∧ EncPost w.heap.size n zs E v w' := by
  unfold mV at *
  obtain ⟨bm, hbm⟩ : ∃ bm, w.heap.size = bm := ⟨_, rfl⟩
  have H13 : Hid _ := h13
  clear h13
  go_enter Try.func30, Try.ntmps30
  go_wp2_with fail
  have B0 := below_alloc w (.cells #[zI m0, zI m1, zI m2, zI m3, zI m4] 36)
  refine (H13.out _ _ _ (hr.below B0)).mono ?_
  rintro en w1 ⟨rfl, B1⟩
  have B01 := B0.trans (B1.mono B0.size)
  rw [hbm] at B01
  replace B01 := hidI B01
  clear B0 B1
  by_cases hE : E = 0
  · subst hE
    go_wp2_with fail
    have hz1 : bm ≤ w1.heap.size := by have := B01.out.size; omega
    go_loopw [7, 19] (fun v7 v19 wr => ∃ i : Nat, v19 = zI i ∧ i ≤ n ∧ wr.ownsRow bm 3 1 v7 (i * 4) (zcells (wordsTo zs i)) ∧ Below bm w wr ∧ bm ≤ wr.heap.size)
      (fun _ v19 _ => n - (intOf v19).toNat)
    case atStart => exact ⟨0, rfl, Nat.zero_le _, World.ownsRow_nil _ _ _ _, B01.out, hz1⟩
    case round =>
      obtain ⟨i, rfl, hin, hown, B, hsz⟩ := hrel
      obtain ⟨av, cv, rfl⟩ := ownsRow_shape hown
      clear hz1
      by_cases hlt : i < n
      · have hltI : (i : Int) < (n : Int) := by omega
        rcases (hr.below (by rw [hbm]; exact B)) with h0 | ⟨g, rfl, hg, hcell⟩
        · omega
        · obtain ⟨z0, h0⟩ : ∃ z, zs.getD (i * 9) 0 = z := ⟨_, rfl⟩
          have x0 : wr.cell? ⟨g, i * 9, none⟩ = some (zI z0) := by rw [hcell _ (by omega)]; exact congrArg _ (congrArg _ h0)
          obtain ⟨z1, h1⟩ : ∃ z, zs.getD (i * 9 + 1) 0 = z := ⟨_, rfl⟩
          have x1 : wr.cell? ⟨g, i * 9 + 1, none⟩ = some (zI z1) := by rw [hcell _ (by omega)]; exact congrArg _ (congrArg _ h1)
          obtain ⟨z2, h2⟩ : ∃ z, zs.getD (i * 9 + 2) 0 = z := ⟨_, rfl⟩
          have x2 : wr.cell? ⟨g, i * 9 + 2, none⟩ = some (zI z2) := by rw [hcell _ (by omega)]; exact congrArg _ (congrArg _ h2)
          obtain ⟨z3, h3⟩ : ∃ z, zs.getD (i * 9 + 3) 0 = z := ⟨_, rfl⟩
          have x3 : wr.cell? ⟨g, i * 9 + 3, none⟩ = some (zI z3) := by rw [hcell _ (by omega)]; exact congrArg _ (congrArg _ h3)
          obtain ⟨z4, h4⟩ : ∃ z, zs.getD (i * 9 + 4) 0 = z := ⟨_, rfl⟩
          have x4 : wr.cell? ⟨g, i * 9 + 4, none⟩ = some (zI z4) := by rw [hcell _ (by omega)]; exact congrArg _ (congrArg _ h4)
          obtain ⟨z5, h5⟩ : ∃ z, zs.getD (i * 9 + 5) 0 = z := ⟨_, rfl⟩
          have x5 : wr.cell? ⟨g, i * 9 + 5, none⟩ = some (zI z5) := by rw [hcell _ (by omega)]; exact congrArg _ (congrArg _ h5)
          obtain ⟨z6, h6⟩ : ∃ z, zs.getD (i * 9 + 6) 0 = z := ⟨_, rfl⟩
          have x6 : wr.cell? ⟨g, i * 9 + 6, none⟩ = some (zI z6) := by rw [hcell _ (by omega)]; exact congrArg _ (congrArg _ h6)
          obtain ⟨z7, h7⟩ : ∃ z, zs.getD (i * 9 + 7) 0 = z := ⟨_, rfl⟩
          have x7 : wr.cell? ⟨g, i * 9 + 7, none⟩ = some (zI z7) := by rw [hcell _ (by omega)]; exact congrArg _ (congrArg _ h7)
          obtain ⟨z8, h8⟩ : ∃ z, zs.getD (i * 9 + 8) 0 = z := ⟨_, rfl⟩
          have x8 : wr.cell? ⟨g, i * 9 + 8, none⟩ = some (zI z8) := by rw [hcell _ (by omega)]; exact congrArg _ (congrArg _ h8)
          have NX : Hid (wordsTo zs (i + 1) = wordsTo zs i ++ [wA z0 z1 z2 z3, wB z4 z5 z6, z7, z8]) := by
            show _ = _
            simp only [wordsTo]
            rw [h0, h1, h2, h3, h4, h5, h6, h7, h8]
          replace hown := hidI hown
          replace B := hidI B
          clear hcell h0 h1 h2 h3 h4 h5 h6 h7 h8
          obtain ⟨X, hX⟩ : ∃ X, wr.heap.size = X := ⟨_, rfl⟩
          go_wp2_with fail
          refine (words_c z0 z1 z2 z3 z4 z5 z6 z7 z8).mono ?_
          rintro en w2 ⟨rfl, B2⟩
          have Bx := (below_alloc wr (.cells #[zI z0, zI z1, zI z2, zI z3, zI z4, zI z5, zI z6, zI z7, zI z8] 29)).trans (B2.mono (by simp only [World.alloc, Array.size_push]; omega))
          have hown2 := ownsRow_below hown.out Bx
          have B02 := B.out.trans (Bx.mono (by omega))
          have hsz2 : bm ≤ w2.heap.size := by have := Bx.size; omega
          obtain ⟨p, hp⟩ : ∃ p, wA z0 z1 z2 z3 = p := ⟨_, rfl⟩
          obtain ⟨q, hq⟩ : ∃ q, wB z4 z5 z6 = q := ⟨_, rfl⟩
          rw [hp, hq] at NX
          rw [hp, hq]
          obtain ⟨Y, hY⟩ : ∃ Y, w2.heap.size = Y := ⟨_, rfl⟩
          replace hown2 := hidI hown2
          replace B02 := hidI B02
          clear hown B B2 Bx x0 x1 x2 x3 x4 x5 x6 x7 x8 hX hp hq
          obtain ⟨i0, hi, hz0, hz1, hz2⟩ := info_parts info3
          have HC : Hid (∀ j u, ([zI p, zI q, zI z7, zI z8] : List Value)[j]? = some u → (w2.alloc (.cells #[zI p, zI q, zI z7, zI z8] 97)).cell? ((⟨Y, 0, none⟩ : Addr).add j) = some u) := fun j u hj => by
            rw [addr_add, ← hY, cell_of_row _ w2.heap.size j _ 97 (0, 0) (heap_alloc_new w2 _)]; simpa using hj
          go_upto_region 9 with fail
          go_wp2_with (at_builtin; refine wpList_append_own _ rfl (.tmp 25) (.tmp 26) 22 rfl bm 3 i0 _ 1 8 Try.underlying22 hi hz0 hz1 hz2 rfl (by decide) _ _ _ rfl (hown2.out.alloc _) ⟨Y, 0, none⟩ 4 4 [zI p, zI q, zI z7, zI z8] rfl rfl HC.out (by simp [Value.oneCell']) (by unfold maxLen; omega) (by omega) (by simp; omega) ?_; intro v' w8 hown8 hg8 hnil; clear hnil; replace hown8 := hidI hown8; replace hg8 := hidI hg8; clear hi hz0 hz1 hz2)
          have Ba := below_alloc w2 (.cells #[zI p, zI q, zI z7, zI z8] 97)
          have B8 : Below bm w w8 := (B02.out.trans (Ba.mono hsz2)).grown hg8.out (by simp only [World.alloc, Array.size_push]; omega) (fun k hk => own_ge hown2.out hk)
          have hsz8 : bm ≤ w8.heap.size := by have := hg8.out.size; simp only [World.alloc, Array.size_push] at this; omega
          refine ⟨⟨i + 1, by go_num, by omega, ?_, B8, hsz8⟩, by simp [intOf]; omega⟩
          have h := hown8.out
          rw [NX.out, show (i + 1) * 4 = i * 4 + 4 by omega]
          simpa [zcells] using h
      · obtain rfl : i = n := by omega
        have hltI : ¬ (i : Int) < (i : Int) := by omega
        have FIN : Hid _ := (⟨hown, B⟩ : _ ∧ _)
        clear hown B
        go_wp2_with fail
        go_ret2
        subst hbm
        exact ⟨_, rfl, FIN.out.2, (fun h => absurd rfl h), fun _ => ⟨_, _, rfl, FIN.out.1⟩⟩
  · have hEb : (E == 0) = false := by simp [hE]
    go_wp2_with fail
    go_ret2
    subst hbm
    exact ⟨_, rfl, B01.out, (fun _ => rfl), fun h => absurd h hE⟩
end Go.Proofs.Yteabbkagekdehaa
