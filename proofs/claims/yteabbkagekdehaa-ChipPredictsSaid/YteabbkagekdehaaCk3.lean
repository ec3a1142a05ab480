/- The code's 'turns': how often each instruction is executed. -/
import Derived.Test.YteabbkagekdehaaCk2
import Derived.Deep.Cut
import Derived.WalkSmall
set_option linter.unusedVariables false
set_option linter.unusedSimpArgs false
set_option maxRecDepth 100000
namespace Go.Proofs.Yteabbkagekdehaa
open Go.AE Go.RowKit Go.IntWalk
theorem hidI {p : Prop} (h : p) : Hid p := h
theorem make_int2 (n : Nat) (hn : n ≤ 100000) (w : World) : (Instr.makeSlice 22 (.int .i64 n) (.int .i64 n)).run Try.prog w = .ok (.slice (some ⟨w.heap.size, 0, none⟩) n n) (w.alloc (.cells (madeCells #[.int .i64 0] n) 3)) := by
  obtain ⟨i0, hi, hz0, hz1, hz2⟩ := info_parts info3
  have h := run_make (P := Try.prog) w 22 3 i0 _ Try.underlying22 hi hz0 .i64 .i64 n n (by omega) (Int.le_refl _) (by rw [hz2]; omega) (by omega)
  rw [hz1] at h
  have e : (Value.int .i64 0).cells = #[.int .i64 0] := rfl
  rw [e] at h
  simpa using h
theorem made_row2 {w : World} {g n : Nat} (h : w.heap[g]? = some (.cells (madeCells #[.int .i64 0] n) 3 (0, 0))) : RowAt g n (fun _ => 0) w := fun t ht => by
  refine ⟨?_, frozen_of_row w g t _ 3 h⟩
  rw [cell_of_row w g t _ 3 (0, 0) h]
  have e := toList_madeCells_one (.int .i64 0) n
  rw [← Array.getElem?_toList, e]
  simp [ht]
def ncells (l : List Nat) : List Value := l.map fun (t : Nat) => Value.int .i64 (t : Int)
set_option maxHeartbeats 2000000 in
theorem turns_c {w : World} {a : Option Addr} {n cap : Nat} {zs : List Int} (hr : RowZ w a n zs) (hn : n ≤ 100000) {TL : List Nat} (hT : tl (opZ zs) (mZ zs) n 0 [1] = TL) (hL : TL.length = n)
    (hM : ∀ i, i < n → opZ zs i = 3 → 0 ≤ mZ zs i ∧ mZ zs i ≤ 1000000) :
    Calls Try.prog 47 #[.slice a n cap] w fun en w' => en = .returned (.slice (some ⟨w.heap.size, 0, none⟩) n n) ∧ RowAt w.heap.size n (fun t => (TL.getD t 0 : Nat)) w' ∧ Below w.heap.size w w' := by
  have hm := make_int2 n hn
  go_enter Try.func47, Try.ntmps47
  go_wp2_with fail
  have B1 := below_alloc w (.cells (madeCells #[.int .i64 0] n) 3)
  have hR1 := made_row2 (heap_alloc_new w (.cells (madeCells #[.int .i64 0] n) 3))
  obtain ⟨w1, hw1⟩ : ∃ w1, w.alloc (.cells (madeCells #[.int .i64 0] n) 3) = w1 := ⟨_, rfl⟩
  have hz1 : w1.heap.size = w.heap.size + 1 := by rw [← hw1]; simp
  rw [hw1] at B1 hR1
  have B2 := below_alloc w1 (.cells #[.int .i64 1] 3)
  have hown2 := World.ownsRow_made (base := w.heap.size + 1) (e := 3) (size := 1) w1 #[.int .i64 1] 1 (by omega) (by unfold maxLen; omega) rfl
  obtain ⟨bo, hbo⟩ : ∃ bo, w.heap.size = bo := ⟨_, rfl⟩
  have hlit : (w1.alloc (.cells #[.int .i64 1] 3)).ownsRow (bo + 1) 3 1 (.slice (some ⟨w1.heap.size, 0, none⟩) 1 1) 1 (ncells [1]) := by
    refine ⟨rfl, .inr ⟨w1.heap.size, 1, #[.int .i64 1], rfl, by omega, heap_alloc_new w1 _, Nat.le_refl _, by unfold maxLen; omega, rfl, rfl⟩⟩
  have hR2 : RowAt bo n (fun _ => 0) (w1.alloc (.cells #[.int .i64 1] 3)) := by rw [← hbo]; exact hR1.block (B2.block _ (by omega))
  obtain ⟨w2, hw2⟩ : ∃ w2, w1.alloc (.cells #[.int .i64 1] 3) = w2 := ⟨_, rfl⟩
  have B02 : Below w.heap.size w w2 := by rw [← hw2]; exact B1.trans (B2.mono (by omega))
  have hz2 : w2.heap.size = bo + 2 := by rw [← hw2]; simp; omega
  have hw1s : w1.heap.size = bo + 1 := by omega
  rw [hw1s] at hlit
  rw [hw2] at hlit hR2
  rw [hw1, hw2, hbo]
  clear hm hR1 B1 B2 hown2 hw2 hw1
  have HT : Hid _ := hT
  have HM : Hid _ := hM
  clear hT hM
  go_loopw [4, 14] (fun v4 v14 wr => ∃ (j : Nat) (prev st : List Nat) (at' : Option Addr) (len cp : Nat), v14 = .int .i64 j ∧ v4 = .slice at' len cp ∧ len = st.length ∧ wr.ownsRow (bo + 1) 3 1 (.slice at' len cp) len (ncells st.reverse) ∧
      RowAt bo n (fun t => if t < j then (TL.getD t 0 : Nat) else 0) wr ∧ prev.length = j ∧ prev ++ tl (opZ zs) (mZ zs) (n - j) j st = TL ∧ Below bo w wr ∧ bo + 2 ≤ wr.heap.size ∧ j ≤ n ∧ (∀ t ∈ st, t ≤ SX) ∧ st.length ≤ j + 1)
    (fun _ v14 _ => n - (intOf v14).toNat)
  case atStart => exact ⟨0, [], [1], _, 1, 1, rfl, rfl, rfl, hlit, hR2.congr (fun t _ => by simp), rfl, by simpa using HT.out, by rw [← hbo]; exact B02, by omega, Nat.zero_le _, by simp [SX], Nat.le_refl _⟩
  case round =>
    clear hlit hR2 B02 hz2
    obtain ⟨j, prev, st, at', len, cp, rfl, rfl, hlen, hown, hrow, hpl, hpt, B, hsz, hjn, hst, hsl⟩ := hrel
    by_cases hlt : j < n
    · have hltI : (j : Int) < (n : Int) := by omega
      cases st with
      | nil =>
        rw [show n - j = (n - j - 1) + 1 by omega] at hpt
        simp only [tl, List.append_nil] at hpt
        rw [hpt] at hpl
        omega
      | cons t st =>
        obtain ⟨m, hm⟩ : ∃ m, st.length = m := ⟨_, rfl⟩
        obtain rfl : len = m + 1 := by rw [hlen, List.length_cons, hm]
        obtain ⟨gt, rfl⟩ : ∃ gt, at' = some ⟨gt, 0, none⟩ := by
          rcases hown.2 with ⟨h, h0⟩ | ⟨g, cap, cur, h, _⟩
          · omega
          · simp only [Value.slice.injEq] at h; exact ⟨g, h.1⟩
        have hgt := hown.lt gt rfl
        have hcp : m + 1 ≤ cp := by
          rcases hown.2 with ⟨h, h0⟩ | ⟨g, cap, cur, h, _, _, h5, _⟩
          · omega
          · simp only [Value.slice.injEq] at h; omega
        have hsm2 : m ≤ j := by simp only [List.length_cons] at hsl; omega
        have hsm : m ≤ 100000 := by simp only [List.length_cons] at hsl; omega
        have htS : t ≤ SX := hst t (by simp)
        have hct : wr.cell? ⟨gt, m, none⟩ = some (.int .i64 t) := by
          rw [hown.cellAt m (by omega)]
          simp only [ncells, List.reverse_cons, List.map_append, List.map_cons, List.map_nil]
          rw [List.getElem?_append_right (by simp [hm])]
          simp [hm]
        have dt : ∀ cs e, (wr.alloc (.cells cs e)).cell? ⟨gt, m, none⟩ = some (.int .i64 t) := fun cs e => by rw [(below_alloc wr _).cell (by exact hgt.2)]; exact hct
        have dr : ∀ cs e, (wr.alloc (.cells cs e)).cell? ⟨bo, j, none⟩ = some (.int .i64 0) := fun cs e => by
          rw [(below_alloc wr _).cell (show bo < wr.heap.size by omega)]
          have := (hrow j hlt).1
          simpa using this
        have df : ∀ cs e, (wr.alloc (.cells cs e)).frozen? ⟨bo, j, none⟩ = false := fun cs e => by
          rw [(below_alloc wr _).frozen (show bo < wr.heap.size by omega)]
          exact (hrow j hlt).2
        rcases (hr.below (by rw [hbo]; exact B)) with h0 | ⟨g, rfl, hg, hcell⟩
        · omega
        · obtain ⟨o, ho⟩ : ∃ o, opZ zs j = o := ⟨_, rfl⟩
          obtain ⟨M, hMz⟩ : ∃ M, mZ zs j = M := ⟨_, rfl⟩
          have x0 : wr.cell? ⟨g, j * 9, none⟩ = some (.int .i64 o) := by rw [hcell _ (by omega)]; exact congrArg _ (congrArg _ ho)
          have x8 : wr.cell? ⟨g, j * 9 + 8, none⟩ = some (.int .i64 M) := by rw [hcell _ (by omega)]; exact congrArg _ (congrArg _ hMz)
          obtain ⟨z1, x1⟩ : ∃ z, wr.cell? ⟨g, j * 9 + 1, none⟩ = some (.int .i64 z) := ⟨_, hcell _ (by omega)⟩
          obtain ⟨z2, x2⟩ : ∃ z, wr.cell? ⟨g, j * 9 + 2, none⟩ = some (.int .i64 z) := ⟨_, hcell _ (by omega)⟩
          obtain ⟨z3, x3⟩ : ∃ z, wr.cell? ⟨g, j * 9 + 3, none⟩ = some (.int .i64 z) := ⟨_, hcell _ (by omega)⟩
          obtain ⟨z4, x4⟩ : ∃ z, wr.cell? ⟨g, j * 9 + 4, none⟩ = some (.int .i64 z) := ⟨_, hcell _ (by omega)⟩
          obtain ⟨z5, x5⟩ : ∃ z, wr.cell? ⟨g, j * 9 + 5, none⟩ = some (.int .i64 z) := ⟨_, hcell _ (by omega)⟩
          obtain ⟨z6, x6⟩ : ∃ z, wr.cell? ⟨g, j * 9 + 6, none⟩ = some (.int .i64 z) := ⟨_, hcell _ (by omega)⟩
          obtain ⟨z7, x7⟩ : ∃ z, wr.cell? ⟨g, j * 9 + 7, none⟩ = some (.int .i64 z) := ⟨_, hcell _ (by omega)⟩
          replace hown := hidI hown
          replace hrow := hidI hrow
          replace hpt := hidI hpt
          replace B := hidI B
          replace hst := hidI hst
          replace ho := hidI ho
          replace hMz := hidI hMz
          replace hm := hidI hm
          clear hcell hct hlen hsl
          go_upto_region 8 with fail
          obtain ⟨X, hX⟩ : ∃ X, wr.heap.size = X := ⟨_, rfl⟩
          obtain ⟨os, hos⟩ : ∃ os : Array Value, #[Value.int .i64 o, .int .i64 z1, .int .i64 z2, .int .i64 z3, .int .i64 z4, .int .i64 z5, .int .i64 z6, .int .i64 z7, .int .i64 M] = os := ⟨_, rfl⟩
          have Ba := below_alloc wr (.cells os 29)
          have ha := heap_alloc_new wr (.cells os 29)
          have Bs : Oth bo (wr.alloc (.cells os 29)) ((wr.alloc (.cells os 29)).setCell ⟨bo, j, none⟩ (.int .i64 t)) := oth_setCell _ _ _ _
          have hown3 := ownsRow_oth (hown.out.alloc (.cells os 29)) Bs (by omega)
          have hrow3 := (RowAt.block hrow.out (Ba.block bo (by omega))).set hlt (t : Int)
          have hz3 : ((wr.alloc (.cells os 29)).setCell ⟨bo, j, none⟩ (.int .i64 t)).heap.size = X + 1 := by rw [csize_set]; simp [hX]
          have B3 : Below bo w ((wr.alloc (.cells os 29)).setCell ⟨bo, j, none⟩ (.int .i64 t)) := (B.out.trans (Ba.mono (by omega))).trans ⟨rfl, rfl, rfl, by rw [csize_set]; exact Nat.le_refl _, fun k hk => Below.heap_setCell _ _ _ _ (show k ≠ bo by omega)⟩
          have y0 : ((wr.alloc (.cells os 29)).setCell ⟨bo, j, none⟩ (.int .i64 t)).cell? ⟨X, 0, none⟩ = some (.int .i64 o) := by
            rw [Bs.cell (by show X < (wr.alloc (.cells os 29)).heap.size; simp; omega) (by show X ≠ bo; omega), ← hX, cell_of_row _ _ 0 _ 29 (0, 0) ha, ← hos]; rfl
          have y8 : ((wr.alloc (.cells os 29)).setCell ⟨bo, j, none⟩ (.int .i64 t)).cell? ⟨X, 8, none⟩ = some (.int .i64 M) := by
            rw [Bs.cell (by show X < (wr.alloc (.cells os 29)).heap.size; simp; omega) (by show X ≠ bo; omega), ← hX, cell_of_row _ _ 8 _ 29 (0, 0) ha, ← hos]; rfl
          have hTL : TL.getD j 0 = t := by
            have h1 := hpt.out
            rw [show n - j = (n - j - 1) + 1 by omega] at h1
            simp only [tl] at h1
            rw [← h1, List.getD_eq_getElem?_getD, List.getElem?_append_right (by omega)]
            simp [hpl]
          have hrow3 := hrow3.congr (f' := fun s => if s < j + 1 then ((TL.getD s 0 : Nat) : Int) else 0) (fun s hs => by
            by_cases e : s = j
            · subst e; simp only [if_true]; rw [if_pos (by omega), hTL]
            · simp only [e, if_false]
              by_cases e2 : s < j
              · rw [if_pos e2, if_pos (by omega)]
              · rw [if_neg e2, if_neg (by omega)])
          rw [hX, hos]
          obtain ⟨w3, hw3⟩ : ∃ w3, (wr.alloc (.cells os 29)).setCell ⟨bo, j, none⟩ (.int .i64 t) = w3 := ⟨_, rfl⟩
          rw [hw3] at hown3 hrow3 hz3 B3 y0 y8
          rw [hw3]
          clear hw3 hos Ba ha Bs hown hrow B x0 x1 x2 x3 x4 x5 x6 x7 x8 dt dr df
          replace hown3 := hidI hown3
          replace hrow3 := hidI hrow3
          replace B3 := hidI B3
          by_cases h3 : o = 3
          · subst h3
            obtain ⟨M0, M1⟩ := HM.out j hlt ho.out
            rw [hMz.out] at M0 M1
            obtain ⟨mm, rfl⟩ : ∃ mm : Nat, M = mm := ⟨M.toNat, by omega⟩
            have htS' : t ≤ 40000001 := htS
            have hmul : t * mm ≤ 40000001 * 1000000 := Nat.mul_le_mul htS' (by omega)
            have hmulA : 0 ≤ (t : Int) * (mm : Int) ∧ (t : Int) * (mm : Int) ≤ 40000001000000 := by
              have : (t : Int) * (mm : Int) = ((t * mm : Nat) : Int) := by simp
              omega
            obtain ⟨hmA, hmB⟩ := hmulA
            obtain ⟨i0, hi, hi0, hi1, hi2⟩ := info_parts info3
            obtain ⟨x, hx⟩ : ∃ x : Int, min ((t : Int) * (mm : Int)) 40000001 = x := ⟨_, rfl⟩
            have HN : Hid (∀ j u, ([Value.int .i64 x])[j]? = some u → (w3.alloc (.cells #[.int .i64 x] 3)).cell? ((⟨X + 1, 0, none⟩ : Addr).add j) = some u) := fun j u hu => by
              rw [addr_add, ← hz3, cell_of_row _ w3.heap.size j _ 3 (0, 0) (heap_alloc_new w3 _)]; simpa using hu
            clear hmul M0 M1
            go_wp2_with (at_builtin; refine wpList_append_own _ rfl (.tmp 33) (.tmp 39) 22 rfl (bo + 1) 3 i0 _ 1 8 Try.underlying22 hi hi0 hi1 hi2 rfl (by decide) _ _ _ rfl (hown3.out.alloc _) ⟨X + 1, 0, none⟩ 1 1 [.int .i64 x] rfl rfl HN.out (by simp [Value.oneCell']) (by unfold maxLen; omega) (by omega) (by simp; omega) ?_; intro v' w8 hown8 hg8 hnil)
            replace hg8 : (w3.alloc (.cells #[.int .i64 x] 3)).grownBy w8 (some gt) := hg8
            obtain ⟨a8, c8, rfl⟩ := ownsRow_shape hown8
            have Ba := below_alloc w3 (.cells #[Value.int .i64 x] 3)
            have hblk : ∀ k, k < w3.heap.size → k ≠ gt → w8.heap[k]? = w3.heap[k]? := fun k hk hne => (hg8.block k (Nat.lt_of_lt_of_le hk Ba.size) (fun e => hne (by cases e; rfl))).trans (Ba.block k hk)
            have hz8 : bo + 2 ≤ w8.heap.size := by have h1 := Ba.size; have h2 := hg8.size; omega
            have B8 : Below bo w w8 := B3.out.trans ⟨hg8.os.trans Ba.os, hg8.tape.trans Ba.tape, hg8.output.trans Ba.output, Nat.le_trans Ba.size hg8.size, fun k hk => hblk k (by omega) (by omega)⟩
            have hrow8 := RowAt.block hrow3.out (hblk bo (by omega) (by omega))
            have hxx : x = ((min (t * mm) SX : Nat) : Int) := by
              rw [← hx, ← Int.natCast_mul]
              unfold SX
              omega
            replace hown8 := hidI hown8
            replace hrow8 := hidI hrow8
            replace B8 := hidI B8
            clear hg8 hnil hown3 hrow3 B3 HN hblk Ba hx y0 y8
            go_roundw
            case rel =>
              refine ⟨j + 1, prev ++ [t], min (t * mm) SX :: t :: st, a8, m + 1 + 1, c8, by go_num, rfl, by simp [hm.out], ?_, hrow8.out, by simp [hpl], ?_, B8.out, hz8, by omega, ?_, by simp [hm.out]; omega⟩
              · have h := hown8.out
                rw [hxx] at h
                simpa [ncells] using h
              · have h1 := hpt.out
                rw [show n - j = (n - j - 1) + 1 by omega] at h1
                simp only [tl, ho.out, hMz.out, if_true, Int.toNat_natCast] at h1
                rw [← h1, show n - (j + 1) = n - j - 1 by omega]
                simp
              · intro s hs
                rcases List.mem_cons.1 hs with rfl | hs
                · exact Nat.min_le_right _ _
                · exact hst.out s hs
            case measure => simp [intOf]; omega
          · by_cases h4 : o = 4
            · subst h4
              go_wp2_with fail
              go_roundw
              case rel =>
                have hown4 : w3.ownsRow (bo + 1) 3 1 (.slice (some ⟨gt, 0, none⟩) m cp) m (ncells st.reverse) := ownsRow_pop (last := [.int .i64 t]) (by simp [ncells, hm.out]) (by have h := hown3.out; rw [show ncells (t :: st).reverse = ncells st.reverse ++ [.int .i64 (t : Int)] by simp [ncells]] at h; exact h)
                refine ⟨j + 1, prev ++ [t], st, _, _, _, by go_num, rfl, by simp [hm.out], hown4, hrow3.out, by simp [hpl], ?_, B3.out, by omega, by omega, fun s hs => hst.out s (by simp [hs]), by simp [hm.out]; omega⟩
                have h1 := hpt.out
                rw [show n - j = (n - j - 1) + 1 by omega] at h1
                simp only [tl, ho.out] at h1
                rw [if_neg (by decide : ¬ (4 : Int) = 3)] at h1
                try simp only [if_true] at h1
                rw [← h1, show n - (j + 1) = n - j - 1 by omega]
                simp
              case measure => simp [intOf]; omega
            · have h3b : (o == 3) = false := by simp [h3]
              have h4b : (o == 4) = false := by simp [h4]
              go_wp2_with fail
              go_roundw
              case rel => 
                refine ⟨j + 1, prev ++ [t], t :: st, _, _, _, by go_num, rfl, by simp [hm.out], hown3.out, hrow3.out, by simp [hpl], ?_, B3.out, by omega, by omega, hst.out, by simp [hm.out]; omega⟩
                have h1 := hpt.out
                rw [show n - j = (n - j - 1) + 1 by omega] at h1
                simp only [tl, ho.out, h3, h4, if_false] at h1
                rw [← h1, show n - (j + 1) = n - j - 1 by omega]
                simp
              case measure => simp [intOf]; omega
    · have hjn' : j = n := by omega
      have hltI : ¬ (j : Int) < (n : Int) := by omega
      have FIN : Hid (RowAt bo n (fun t => (TL.getD t 0 : Nat)) wr ∧ Below bo w wr) := ⟨hrow.congr (fun t ht => by simp [hjn', ht]), B⟩
      clear hown hrow hpl hpt B hst
      go_wp2_with fail
      go_ret
      exact ⟨rfl, FIN.out⟩
end Go.Proofs.Yteabbkagekdehaa
