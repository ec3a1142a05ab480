/- The code's 'loopEnds': where each loop ends. -/
import Derived.Test.YteabbkagekdehaaCkA
import Derived.Test.YteabbkagekdehaaPln
import Derived.WalkSmall
set_option linter.unusedVariables false
set_option linter.unusedSimpArgs false
set_option maxRecDepth 100000
namespace Go.Proofs.Yteabbkagekdehaa
open Go.AE Go.RowKit Go.IntWalk
theorem own_ge4 {w : World} {base : Nat} {e : TypeId} {size : Nat} {v : Value} {n : Nat} {xs : List Value} (h : w.ownsRow base e size v n xs) {k : Nat} (hk : v.ownBlock = some k) : base ≤ k := by
  rcases h.2 with ⟨rfl, h0⟩ | ⟨g, cap, cur, rfl, h1, _⟩
  · cases hk
  · cases hk; exact h1
set_option maxHeartbeats 4000000 in
theorem ends_c {w : World} {a : Option Addr} {n cap : Nat} {zs : List Int} (hr : RowZ w a n zs) (hn : n ≤ 100000) {OUT : Nat → Nat} (hOUT : en (opZ zs) n 0 [] (fun _ => 0) = OUT) (hS : scan (opZ zs) (fun _ => 0) n 0 0 = .inr 0) :
    Calls Try.prog 88 #[.slice a n cap] w fun en' w' => en' = .returned (.slice (some ⟨w.heap.size, 0, none⟩) n n) ∧ RowAt w.heap.size n (fun t => (OUT t : Nat)) w' ∧ Below w.heap.size w w' ∧ w.heap.size < w'.heap.size := by
  have hm := make_int2 n hn
  go_enter Try.func88, Try.ntmps88
  go_wp2_with fail
  have B1 := below_alloc w (.cells (madeCells #[.int .i64 0] n) 3)
  have hR1 := made_row2 (heap_alloc_new w (.cells (madeCells #[.int .i64 0] n) 3))
  obtain ⟨w1, hw1⟩ : ∃ w1, w.alloc (.cells (madeCells #[.int .i64 0] n) 3) = w1 := ⟨_, rfl⟩
  have hz1 : w1.heap.size = w.heap.size + 1 := by rw [← hw1]; simp
  rw [hw1] at B1 hR1
  obtain ⟨bo, hbo⟩ : ∃ bo, w.heap.size = bo := ⟨_, rfl⟩
  rw [hbo] at hR1 hz1
  have B1' : Below bo w w1 := by rw [← hbo]; exact B1
  rw [hw1, hbo]
  clear hm B1 hw1
  have HO : Hid _ := hOUT
  have HS : Hid _ := hS
  clear hOUT hS
  go_loopw [4, 12] (fun v4 v12 wr => ∃ (j : Nat) (st : List Nat) (at' : Option Addr) (len cp : Nat) (F : Nat → Nat), v12 = zI j ∧ v4 = .slice at' len cp ∧ len = st.length ∧ wr.ownsRow (bo + 1) 3 1 (.slice at' len cp) len (ncells st.reverse) ∧
      RowAt bo n (fun t => (F t : Nat)) wr ∧ en (opZ zs) (n - j) j st F = OUT ∧ scan (opZ zs) (fun _ => 0) (n - j) j st.length = .inr 0 ∧ Below bo w wr ∧ bo + 1 ≤ wr.heap.size ∧ j ≤ n ∧ (∀ s ∈ st, s < j) ∧ st.length ≤ j)
    (fun _ v12 _ => n - (intOf v12).toNat)
  case atStart => exact ⟨0, [], none, 0, 0, fun _ => 0, rfl, rfl, rfl, World.ownsRow_nil _ _ _ _, hR1.congr (fun _ _ => rfl), HO.out, HS.out, B1', by omega, Nat.zero_le _, by simp, Nat.le_refl _⟩
  case round =>
    clear hR1 B1' hz1
    obtain ⟨j, st, at', len, cp, F, rfl, rfl, hlen, hown, hrow, hen, hsc, B, hsz, hjn, hst, hsl⟩ := hrel
    by_cases hlt : j < n
    · have hltI : (j : Int) < (n : Int) := by omega
      rcases (hr.below (by rw [hbo]; exact B)) with h0 | ⟨g, rfl, hg, hcell⟩
      · omega
      rw [scan_step hlt] at hsc
      simp only [ne_eq, not_true_eq_false, if_false] at hsc
      rw [show n - j = (n - (j + 1)) + 1 by omega] at hen
      simp only [en] at hen
      obtain ⟨o, ho⟩ : ∃ o, opZ zs j = o := ⟨_, rfl⟩
      rw [ho] at hsc hen
      have x0 : wr.cell? ⟨g, j * 9, none⟩ = some (.int .i64 o) := by rw [hcell _ (by omega)]; exact congrArg _ (congrArg _ ho)
      obtain ⟨z1, x1⟩ : ∃ z, wr.cell? ⟨g, j * 9 + 1, none⟩ = some (.int .i64 z) := ⟨_, hcell _ (by omega)⟩
      obtain ⟨z2, x2⟩ : ∃ z, wr.cell? ⟨g, j * 9 + 2, none⟩ = some (.int .i64 z) := ⟨_, hcell _ (by omega)⟩
      obtain ⟨z3, x3⟩ : ∃ z, wr.cell? ⟨g, j * 9 + 3, none⟩ = some (.int .i64 z) := ⟨_, hcell _ (by omega)⟩
      obtain ⟨z4, x4⟩ : ∃ z, wr.cell? ⟨g, j * 9 + 4, none⟩ = some (.int .i64 z) := ⟨_, hcell _ (by omega)⟩
      obtain ⟨z5, x5⟩ : ∃ z, wr.cell? ⟨g, j * 9 + 5, none⟩ = some (.int .i64 z) := ⟨_, hcell _ (by omega)⟩
      obtain ⟨z6, x6⟩ : ∃ z, wr.cell? ⟨g, j * 9 + 6, none⟩ = some (.int .i64 z) := ⟨_, hcell _ (by omega)⟩
      obtain ⟨z7, x7⟩ : ∃ z, wr.cell? ⟨g, j * 9 + 7, none⟩ = some (.int .i64 z) := ⟨_, hcell _ (by omega)⟩
      obtain ⟨z8, x8⟩ : ∃ z, wr.cell? ⟨g, j * 9 + 8, none⟩ = some (.int .i64 z) := ⟨_, hcell _ (by omega)⟩
      replace hown := hidI hown
      replace hrow := hidI hrow
      replace hen := hidI hen
      replace hsc := hidI hsc
      replace B := hidI B
      replace hst := hidI hst
      replace ho := hidI ho
      replace hlen := hidI hlen
      clear hcell
      obtain ⟨X, hX⟩ : ∃ X, wr.heap.size = X := ⟨_, rfl⟩
      go_upto_region 6 with fail
      have Ba := below_alloc wr (.cells #[zI o, zI z1, zI z2, zI z3, zI z4, zI z5, zI z6, zI z7, zI z8] 29)
      have y1 := below_row (w := wr) #[zI o, zI z1, zI z2, zI z3, zI z4, zI z5, zI z6, zI z7, zI z8] 29 hX
      have hown3 := hown.out.alloc (.cells #[zI o, zI z1, zI z2, zI z3, zI z4, zI z5, zI z6, zI z7, zI z8] 29)
      have hrow3 := RowAt.block hrow.out (Ba.block bo (by omega))
      have B3 := B.out.trans (Ba.mono (by omega))
      have hz3 : (wr.alloc (.cells #[zI o, zI z1, zI z2, zI z3, zI z4, zI z5, zI z6, zI z7, zI z8] 29)).heap.size = X + 1 := by simp only [World.alloc, Array.size_push]; omega
      obtain ⟨w3, hw3⟩ : ∃ w3, wr.alloc (.cells #[zI o, zI z1, zI z2, zI z3, zI z4, zI z5, zI z6, zI z7, zI z8] 29) = w3 := ⟨_, rfl⟩
      rw [hw3] at y1 hown3 hrow3 B3 hz3
      rw [hw3]
      try rw [hX]
      replace hown3 := hidI hown3
      replace hrow3 := hidI hrow3
      replace B3 := hidI B3
      have hbX : bo < X := by omega
      clear hown hrow B Ba hw3 hX x0 x1 x2 x3 x4 x5 x6 x7 x8
      by_cases h3 : o = 3
      · subst h3
        have hen' := hen.out
        have hsc' := hsc.out
        rw [if_neg (by decide : ¬ (3 : Int) = 4)] at hsc'
        simp only [if_true] at hen' hsc'
        by_cases h16 : 16 ≤ st.length
        · rw [if_pos h16] at hsc'; cases hsc'
        rw [if_neg h16] at hsc'
        replace hen' := hidI hen'
        replace hsc' := hidI hsc'
        obtain ⟨i0, hi, hi0, hi1, hi2⟩ := info_parts info3
        obtain ⟨Y, hY⟩ : ∃ Y, w3.heap.size = Y := ⟨_, rfl⟩
        have HN : Hid (∀ t u, ([Value.int .i64 (j : Int)])[t]? = some u → (w3.alloc (.cells #[.int .i64 (j : Int)] 3)).cell? ((⟨Y, 0, none⟩ : Addr).add t) = some u) := fun t u hu => by
          rw [addr_add, ← hY, cell_of_row _ w3.heap.size t _ 3 (0, 0) (heap_alloc_new w3 _)]; simpa using hu
        have hlenL : len ≤ 100000 := by have := hlen.out; omega
        have hb3 : bo + 1 ≤ w3.heap.size := by omega
        clear hen hsc hz3
        go_upto_region 8 with fail
        go_wp2_with (at_builtin; refine wpList_append_own _ rfl (.tmp 21) (.tmp 23) 22 rfl (bo + 1) 3 i0 _ 1 8 Try.underlying22 hi hi0 hi1 hi2 rfl (by decide) _ _ _ rfl (hown3.out.alloc _) ⟨Y, 0, none⟩ 1 1 [.int .i64 (j : Int)] rfl rfl HN.out (by simp [Value.oneCell']) (by unfold maxLen; omega) (by omega) (by simp; omega) ?_; intro v' w8 hown8 hg8 hnil; clear hnil; replace hown8 := hidI hown8; replace hg8 := hidI hg8; clear hi hi0 hi1 hi2)
        obtain ⟨a8, c8, rfl⟩ := ownsRow_shape hown8.out
        have Ba := below_alloc w3 (.cells #[Value.int .i64 (j : Int)] 3)
        have hge : ∀ k, (Value.slice at' len cp).ownBlock = some k → bo + 1 ≤ k := fun k hk => own_ge4 hown3.out hk
        have B8a : Below (bo + 1) w3 w8 := (Ba.mono hb3).grown hg8.out (by simp only [World.alloc, Array.size_push]; omega) hge
        have B8 : Below bo w w8 := B3.out.trans (B8a.mono (by omega))
        have hsz8 : bo + 1 ≤ w8.heap.size := by have := B8a.size; omega
        have hrow8 := RowAt.block hrow3.out (B8a.block bo (by omega))
        refine ⟨⟨j + 1, j :: st, a8, len + 1, c8, F, by go_num, rfl, by simp [hlen.out], ?_, hrow8, hen'.out, hsc'.out, B8, hsz8, by omega, ?_, by simp; omega⟩, by simp [intOf]; omega⟩
        · have h := hown8.out
          simpa [ncells] using h
        · intro s hs
          rcases List.mem_cons.1 hs with rfl | hs
          · omega
          · have := hst.out s hs; omega
      · by_cases h4 : o = 4
        · subst h4
          have hen' := hen.out
          have hsc' := hsc.out
          rw [if_neg (by decide : ¬ (4 : Int) = 3)] at hen'
          simp only [if_true] at hen' hsc'
          cases st with
          | nil => simp at hsc'
          | cons s st =>
            simp only at hen'
            rw [if_neg (by simp)] at hsc'
            obtain ⟨m, hm⟩ : ∃ m, st.length = m := ⟨_, rfl⟩
            obtain rfl : len = m + 1 := by rw [hlen.out, List.length_cons, hm]
            obtain ⟨gt, rfl⟩ : ∃ gt, at' = some ⟨gt, 0, none⟩ := by
              rcases hown3.out.2 with ⟨h, h0⟩ | ⟨g, cap, cur, h, _⟩
              · omega
              · simp only [Value.slice.injEq] at h; exact ⟨g, h.1⟩
            have hgt := hown3.out.lt gt rfl
            have hcp : m + 1 ≤ cp := by
              rcases hown3.out.2 with ⟨h, h0⟩ | ⟨g, cap, cur, h, _, _, h5, _⟩
              · omega
              · simp only [Value.slice.injEq] at h; omega
            have hsm : m ≤ 100000 := by simp only [List.length_cons] at hsl; omega
            have hs : s < j := hst.out s (by simp)
            have hmj : m + 1 ≤ j := by simp only [List.length_cons] at hsl; omega
            have hct : w3.cell? ⟨gt, m, none⟩ = some (zI s) := by
              rw [hown3.out.cellAt m (by omega)]
              simp only [ncells, List.reverse_cons, List.map_append, List.map_cons, List.map_nil]
              rw [List.getElem?_append_right (by simp [hm])]
              simp [hm]
            have dr := (hrow3.out s (by omega)).1
            have df : w3.frozen? ⟨bo, s, none⟩ = false := (hrow3.out s (by omega)).2
            replace dr : w3.cell? ⟨bo, s, none⟩ = some (zI (F s : Nat)) := dr
            have hsn : (s : Int) < (n : Int) := by omega
            replace hen' := hidI hen'
            replace hsc' := hidI hsc'
            replace hm := hidI hm
            clear hen hsc hlen hsl
            have hbz : bo + 1 ≤ w3.heap.size := by omega
            go_wp2_with fail
            have OS := oth_setCell w3 bo s (.int .i64 (j : Int))
            have hown4 : w3.ownsRow (bo + 1) 3 1 (.slice (some ⟨gt, 0, none⟩) m cp) m (ncells st.reverse) := ownsRow_pop (last := [.int .i64 s]) (by simp [ncells, hm.out]) (by have h := hown3.out; rw [show ncells (s :: st).reverse = ncells st.reverse ++ [.int .i64 (s : Int)] by simp [ncells]] at h; exact h)
            have hown5 := ownsRow_oth hown4 OS (by omega)
            have hrow5 := (hrow3.out.set (show s < n by omega) (j : Int)).congr (f' := fun t => (((fun k => if k = s then j else F k) t : Nat) : Int)) (fun t ht => by
              by_cases e : t = s
              · simp [e]
              · simp [e])
            have B5 : Below bo w (w3.setCell ⟨bo, s, none⟩ (.int .i64 (j : Int))) := B3.out.trans ⟨rfl, rfl, rfl, by rw [csize_set]; exact Nat.le_refl _, fun k hk => Below.heap_setCell _ _ _ _ (show k ≠ bo by omega)⟩
            have hz5 : bo + 1 ≤ (w3.setCell ⟨bo, s, none⟩ (.int .i64 (j : Int))).heap.size := by rw [csize_set]; exact hbz
            have hsc2 := hsc'.out
            rw [show (s :: st).length - 1 = st.length from rfl] at hsc2
            go_roundw
            case rel => exact ⟨j + 1, st, some ⟨gt, 0, none⟩, m, cp, _, by go_num, rfl, hm.out.symm, hown5, hrow5, hen'.out, hsc2, B5, hz5, by omega, fun t ht => by have := hst.out t (by simp [ht]); omega, by simp [hm.out]; omega⟩
            case measure => simp [intOf]; omega
        · have h3b : (o == 3) = false := by simp [h3]
          have h4b : (o == 4) = false := by simp [h4]
          have hen' := hen.out
          have hsc' := hsc.out
          rw [if_neg h3, if_neg h4] at hen'
          rw [if_neg h4, if_neg h3] at hsc'
          replace hen' := hidI hen'
          replace hsc' := hidI hsc'
          clear hen hsc
          go_wp2_with fail
          go_roundw
          case rel => exact ⟨j + 1, st, at', len, cp, F, by go_num, rfl, hlen.out, hown3.out, hrow3.out, hen'.out, hsc'.out, B3.out, by omega, by omega, fun s hs => by have := hst.out s hs; omega, by omega⟩
          case measure => simp [intOf]; omega
    · have hjn' : j = n := by omega
      have hltI : ¬ (j : Int) < (n : Int) := by omega
      subst hjn'
      rw [Nat.sub_self] at hen
      simp only [en] at hen
      subst hen
      have FIN : Hid _ := (⟨hrow, B, (by omega : bo < wr.heap.size)⟩ : _ ∧ _ ∧ _)
      clear hown hrow B hst hsc
      go_wp2_with fail
      go_ret
      exact ⟨rfl, FIN.out⟩
end Go.Proofs.Yteabbkagekdehaa
