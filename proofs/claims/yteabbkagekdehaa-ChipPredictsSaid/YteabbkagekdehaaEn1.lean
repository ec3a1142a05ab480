/- Rows of words: slices.Clone, slices.Equal; the words of an instruction. -/
import Derived.Test.YteabbkagekdehaaCkA
import Derived.BigQuiet
import Derived.Deep.QuietTactic
set_option linter.unusedVariables false
set_option linter.unusedSimpArgs false
set_option maxRecDepth 100000
namespace Go.Proofs.Yteabbkagekdehaa
open Go.AE Go.RowKit Go.IntWalk
/-- a row of numbers lies there -/
def RowI (w : World) (a : Option Addr) (n : Nat) (xs : List Int) : Prop := xs.length = n ∧ (n = 0 ∨ ∃ g, a = some ⟨g, 0, none⟩ ∧ g < w.heap.size ∧ ∀ j, j < n → w.cell? ⟨g, j, none⟩ = some (zI (xs.getD j 0)))
theorem RowI.below {w w' : World} {a : Option Addr} {n : Nat} {xs : List Int} (h : RowI w a n xs) (B : Below w.heap.size w w') : RowI w' a n xs := by
  obtain ⟨h0, h | ⟨g, h1, h2, h3⟩⟩ := h
  · exact ⟨h0, .inl h⟩
  · exact ⟨h0, .inr ⟨g, h1, Nat.lt_of_lt_of_le h2 B.size, fun j hj => by rw [B.cell (by exact h2)]; exact h3 j hj⟩⟩
theorem RowI.of {w : World} {base n cap : Nat} {a : Option Addr} {xs : List Int} (h : w.ownsRow base 3 1 (.slice a n cap) n (zcells xs)) : RowI w a n xs := by
  have hlen : xs.length = n := by have := h.1; simpa [zcells] using this
  refine ⟨hlen, ?_⟩
  rcases h.2 with ⟨hv, h0⟩ | ⟨g, cap', cur, hv, _⟩
  · exact .inl h0
  · simp only [Value.slice.injEq] at hv
    obtain ⟨rfl, _, rfl⟩ := hv
    refine .inr ⟨g, rfl, (h.lt g rfl).2, fun j hj => ?_⟩
    rw [h.cellAt j (by omega), List.getElem?_eq_getElem (by have := h.1; omega)]
    simp only [zcells, List.getElem_map]
    rw [List.getD_eq_getElem?_getD, List.getElem?_eq_getElem (by omega), Option.getD_some]
theorem clone3_c {base n : Nat} {v : Value} {zs : List Int} {w : World} (hown : w.ownsRow base 3 1 v n (zcells zs)) (hn : n ≤ 1000000) :
    Calls Try.prog 33 #[v] w fun e w' => ∃ a cap, e = .returned (.slice a n cap) ∧ w'.ownsRow w.heap.size 3 1 (.slice a n cap) n (zcells zs) ∧ Below w.heap.size w w' := by
  obtain ⟨i0, hi, hz0, hz1, hz2⟩ := info_parts info3
  rcases hown.2 with ⟨rfl, rfl⟩ | ⟨g, cap, cur, rfl, _⟩
  · have hx : zs = [] := by have := hown.1; simpa [zcells] using this
    subst hx
    have hq := Go.Lib.run_eql_slice_nil w 22 3 none 0 0 0 0 Try.underlying22
    go_enter Try.func33, Try.ntmps33
    go_wp2_with fail
    go_ret
    exact ⟨_, _, rfl, World.ownsRow_nil _ _ _ _, Below.refl _ _⟩
  · have hlen : (zcells zs).length = n * 1 := hown.1
    have h0 := World.ownsRow_made (base := w.heap.size) (e := 3) (size := 1) w #[] 0 (Nat.le_refl _) (by unfold maxLen; omega) rfl
    have hB := below_alloc w (.cells #[] 3)
    have HC : Hid (∀ j u, (zcells zs)[j]? = some u → (w.alloc (.cells #[] 3)).cell? ((⟨g, 0, none⟩ : Addr).add j) = some u) := fun j u hj => by
      have hj1 : j < n * 1 := by
        rcases Nat.lt_or_ge j (n * 1) with h | h
        · exact h
        · rw [List.getElem?_eq_none (by omega)] at hj; cases hj
      rw [addr_add, World.cell?_of_block (w := w) (Below.heap_alloc _ _ _ (hown.lt g rfl).2), hown.cellAt j (by omega)]
      exact hj
    have HB : Hid _ := hB
    have HL : Hid _ := hlen
    have H63 : n ≤ maxLen := by unfold maxLen; omega
    have hq := Go.Lib.run_eql_slice_nil w 22 3 (some ⟨g, 0, none⟩) n cap 0 0 Try.underlying22
    clear hlen hB
    go_enter Try.func33, Try.ntmps33
    go_wp2_with (at_builtin; refine wpList_append_own _ rfl (.tmp 5) (.tmp 6) 22 rfl w.heap.size 3 i0 _ 1 8 Try.underlying22 hi hz0 hz1 hz2 rfl (by decide) _ _ _ rfl h0 ⟨g, 0, none⟩ n cap (zcells zs) rfl HL.out HC.out (zcells_one _) (by omega) (by omega) (by simp) ?_; intro v' w1 hown1 hg1 hnil)
    obtain ⟨a', c', rfl⟩ := ownsRow_shape hown1
    go_ret
    refine ⟨a', c', by simp, by simpa using hown1, HB.out.grown hg1 (by simp) (fun k hk => ?_)⟩
    have h : some w.heap.size = some k := hk
    simp only [Option.some.injEq] at h
    omega
/-- equal so far -/
theorem eq_take {xs ys : List Int} {n : Nat} (hx : xs.length = n) (hy : ys.length = n) (h : ∀ j, j < n → xs.getD j 0 = ys.getD j 0) : xs = ys := by
  refine List.ext_getElem (by omega) fun j h1 h2 => ?_
  have := h j (by omega)
  rw [List.getD_eq_getElem?_getD, List.getElem?_eq_getElem h1, List.getD_eq_getElem?_getD, List.getElem?_eq_getElem h2] at this
  simpa using this
theorem below_dq {W : Nat} {w w' : World} (h : Below W w w') (q : Nat) : Below W w (w'.drewN q) := ⟨h.os, h.tape, h.output, h.size, h.block⟩
theorem equal3_c {w : World} {a b : Option Addr} {n m cap1 cap2 : Nat} {xs ys : List Int} (hx : RowI w a n xs) (hy : RowI w b m ys) (hn : n ≤ 1000000) :
    Calls Try.prog 31 #[.slice a n cap1, .slice b m cap2] w fun en w' => en = .returned (.bool (decide (xs = ys))) ∧ Below w.heap.size w w' := by
  have lx := hx.1
  have ly := hy.1
  by_cases hnm : n = m
  · subst hnm
    go_enter Try.func31, Try.ntmps31
    go_wp2_with fail
    go_loopw [13] (fun v13 wr => ∃ j : Nat, v13 = zI j ∧ j ≤ n ∧ (∀ i, i < j → xs.getD i 0 = ys.getD i 0) ∧ Below w.heap.size w wr)
      (fun v13 _ => n - (intOf v13).toNat)
    case atStart => exact ⟨0, rfl, Nat.zero_le _, fun i hi => absurd hi (Nat.not_lt_zero _), Below.refl _ _⟩
    case round =>
      obtain ⟨j, rfl, hj, heq, B⟩ := hrel
      by_cases hlt : j < n
      · have hltI : (j : Int) < (n : Int) := by omega
        rcases (hx.below B).2 with h0 | ⟨g1, rfl, hg1, k1⟩
        · omega
        rcases (hy.below B).2 with h0 | ⟨g2, rfl, hg2, k2⟩
        · omega
        have c1 := k1 j hlt
        have c2 := k2 j hlt
        obtain ⟨x, hxx⟩ : ∃ x, xs.getD j 0 = x := ⟨_, rfl⟩
        obtain ⟨y, hyy⟩ : ∃ y, ys.getD j 0 = y := ⟨_, rfl⟩
        rw [hxx] at c1
        rw [hyy] at c2
        replace hx := hidI hx
        replace hy := hidI hy
        replace B := hidI B
        clear k1 k2
        by_cases hxy : x = y
        · have N1 : Hid (∀ i, i < j + 1 → xs.getD i 0 = ys.getD i 0) := fun i hi => by
            by_cases e : i = j
            · rw [e, hxx, hyy, hxy]
            · exact heq i (by omega)
          clear heq hxx hyy
          subst hxy
          go_wp2_with fail
          go_quiet (fail)
          clear c1 c2
          go_wp2_with fail
          go_roundw
          case rel => exact ⟨j + 1, by go_num, by omega, N1.out, below_dq B.out nq⟩
          case measure => simp [intOf]; omega
        · have hb : (x == y) = false := by simp [hxy]
          have FIN : Hid (decide (xs = ys) = false) := by
            show _ = _
            rw [decide_eq_false_iff_not]
            rintro rfl
            exact hxy (hxx.symm.trans hyy)
          clear heq hxx hyy
          go_wp2_with fail
          go_quiet (fail)
          clear c1 c2
          go_wp2_with fail
          go_ret
          exact ⟨by rw [FIN.out]; rfl, below_dq B.out _⟩
      · have hltI : ¬ (j : Int) < (n : Int) := by omega
        have FIN : Hid (decide (xs = ys) = true) := by
          show _ = _
          rw [decide_eq_true_iff]
          exact eq_take lx ly (fun i hi => heq i (by omega))
        replace B := hidI B
        clear heq
        go_wp2_with fail
        go_ret
        exact ⟨by rw [FIN.out]; rfl, B.out⟩
  · have hb : ((n : Int) == (m : Int)) = false := by simp; omega
    have hne : ¬ (n : Int) = (m : Int) := by omega
    have FIN : Hid (decide (xs = ys) = false) := by
      show _ = _
      rw [decide_eq_false_iff_not]
      rintro rfl
      omega
    go_enter Try.func31, Try.ntmps31
    go_wp2_with fail
    go_ret
    exact ⟨by rw [FIN.out]; rfl, Below.refl _ _⟩
/-- the same, of a row that begins anywhere -/
theorem equal3o_c {w : World} {a : Option Addr} {g2 o n cap1 cap2 : Nat} {xs ys : List Int} {bb : Bool} (hx : RowI w a n xs) (hy : g2 < w.heap.size ∧ ∀ j, j < n → w.cell? ⟨g2, o + j, none⟩ = some (zI (ys.getD j 0))) (hl : ys.length = n) (hn : n ≤ 1000000) (hbb : decide (xs = ys) = bb) :
    Calls Try.prog 31 #[.slice a n cap1, .slice (some ⟨g2, o, none⟩) n cap2] w fun en w' => en = .returned (.bool bb) ∧ Below w.heap.size w w' := by
  have lx := hx.1
  have ly := hl
  subst hbb
  go_enter Try.func31, Try.ntmps31
  go_wp2_with fail
  go_loopw [13] (fun v13 wr => ∃ j : Nat, v13 = zI j ∧ j ≤ n ∧ (∀ i, i < j → xs.getD i 0 = ys.getD i 0) ∧ Below w.heap.size w wr)
    (fun v13 _ => n - (intOf v13).toNat)
  case atStart => exact ⟨0, rfl, Nat.zero_le _, fun i hi => absurd hi (Nat.not_lt_zero _), Below.refl _ _⟩
  case round =>
    obtain ⟨j, rfl, hj, heq, B⟩ := hrel
    by_cases hlt : j < n
    · have hltI : (j : Int) < (n : Int) := by omega
      rcases (hx.below B).2 with h0 | ⟨g1, rfl, hg1, k1⟩
      · omega
      have k2 : ∀ j, j < n → wr.cell? ⟨g2, o + j, none⟩ = some (zI (ys.getD j 0)) := fun j hj => by rw [B.cell (by exact hy.1)]; exact hy.2 j hj
      have c1 := k1 j hlt
      have c2 := k2 j hlt
      obtain ⟨x, hxx⟩ : ∃ x, xs.getD j 0 = x := ⟨_, rfl⟩
      obtain ⟨y, hyy⟩ : ∃ y, ys.getD j 0 = y := ⟨_, rfl⟩
      rw [hxx] at c1
      rw [hyy] at c2
      replace hx := hidI hx
      replace hy := hidI hy
      replace B := hidI B
      clear k1 k2
      by_cases hxy : x = y
      · have N1 : Hid (∀ i, i < j + 1 → xs.getD i 0 = ys.getD i 0) := fun i hi => by
          by_cases e : i = j
          · rw [e, hxx, hyy, hxy]
          · exact heq i (by omega)
        clear heq hxx hyy
        subst hxy
        go_wp2_with fail
        go_quiet (fail)
        clear c1 c2
        go_wp2_with fail
        go_roundw
        case rel => exact ⟨j + 1, by go_num, by omega, N1.out, below_dq B.out nq⟩
        case measure => simp [intOf]; omega
      · have hb : (x == y) = false := by simp [hxy]
        have FIN : Hid (decide (xs = ys) = false) := by
          show _ = _
          rw [decide_eq_false_iff_not]
          rintro rfl
          exact hxy (hxx.symm.trans hyy)
        clear heq hxx hyy
        go_wp2_with fail
        go_quiet (fail)
        clear c1 c2
        go_wp2_with fail
        go_ret
        exact ⟨by rw [FIN.out]; rfl, below_dq B.out _⟩
    · have hltI : ¬ (j : Int) < (n : Int) := by omega
      have FIN : Hid (decide (xs = ys) = true) := by
        show _ = _
        rw [decide_eq_true_iff]
        exact eq_take lx ly (fun i hi => heq i (by omega))
      replace B := hidI B
      clear heq
      go_wp2_with fail
      go_ret
      exact ⟨by rw [FIN.out]; rfl, B.out⟩
/-- rows of the same instructions are equal -/
theorem equal9_c {w : World} {a b : Option Addr} {n cap1 cap2 : Nat} {zs : List Int} (hx : RowZ w a n zs) (hy : RowZ w b n zs) (hn : n ≤ 1000000) :
    Calls Try.prog 37 #[.slice a n cap1, .slice b n cap2] w fun en w' => en = .returned (.bool true) ∧ Below w.heap.size w w' := by
  go_enter Try.func37, Try.ntmps37
  go_wp2_with fail
  go_loopw [13] (fun v13 wr => ∃ j : Nat, v13 = zI j ∧ j ≤ n ∧ Below w.heap.size w wr)
    (fun v13 _ => n - (intOf v13).toNat)
  case atStart => exact ⟨0, rfl, Nat.zero_le _, Below.refl _ _⟩
  case round =>
    obtain ⟨j, rfl, hj, B⟩ := hrel
    by_cases hlt : j < n
    · have hltI : (j : Int) < (n : Int) := by omega
      rcases (hx.below B) with h0 | ⟨g1, rfl, hg1, k1⟩
      · omega
      rcases (hy.below B) with h0 | ⟨g2, rfl, hg2, k2⟩
      · omega
      obtain ⟨z0, h0⟩ : ∃ z, zs.getD (j * 9) 0 = z := ⟨_, rfl⟩
      have x0 : wr.cell? ⟨g1, j * 9, none⟩ = some (zI z0) := by rw [k1 _ (by omega), h0]
      have y0 : wr.cell? ⟨g2, j * 9, none⟩ = some (zI z0) := by rw [k2 _ (by omega), h0]
      obtain ⟨z1, h1⟩ : ∃ z, zs.getD (j * 9 + 1) 0 = z := ⟨_, rfl⟩
      have x1 : wr.cell? ⟨g1, j * 9 + 1, none⟩ = some (zI z1) := by rw [k1 _ (by omega), h1]
      have y1 : wr.cell? ⟨g2, j * 9 + 1, none⟩ = some (zI z1) := by rw [k2 _ (by omega), h1]
      obtain ⟨z2, h2⟩ : ∃ z, zs.getD (j * 9 + 2) 0 = z := ⟨_, rfl⟩
      have x2 : wr.cell? ⟨g1, j * 9 + 2, none⟩ = some (zI z2) := by rw [k1 _ (by omega), h2]
      have y2 : wr.cell? ⟨g2, j * 9 + 2, none⟩ = some (zI z2) := by rw [k2 _ (by omega), h2]
      obtain ⟨z3, h3⟩ : ∃ z, zs.getD (j * 9 + 3) 0 = z := ⟨_, rfl⟩
      have x3 : wr.cell? ⟨g1, j * 9 + 3, none⟩ = some (zI z3) := by rw [k1 _ (by omega), h3]
      have y3 : wr.cell? ⟨g2, j * 9 + 3, none⟩ = some (zI z3) := by rw [k2 _ (by omega), h3]
      obtain ⟨z4, h4⟩ : ∃ z, zs.getD (j * 9 + 4) 0 = z := ⟨_, rfl⟩
      have x4 : wr.cell? ⟨g1, j * 9 + 4, none⟩ = some (zI z4) := by rw [k1 _ (by omega), h4]
      have y4 : wr.cell? ⟨g2, j * 9 + 4, none⟩ = some (zI z4) := by rw [k2 _ (by omega), h4]
      obtain ⟨z5, h5⟩ : ∃ z, zs.getD (j * 9 + 5) 0 = z := ⟨_, rfl⟩
      have x5 : wr.cell? ⟨g1, j * 9 + 5, none⟩ = some (zI z5) := by rw [k1 _ (by omega), h5]
      have y5 : wr.cell? ⟨g2, j * 9 + 5, none⟩ = some (zI z5) := by rw [k2 _ (by omega), h5]
      obtain ⟨z6, h6⟩ : ∃ z, zs.getD (j * 9 + 6) 0 = z := ⟨_, rfl⟩
      have x6 : wr.cell? ⟨g1, j * 9 + 6, none⟩ = some (zI z6) := by rw [k1 _ (by omega), h6]
      have y6 : wr.cell? ⟨g2, j * 9 + 6, none⟩ = some (zI z6) := by rw [k2 _ (by omega), h6]
      obtain ⟨z7, h7⟩ : ∃ z, zs.getD (j * 9 + 7) 0 = z := ⟨_, rfl⟩
      have x7 : wr.cell? ⟨g1, j * 9 + 7, none⟩ = some (zI z7) := by rw [k1 _ (by omega), h7]
      have y7 : wr.cell? ⟨g2, j * 9 + 7, none⟩ = some (zI z7) := by rw [k2 _ (by omega), h7]
      obtain ⟨z8, h8⟩ : ∃ z, zs.getD (j * 9 + 8) 0 = z := ⟨_, rfl⟩
      have x8 : wr.cell? ⟨g1, j * 9 + 8, none⟩ = some (zI z8) := by rw [k1 _ (by omega), h8]
      have y8 : wr.cell? ⟨g2, j * 9 + 8, none⟩ = some (zI z8) := by rw [k2 _ (by omega), h8]
      replace hx := hidI hx
      replace hy := hidI hy
      replace B := hidI B
      clear k1 k2 h0 h1 h2 h3 h4 h5 h6 h7 h8
      go_wp2_with fail
      go_quiet (fail)
      clear x0 x1 x2 x3 x4 x5 x6 x7 x8 y0 y1 y2 y3 y4 y5 y6 y7 y8
      go_wp2_with fail
      go_roundw
      case rel => exact ⟨j + 1, by go_num, by omega, below_dq B.out nq⟩
      case measure => simp [intOf]; omega
    · have hltI : ¬ (j : Int) < (n : Int) := by omega
      replace B := hidI B
      go_wp2_with fail
      go_ret
      exact ⟨rfl, B.out⟩
theorem within49_c {w : World} {n lo hi : Int} {b : Bool} (hb : decide (lo ≤ n ∧ n ≤ hi) = b) :
    Calls Try.prog 49 #[zI n, zI lo, zI hi] w fun en w' => en = .returned (.bool b) ∧ Below w.heap.size w w' := by
  by_cases h1 : lo ≤ n
  · by_cases h2 : n ≤ hi
    · obtain rfl : b = true := by rw [← hb]; simp [h1, h2]
      go_enter Try.func49, Try.ntmps49
      go_wp2_with fail
      go_ret
      exact ⟨rfl, Below.refl _ _⟩
    · obtain rfl : b = false := by rw [← hb]; simp [h2]
      go_enter Try.func49, Try.ntmps49
      go_wp2_with fail
      go_ret
      exact ⟨rfl, Below.refl _ _⟩
  · obtain rfl : b = false := by rw [← hb]; simp [h1]
    go_enter Try.func49, Try.ntmps49
    go_wp2_with fail
    go_ret
    exact ⟨rfl, Below.refl _ _⟩
theorem within61_c {w : World} {n lo hi : Int} {b : Bool} (hb : decide (lo ≤ n ∧ n ≤ hi) = b) :
    Calls Try.prog 61 #[zI n, zI lo, zI hi] w fun en w' => en = .returned (.bool b) ∧ Below w.heap.size w w' := by
  by_cases h1 : lo ≤ n
  · by_cases h2 : n ≤ hi
    · obtain rfl : b = true := by rw [← hb]; simp [h1, h2]
      go_enter Try.func61, Try.ntmps61
      go_wp2_with fail
      go_ret
      exact ⟨rfl, Below.refl _ _⟩
    · obtain rfl : b = false := by rw [← hb]; simp [h2]
      go_enter Try.func61, Try.ntmps61
      go_wp2_with fail
      go_ret
      exact ⟨rfl, Below.refl _ _⟩
  · obtain rfl : b = false := by rw [← hb]; simp [h1]
    go_enter Try.func61, Try.ntmps61
    go_wp2_with fail
    go_ret
    exact ⟨rfl, Below.refl _ _⟩
theorem word66_c {w : World} {n : Int} {b : Bool} (hb : decide (-2147483648 ≤ n ∧ n ≤ 2147483647) = b) :
    Calls Try.prog 66 #[zI n] w fun en w' => en = .returned (.bool b) ∧ Below w.heap.size w w' := by
  go_enter Try.func66, Try.ntmps66
  go_wp2_with fail
  refine (within49_c hb).mono ?_
  rintro e w' ⟨rfl, B⟩
  go_wp2_with fail
  go_ret
  exact ⟨rfl, B⟩
theorem word67_c {w : World} {n : Int} {b : Bool} (hb : decide (-2147483648 ≤ n ∧ n ≤ 2147483647) = b) :
    Calls Try.prog 67 #[zI n] w fun en w' => en = .returned (.bool b) ∧ Below w.heap.size w w' := by
  go_enter Try.func67, Try.ntmps67
  go_wp2_with fail
  refine (within61_c hb).mono ?_
  rintro e w' ⟨rfl, B⟩
  go_wp2_with fail
  go_ret
  exact ⟨rfl, B⟩
/-- the two words of an instruction's small fields -/
def wA (z0 z1 z2 z3 : Int) : Int := wrap64 (wrap64 (wrap64 (z0 + wrap64 (64 * z1)) + wrap64 (4096 * z2)) + wrap64 (131072 * z3))
def wB (z4 z5 z6 : Int) : Int := wrap64 (wrap64 (z4 + wrap64 (32 * wrap64 (z5 + 1024))) + wrap64 (65536 * z6))
set_option maxHeartbeats 1000000 in
theorem words_c {w : World} (z0 z1 z2 z3 z4 z5 z6 z7 z8 : Int) :
    Calls Try.prog 65 #[.agg #[zI z0, zI z1, zI z2, zI z3, zI z4, zI z5, zI z6, zI z7, zI z8]] w fun en w' => en = .returned (.agg #[zI (wA z0 z1 z2 z3), zI (wB z4 z5 z6), zI z7, zI z8]) ∧ Below w.heap.size w w' := by
  go_enter Try.func65, Try.ntmps65
  go_wp2_with fail
  obtain ⟨p, hp⟩ : ∃ p, wrap64 (wrap64 (wrap64 (z0 + wrap64 (64 * z1)) + wrap64 (4096 * z2)) + wrap64 (131072 * z3)) = p := ⟨_, rfl⟩
  obtain ⟨q, hq⟩ : ∃ q, wrap64 (wrap64 (z4 + wrap64 (32 * wrap64 (z5 + 1024))) + wrap64 (65536 * z6)) = q := ⟨_, rfl⟩
  have hA : wA z0 z1 z2 z3 = p := hp
  have hB : wB z4 z5 z6 = q := hq
  rw [hp, hq, hA, hB]
  have B2 := (below_alloc w (.cells #[zI z0, zI z1, zI z2, zI z3, zI z4, zI z5, zI z6, zI z7, zI z8] 29)).trans ((below_alloc (w.alloc (.cells #[zI z0, zI z1, zI z2, zI z3, zI z4, zI z5, zI z6, zI z7, zI z8] 29)) (.cells #[zI p, zI q, zI z7, zI z8] 97)).mono (by simp only [World.alloc, Array.size_push]; omega))
  have c := below_row (w := w.alloc (.cells #[zI z0, zI z1, zI z2, zI z3, zI z4, zI z5, zI z6, zI z7, zI z8] 29)) (bm := w.heap.size + 1) #[zI p, zI q, zI z7, zI z8] 97 (by simp only [World.alloc, Array.size_push])
  refine bodyPost_ret (v := .agg #[zI p, zI q, zI z7, zI z8]) ?_ rfl ⟨rfl, B2⟩
  simp [results, Try.results65, go_sem, c]
end Go.Proofs.Yteabbkagekdehaa
