/- chip.Pack's parts: conflicts; weftref2.Together; slices.Max and Clone at integers. -/
import Derived.Test.YteabbkagekdehaaRegs3
import Derived.Test.YteabbkagekdehaaPln
import Derived.Deep.QuietTactic
import Derived.BigQuiet
import Derived.Lib.SliceRun
set_option linter.unusedVariables false
set_option linter.unusedSimpArgs false
namespace Go.Proofs.Yteabbkagekdehaa
open Go.AE Go.RowKit Go.IntWalk Go.PackLaw
set_option maxHeartbeats 1000000 in
set_option maxRecDepth 10000 in
theorem conflicts_c {p m cap : Nat} {a : Option Addr} {N : Nat → Nat} {PP : List Pr} {w : World} (hm : m ≤ 6) (hnow : w.cell? ⟨p, 37, none⟩ = some (.slice a m cap)) (hcell : ∀ t, t < m → ∃ g, a = some ⟨g, 0, none⟩ ∧ w.cell? ⟨g, t, none⟩ = some (.int .i64 (N t)))
    (hM : ∀ i k, i < 6 → k < 6 → w.cell? ⟨p, 1 + i * 6 + k, none⟩ = some (.int .i64 (M PP i k))) (hpp : ∀ x ∈ PP, x.1 ≠ x.2) (hlen : PP.length ≤ 1000) :
    Calls Try.prog 81 #[.pointer (some ⟨p, 0, none⟩)] w fun e w' => e = .returned (.int .i64 (confTo PP N m)) ∧ ∃ q, w' = w.drewN q := by
  have HC : Hid (∀ t, t < m → ∃ g, a = some ⟨g, 0, none⟩ ∧ w.cell? ⟨g, t, none⟩ = some (.int .i64 (N t))) := hcell
  have HM : Hid (∀ i k, i < 6 → k < 6 → w.cell? ⟨p, 1 + i * 6 + k, none⟩ = some (.int .i64 (M PP i k))) := hM
  have HP : Hid (∀ x ∈ PP, x.1 ≠ x.2) := hpp
  clear hcell hM hpp
  go_enter Try.func81, Try.ntmps81
  go_wp2_with fail
  go_loopw [3, 11] (fun s i wr => ∃ k q : Nat, i = .int .i64 k ∧ s = .int .i64 (confTo PP N k) ∧ k ≤ m ∧ wr = w.drewN q) (fun _ i _ => m - (intOf i).toNat)
  case atStart => exact ⟨0, 0, rfl, by rw [confTo_zero]; rfl, by omega, rfl⟩
  case round =>
    obtain ⟨k, q, rfl, rfl, hk, rfl⟩ := hrel
    by_cases hlt : k < m
    · have hz : (k : Int) < (m : Int) := by omega
      go_wp2_with fail
      go_loopw [3, 15] (fun s i wr => ∃ j q : Nat, i = .int .i64 j ∧ s = .int .i64 ((confTo PP N k + confIn PP N k j : Nat) : Int) ∧ j ≤ k ∧ wr = w.drewN q) (fun _ i _ => m - (intOf i).toNat)
      case atStart => exact ⟨0, q, rfl, by rw [confIn_zero]; rfl, by omega, rfl⟩
      case round =>
        obtain ⟨j, q, rfl, rfl, hj, rfl⟩ := hrel
        have l1 := confTo_le' PP N k
        have l2 := confIn_le PP N k j
        have l3 := M_le PP k j
        by_cases hlt2 : j < k
        · have hz2 : (j : Int) < (k : Int) := by omega
          have hz3 : (j : Int) < (m : Int) := by omega
          obtain ⟨g, rfl, c1⟩ := HC.out k hlt
          obtain ⟨g2, hg2, c2⟩ := HC.out j (by omega)
          obtain rfl : g = g2 := by simpa using hg2
          have c3 := HM.out k j (by omega) (by omega)
          have d1 : (w.drewN q).cell? ⟨g, k, none⟩ = some (.int .i64 (N k)) := c1
          have d2 : (w.drewN q).cell? ⟨g, j, none⟩ = some (.int .i64 (N j)) := c2
          have d3 : (w.drewN q).cell? ⟨p, 1 + k * 6 + j, none⟩ = some (.int .i64 (M PP k j)) := c3
          have d4 : (w.drewN q).cell? ⟨p, 37, none⟩ = some (.slice (some ⟨g, 0, none⟩) m cap) := hnow
          have HNOW : Hid _ := hnow
          have hk6 : (k : Int) < 6 := by omega
          have hj6 : (j : Int) < 6 := by omega
          clear c1 c2 c3 hg2 hnow
          obtain ⟨wq, hwq⟩ : ∃ wq, w.drewN q = wq := ⟨_, rfl⟩
          rw [hwq] at d1 d2 d3 d4
          have HWQ : Hid (w.drewN q = wq) := hwq
          by_cases he : N k = N j
          · have hy := confIn_yes (PP := PP) (N := N) he
            have HY : Hid _ := hy
            have hez : ((N k : Int) == (N j : Int)) = true := by simp [he]
            have HE : Hid _ := he
            clear hy he
            go_wp2_with fail
            clear hwq
            go_quiet (fail)
            go_wp2_with fail
            go_roundw
            case rel => exact ⟨j + 1, q + nq, by go_num, by rw [HY.out]; go_num, by omega, by rw [← HWQ.out, World.drewN_drewN]⟩
            case measure => simp [intOf]; omega
          · have hy := confIn_no (PP := PP) (N := N) he
            have HY : Hid _ := hy
            have hez : ((N k : Int) == (N j : Int)) = false := by simp; omega
            have HE : Hid _ := he
            clear hy he
            go_wp2_with fail
            clear hwq
            go_quiet (fail)
            go_wp2_with fail
            go_roundw
            case rel => exact ⟨j + 1, q + nq, by go_num, by rw [HY.out], by omega, by rw [← HWQ.out, World.drewN_drewN]⟩
            case measure => simp [intOf]; omega
        · have hz2 : ¬ (j : Int) < (k : Int) := by omega
          obtain rfl : j = k := by omega
          have hs := confTo_succ HP.out N j
          have HS : Hid _ := hs
          clear hs
          go_wp2_with fail
          go_roundw
          case rel => exact ⟨j + 1, q, by go_num, by rw [HS.out], by omega, rfl⟩
          case measure => simp [intOf]; omega
    · have hz : ¬ (k : Int) < (m : Int) := by omega
      obtain rfl : k = m := by omega
      go_wp2_with fail
      go_ret
      exact ⟨rfl, q, rfl⟩
theorem tog_snoc (PP : List Pr) (N : Nat → Nat) (x : Pr) : tog (PP ++ [x]) N = tog PP N + if N x.1 = N x.2 then 1 else 0 := by
  by_cases h : N x.1 = N x.2 <;> simp [tog, List.filter_append, h]
theorem take_snoc (PP : List Pr) {j : Nat} (h : j < PP.length) : PP.take (j + 1) = PP.take j ++ [PP.getD j (0, 0)] := by
  rw [List.take_add_one]
  simp [List.getD, h]
set_option maxHeartbeats 1000000 in
set_option maxRecDepth 10000 in
theorem together_c {n cap m cap1 : Nat} {a0 a1 : Option Addr} {N : Nat → Nat} {PP : List Pr} {w : World} (hm : PP.length = m) (hm6 : m ≤ 1000) (hn6 : n ≤ 1000) (hin : ∀ t, t < n → ∃ g, a0 = some ⟨g, 0, none⟩ ∧ g < w.heap.size ∧ w.cell? ⟨g, t, none⟩ = some (.int .i64 (N t)))
    (hpr : ∀ j, j < m → ∃ g, a1 = some ⟨g, 0, none⟩ ∧ g < w.heap.size ∧ w.cell? ⟨g, j * 2, none⟩ = some (.int .i64 ((PP.getD j (0, 0)).1)) ∧ w.cell? ⟨g, j * 2 + 1, none⟩ = some (.int .i64 ((PP.getD j (0, 0)).2))) (hv : ∀ x ∈ PP, x.1 < n ∧ x.2 < n) :
    Calls Try.prog 20 #[.slice a0 n cap, .slice a1 m cap1] w fun e w' => e = .returned (.int .i64 (tog PP N)) ∧ Go.RowKit.Below w.heap.size w w' := by
  have HI : Hid (∀ t, t < n → ∃ g, a0 = some ⟨g, 0, none⟩ ∧ g < w.heap.size ∧ w.cell? ⟨g, t, none⟩ = some (.int .i64 (N t))) := hin
  have HR : Hid (∀ j, j < m → ∃ g, a1 = some ⟨g, 0, none⟩ ∧ g < w.heap.size ∧ w.cell? ⟨g, j * 2, none⟩ = some (.int .i64 ((PP.getD j (0, 0)).1)) ∧ w.cell? ⟨g, j * 2 + 1, none⟩ = some (.int .i64 ((PP.getD j (0, 0)).2))) := hpr
  have HV : Hid (∀ x ∈ PP, x.1 < n ∧ x.2 < n) := hv
  have HM : Hid (PP.length = m) := hm
  clear hin hpr hv hm
  go_enter Try.func20, Try.ntmps20
  go_wp2_with fail
  go_loopw [5, 10] (fun s i wr => ∃ j : Nat, i = .int .i64 j ∧ s = .int .i64 (tog (PP.take j) N) ∧ j ≤ m ∧ Go.RowKit.Below w.heap.size w wr) (fun _ i _ => m - (intOf i).toNat)
  case atStart => exact ⟨0, rfl, rfl, by omega, Below.refl _ _⟩
  case round =>
    obtain ⟨j, rfl, rfl, hj, B1⟩ := hrel
    have l1 := tog_le (PP.take j) N
    have l2 : (PP.take j).length ≤ j := List.length_take_le _ _
    by_cases hlt : j < m
    · have hz : (j : Int) < (m : Int) := by omega
      have hx := HV.out (PP.getD j (0, 0)) (by have := HM.out; simp [List.getD, show j < PP.length by omega])
      obtain ⟨g1, rfl, hg1, c1, c2⟩ := HR.out j hlt
      have hts := tog_snoc (PP.take j) N (PP.getD j (0, 0))
      rw [← take_snoc PP (by have := HM.out; omega)] at hts
      generalize PP.getD j (0, 0) = x at *
      obtain ⟨xa, xb⟩ := x
      simp only at hx c1 c2 hts
      obtain ⟨g0, rfl, hg0, c3⟩ := HI.out xa hx.1
      obtain ⟨g0', hg0', _, c4⟩ := HI.out xb hx.2
      obtain rfl : g0 = g0' := by simpa using hg0'
      have c1 : wr.cell? ⟨g1, j * 2, none⟩ = some (.int .i64 xa) := by rw [B1.cell (by exact hg1)]; exact c1
      have c2 : wr.cell? ⟨g1, j * 2 + 1, none⟩ = some (.int .i64 xb) := by rw [B1.cell (by exact hg1)]; exact c2
      have hsz := B1.size
      obtain ⟨Y, hY⟩ : ∃ Y, wr.heap.size = Y := ⟨_, rfl⟩
      obtain ⟨wq, hwq⟩ : ∃ wq, wr.alloc (.cells #[.int .i64 xa, .int .i64 xb] 83) = wq := ⟨_, rfl⟩
      have B2 : Go.RowKit.Below w.heap.size w wq := by rw [← hwq]; exact B1.alloc hsz _
      have e1 : wq.cell? ⟨Y, 0, none⟩ = some (.int .i64 xa) := by rw [← hwq, ← hY, cell_of_row _ wr.heap.size 0 _ 83 (0, 0) (heap_alloc_new wr _)]; rfl
      have e2 : wq.cell? ⟨Y, 1, none⟩ = some (.int .i64 xb) := by rw [← hwq, ← hY, cell_of_row _ wr.heap.size 1 _ 83 (0, 0) (heap_alloc_new wr _)]; rfl
      have e3 : wq.cell? ⟨g0, xa, none⟩ = some (.int .i64 (N xa)) := by rw [B2.cell (by exact hg0)]; exact c3
      have e4 : wq.cell? ⟨g0, xb, none⟩ = some (.int .i64 (N xb)) := by rw [B2.cell (by exact hg0)]; exact c4
      have z1 : (xa : Int) < (n : Int) := by omega
      have z2 : (xb : Int) < (n : Int) := by omega
      have HT : Hid _ := hts
      clear hts c3 c4 hg0' hx
      have HB2 : Hid _ := B2
      clear B2
      by_cases he : N xa = N xb
      · have hez : ((N xa : Int) == (N xb : Int)) = true := by simp [he]
        have HE : Hid _ := he
        clear he
        go_wp2_with fail
        clear hwq hY
        go_quiet (fail)
        clear e1 e2 e3 e4
        go_wp2_with fail
        go_roundw
        case rel => exact ⟨j + 1, by go_num, by rw [HT.out, if_pos HE.out]; go_num, by omega, ⟨HB2.out.os, HB2.out.tape, HB2.out.output, HB2.out.size, HB2.out.block⟩⟩
        case measure => simp [intOf]; omega
      · have hez : ((N xa : Int) == (N xb : Int)) = false := by simp; omega
        have HE : Hid _ := he
        clear he
        go_wp2_with fail
        clear hwq hY
        go_quiet (fail)
        clear e1 e2 e3 e4
        go_wp2_with fail
        go_roundw
        case rel => exact ⟨j + 1, by go_num, by rw [HT.out, if_neg HE.out]; rfl, by omega, ⟨HB2.out.os, HB2.out.tape, HB2.out.output, HB2.out.size, HB2.out.block⟩⟩
        case measure => simp [intOf]; omega
    · have hz : ¬ (j : Int) < (m : Int) := by omega
      have hjm : m = j := by omega
      subst hjm
      have htk : PP.take m = PP := List.take_of_length_le (by have := HM.out; omega)
      have HTK : Hid _ := htk
      clear htk
      go_wp2_with fail
      go_ret
      exact ⟨by rw [HTK.out]; rfl, B1⟩
theorem max_c {K cap g : Nat} {U : Nat → Int} {w : World} (hK : 1 ≤ K) (hK2 : K ≤ 1000) (hU : ∀ t, t < K → w.cell? ⟨g, t, none⟩ = some (.int .i64 (U t))) :
    Calls Try.prog 19 #[.slice (some ⟨g, 0, none⟩) K cap] w fun e w' => ∃ t, t < K ∧ e = .returned (.int .i64 (U t)) ∧ w' = w := by
  have HU : Hid (∀ t, t < K → w.cell? ⟨g, t, none⟩ = some (.int .i64 (U t))) := hU
  have h0 := hU 0 (by omega)
  have z0 : (0 : Int) < (K : Int) := by omega
  have z1 : ¬ (K : Int) < 1 := by omega
  clear hU
  go_enter Try.func19, Try.ntmps19
  go_wp2_with fail
  go_loopw [3, 4] (fun s i wr => ∃ j t : Nat, i = .int .i64 j ∧ s = .int .i64 (U t) ∧ t < K ∧ 1 ≤ j ∧ j ≤ K ∧ wr = w) (fun _ i _ => K - (intOf i).toNat)
  case atStart => exact ⟨1, 0, rfl, rfl, by omega, by omega, by omega, rfl⟩
  case round =>
    obtain ⟨j, t, rfl, rfl, ht, hj1, hj, rfl⟩ := hrel
    by_cases hlt : j < K
    · have hz : (j : Int) < (K : Int) := by omega
      have hc := HU.out j hlt
      go_wp2_with fail
      go_roundw
      case rel =>
        by_cases h : U t < U j
        · exact ⟨j + 1, j, by go_num, by rw [Int.max_eq_right (by omega)], by omega, by omega, by omega, by first | rfl | trivial⟩
        · exact ⟨j + 1, t, by go_num, by rw [Int.max_eq_left (by omega)], by omega, by omega, by omega, by first | rfl | trivial⟩
      case measure => simp [intOf]; omega
    · have hz : ¬ (j : Int) < (K : Int) := by omega
      go_wp2_with fail
      go_ret
      exact ⟨t, ht, rfl, rfl⟩
set_option maxRecDepth 10000 in
theorem clone_c {base n : Nat} {v : Value} {xs : List Int} {w : World} (hown : w.ownsRow base 3 1 v n (xs.map (Value.int .i64))) (hn : n ≤ 1000) :
    Calls Try.prog 33 #[v] w fun e w' => ∃ v', e = .returned v' ∧ w'.ownsRow w.heap.size 3 1 v' n (xs.map (Value.int .i64)) ∧ Go.RowKit.Below w.heap.size w w' := by
  obtain ⟨i0, hi, hz0, hz1, hz2⟩ := info_parts info3
  rcases hown.2 with ⟨rfl, rfl⟩ | ⟨g, cap, cur, rfl, _⟩
  · have hx : xs = [] := by have := hown.1; simpa using this
    subst hx
    have hq := Go.Lib.run_eql_slice_nil w 22 3 none 0 0 0 0 Try.underlying22
    go_enter Try.func33, Try.ntmps33
    go_wp2_with fail
    go_ret
    exact ⟨_, rfl, World.ownsRow_nil _ _ _ _, Below.refl _ _⟩
  · have hlen : xs.length = n := by have := hown.1; simpa using this
    have h0 := World.ownsRow_made (base := w.heap.size) (e := 3) (size := 1) w #[] 0 (Nat.le_refl _) (by unfold maxLen; omega) rfl
    have hB := below_alloc w (.cells #[] 3)
    have HC : Hid (∀ j u, (xs.map (Value.int .i64))[j]? = some u → (w.alloc (.cells #[] 3)).cell? ((⟨g, 0, none⟩ : Addr).add j) = some u) := fun j u hj => by
      have hj1 : j < n := by
        rcases Nat.lt_or_ge j n with h | h
        · exact h
        · rw [List.getElem?_eq_none (by simp; omega)] at hj; cases hj
      have e : (⟨g, 0, none⟩ : Addr).add j = ⟨g, j, none⟩ := by
        simp only [Addr.add]
        split
        · rename_i h; subst h; rfl
        · simp
      rw [e, World.cell?_of_block (w := w) (Below.heap_alloc _ _ _ (hown.lt g rfl).2), hown.cellAt j (by omega)]
      exact hj
    have HB : Hid _ := hB
    have HL : Hid (xs.length = n) := hlen
    have hq := Go.Lib.run_eql_slice_nil w 22 3 (some ⟨g, 0, none⟩) n cap 0 0 Try.underlying22
    clear hlen hB
    go_enter Try.func33, Try.ntmps33
    go_wp2_with (at_builtin; refine wpList_append_own _ rfl (.tmp 5) (.tmp 6) 22 rfl w.heap.size 3 i0 _ 1 8 Try.underlying22 hi hz0 hz1 hz2 rfl (by decide) _ _ _ rfl h0 ⟨g, 0, none⟩ n cap (xs.map (Value.int .i64)) rfl (by rw [List.length_map, HL.out]; omega) HC.out (ints_oneCell _ _) (by unfold maxLen; omega) (by omega) (by simp) ?_; intro v' w1 hown1 hg1 hnil)
    go_ret
    refine ⟨_, rfl, by simpa using hown1, HB.out.grown hg1 (by simp) (fun k hk => ?_)⟩
    have h : some w.heap.size = some k := hk
    simp only [Option.some.injEq] at h
    omega
end Go.Proofs.Yteabbkagekdehaa
