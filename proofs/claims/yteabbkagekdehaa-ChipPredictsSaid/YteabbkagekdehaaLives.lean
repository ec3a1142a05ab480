/- Stream.Lives: whatever the numbers, at most thirteen lives with small numbers, in memory of the call's own. -/
import Derived.Test.YteabbkagekdehaaGen0
import Derived.OwnWalk
set_option linter.unusedVariables false
set_option linter.unusedSimpArgs false
namespace Go.Proofs.Yteabbkagekdehaa
open Go.AE Go.RowKit Go.IntWalk
theorem info57 : (Try.prog.info? 57).map (fun i => (i.zero, i.size, i.bytes)) = some (some (.agg #[.int .i64 0, .int .i64 0, .int .i64 0, .int .i64 0]), 4, 32) := by kernel_rfl
/-- a life: node, from, to, size -/
structure LifeV where
  node : Int
  fr : Int
  to : Int
  size : Int
def LifeV.cells (x : LifeV) : List Value := [.int .i64 x.node, .int .i64 x.fr, .int .i64 x.to, .int .i64 x.size]
def lcells (L : List LifeV) : List Value := L.flatMap LifeV.cells
def LifeV.ok (x : LifeV) : Prop := -1 ≤ x.fr ∧ x.fr ≤ 7 ∧ 0 ≤ x.to ∧ x.to ≤ 11
theorem lcells_len (L : List LifeV) : (lcells L).length = L.length * 4 := by
  induction L with
  | nil => rfl
  | cons x L ih => simp only [lcells, List.flatMap_cons, List.length_append] at ih ⊢; rw [ih]; simp [LifeV.cells]; omega
theorem ownsRow_oth {s : Nat} {w w' : World} {base : Nat} {e : TypeId} {size : Nat} {v : Value} {n : Nat} {xs : List Value} (h : w.ownsRow base e size v n xs) (O : Oth s w w') (hs : s < base) : w'.ownsRow base e size v n xs := by
  obtain ⟨h1, h2⟩ := h
  refine ⟨h1, ?_⟩
  rcases h2 with h2 | ⟨g, cap, cur, hv, hg, hh, r⟩
  · exact .inl h2
  · exact .inr ⟨g, cap, cur, hv, hg, by rw [O.block g (Array.getElem?_eq_some_iff.1 hh).1 (by omega)]; exact hh, r⟩
theorem ownsRow_below {w w' : World} {base : Nat} {e : TypeId} {size : Nat} {v : Value} {n : Nat} {xs : List Value} (h : w.ownsRow base e size v n xs) (O : Below w.heap.size w w') : w'.ownsRow base e size v n xs := by
  obtain ⟨h1, h2⟩ := h
  refine ⟨h1, ?_⟩
  rcases h2 with h2 | ⟨g, cap, cur, hv, hg, hh, r⟩
  · exact .inl h2
  · exact .inr ⟨g, cap, cur, hv, hg, by rw [O.block g (Array.getElem?_eq_some_iff.1 hh).1]; exact hh, r⟩
theorem ownsRow_shape {w : World} {base : Nat} {e : TypeId} {size : Nat} {v : Value} {n : Nat} {xs : List Value} (h : w.ownsRow base e size v n xs) : ∃ a c, v = .slice a n c := by
  rcases h.2 with ⟨rfl, rfl⟩ | ⟨g, cap, cur, hv, -⟩
  · exact ⟨none, 0, rfl⟩
  · exact ⟨_, _, hv⟩
theorem lcells_snoc (L : List LifeV) (x : LifeV) : lcells (L ++ [x]) = lcells L ++ x.cells := by simp [lcells]
theorem lcells_set : ∀ (L : List LifeV) (K : Nat) (x : LifeV), K < L.length → lcells (L.set K x) = ((((lcells L).set (K * 4) (.int .i64 x.node)).set (K * 4 + 1) (.int .i64 x.fr)).set (K * 4 + 2) (.int .i64 x.to)).set (K * 4 + 3) (.int .i64 x.size)
  | [], _, _, h => by simp at h
  | y :: L, 0, x, _ => by simp [lcells, LifeV.cells]
  | y :: L, K + 1, x, h => by
    have ih := lcells_set L K x (by simpa using h)
    have e : ∀ j, (K + 1) * 4 + j = K * 4 + j + 1 + 1 + 1 + 1 := fun j => by omega
    have e0 := e 0
    simp only [Nat.add_zero] at e0
    simp only [lcells, List.flatMap_cons, LifeV.cells, List.set_cons_succ, List.cons_append, List.nil_append] at ih ⊢
    rw [ih, e 1, e 2, e 3, e0]
    simp only [List.set_cons_succ]
set_option maxHeartbeats 1000000 in
set_option maxRecDepth 10000 in
theorem lives_c {r : Raw} {n0 s k : Nat} {w : World} (S : Strm r n0 s k w) (hk : k < 100000000) :
    Calls Try.prog 27 #[.pointer (some ⟨s, 0, none⟩)] w fun e w' => ∃ v L k', e = .returned v ∧ L.length ≤ 13 ∧ (∀ x ∈ L, x.ok) ∧ w'.ownsRow w.heap.size 57 4 v L.length (lcells L) ∧ Strm r n0 s k' w' ∧ k' ≤ k + 80 ∧ Oth s w w' := by
  obtain ⟨i0, hi, hz0, hz1, hz2⟩ := info_parts info57
  have hs := S.lt
  go_enter Try.func27, Try.ntmps27
  go_wp2_with fail
  refine (pick_n (n := 4) [8, 8, 8, 14] S (by omega) rfl (by decide) (by decide) rfl).mono ?_
  rintro e w1 ⟨v1, rfl, hv1, S1, O1⟩
  have hv2 : 8 ≤ v1 ∧ v1 ≤ 14 := by simp at hv1; omega
  clear hv1
  go_wp2_with fail
  refine (next_c S1 (by omega) (by omega) (by omega)).mono ?_
  rintro e w2 ⟨n, rfl, hn0, hn1, S2, O2, -⟩
  have O2 : Oth s w w2 := O1.trans O2
  obtain ⟨N, rfl⟩ : ∃ N : Nat, n = N := ⟨n.toNat, by omega⟩
  have hN : N ≤ 13 := by omega
  clear S S1 O1 hn0 hn1 hv2
  go_wp2_with fail
  go_loopw [3, 11] (fun v i wr => ∃ (j : Nat) (L : List LifeV), i = .int .i64 j ∧ L.length = j ∧ j ≤ N ∧ (∀ x ∈ L, x.ok) ∧ wr.ownsRow w.heap.size 57 4 v L.length (lcells L) ∧ Strm r n0 s (k + 2 + 5 * j) wr ∧ Oth s w wr)
    (fun _ i _ => N - (intOf i).toNat)
  case atStart => exact ⟨0, [], rfl, rfl, by omega, by simp, World.ownsRow_nil _ _ _ _, S2, O2⟩
  case round =>
    obtain ⟨j, L, rfl, rfl, hj, hok, hown, S3, O3⟩ := hrel
    obtain ⟨a, c, rfl⟩ := ownsRow_shape hown
    clear O2 S2
    go_wp2_with fail
    · refine (next_c S3 (by omega) (by omega) (by omega)).mono ?_
      rintro e w3 ⟨fr, rfl, fr0, fr1, S4, O4, -⟩
      have hown := ownsRow_oth hown O4 hs
      have O4 : Oth s w w3 := O3.trans O4
      go_wp2_with fail
      refine (next_c S4 (by omega) (by omega) (by omega)).mono ?_
      rintro e w4 ⟨nd, rfl, nd0, nd1, S5, O5, -⟩
      have hown := ownsRow_oth hown O5 hs
      have O5 : Oth s w w4 := O4.trans O5
      clear S4 O4
      go_wp2_with fail
      refine (next_c S5 (by omega) (by omega) (by omega)).mono ?_
      rintro e w5 ⟨dl, rfl, dl0, dl1, S6, O6, -⟩
      have hown := ownsRow_oth hown O6 hs
      have O6 : Oth s w w5 := O5.trans O6
      clear S5 O5
      go_wp2_with fail
      refine (range_c S6 (by omega) (by omega) (by omega) (by omega) (by omega)).mono ?_
      rintro e w6 ⟨z, rfl, z0, z1, S7, O7, -⟩
      have hown := ownsRow_oth hown O7 hs
      have O7 : Oth s w w6 := O6.trans O7
      clear S6 O6
      go_wp2_with fail
      refine (pick_n (n := 7) [1, 1, 2, 3, 4, 6, z] S7 (by omega) rfl (by decide) (by decide) rfl).mono ?_
      rintro e w7 ⟨sz, rfl, hsz, S8, O8⟩
      have hown := ownsRow_oth hown O8 hs
      have O8 : Oth s w w7 := O7.trans O8
      clear S7 O7
      go_wp2_with (at_builtin; refine wpList_append_own _ rfl (.tmp 15) (.tmp 29) 52 rfl w.heap.size 57 i0 _ 4 32 Try.underlying52 hi hz0 hz1 hz2 rfl (by decide) _ _ _ rfl (hown.alloc _) ⟨w7.heap.size, 0, none⟩ 1 1 (LifeV.mk nd fr (fr + dl) sz).cells rfl rfl (by intro j u hj; match j, hj with | 0, hj => (simp [LifeV.cells] at hj; subst hj; simp [Addr.add]) | 1, hj => (simp [LifeV.cells] at hj; subst hj; simp [Addr.add]) | 2, hj => (simp [LifeV.cells] at hj; subst hj; simp [Addr.add]) | 3, hj => (simp [LifeV.cells] at hj; subst hj; simp [Addr.add])) (by simp [LifeV.cells, Value.oneCell']) (by unfold maxLen; omega) (by omega) (by have := O8.size; simp; omega) ?_; intro v' w8 hown8 hg8 hnil)
      have hrow : ∀ k, (Value.slice a L.length c).ownBlock = some k → w.heap.size ≤ k := fun k hk => (hown.lt k hk).1
      have O9 : Oth s w w8 := (O8.trans (Oth.of_below (below_alloc w7 _))).grown hg8 hrow
      have S9 : Strm r n0 s (k + 2 + 5 * (L.length + 1)) w8 := (S8.below (below_alloc w7 _)).grown hg8 fun k hk => Nat.lt_of_lt_of_le hs (hrow k hk)
      clear hown hg8 S8 O8 hnil
      go_roundw
      case rel =>
        refine ⟨L.length + 1, L ++ [⟨nd, fr, fr + dl, sz⟩], by go_num, by simp, by omega, ?_, by simpa [lcells_snoc] using hown8, S9, O9⟩
        intro x hx
        rcases List.mem_append.1 hx with hx | hx
        · exact hok x hx
        · simp only [List.mem_singleton] at hx
          subst hx
          exact ⟨by simp only; omega, by simp only; omega, by simp only; omega, by simp only; omega⟩
      case measure => simp [intOf]; omega
    · refine (flip_c S3 (by omega) (by omega) (by omega)).mono ?_
      rintro e w3 ⟨b, rfl, S4, O4, -⟩
      have hown := ownsRow_oth hown O4 hs
      have O4 : Oth s w w3 := O3.trans O4
      cases b
      · go_wp2_with fail
        go_ret
        exact ⟨_, L, _, rfl, by omega, hok, hown, S4, by omega, O4⟩
      · have hpos : 0 < L.length := by assumption
        go_wp2_with fail
        refine (next_c S4 (by omega) (by omega) (by omega)).mono ?_
        rintro e w4 ⟨kk, rfl, kk0, kk1, S5, O5, -⟩
        have hown := ownsRow_oth hown O5 hs
        have O5 : Oth s w w4 := O4.trans O5
        obtain ⟨K, rfl⟩ : ∃ K : Nat, kk = K := ⟨kk.toNat, by omega⟩
        clear S4 O4
        go_wp2_with fail
        refine (next_c (S5.below (below_alloc w4 _)) (by omega) (by omega) (by omega)).mono ?_
        rintro e w5 ⟨q, rfl, q0, q1, S6, O6, -⟩
        have hown := ownsRow_oth (hown.alloc _) O6 hs
        have hlit := lit_cells w4 [0, -1, 0, 1, 0, 3, 2, 1, 0, 0, 0, 0, 0, 0, 0, 1025, 0, 0, 0, 1024] 57
        have hcell : ∀ j, j < 20 → w5.cell? ⟨w4.heap.size, j, none⟩ = some (.int .i64 ([0, -1, 0, 1, 0, 3, 2, 1, 0, 0, 0, 0, 0, 0, 0, 1025, 0, 0, 0, 1024].getD j 0)) := fun j hj => by
          have h := hlit j hj
          rw [O6.cell (cell_lt h) (by have := O5.size; simp only; omega)]
          exact h
        have O6 : Oth s w w5 := (O5.trans (Oth.of_below (below_alloc w4 _))).trans O6
        clear S5 O5 hlit
        obtain ⟨g, rfl⟩ : ∃ g, a = some ⟨g, 0, none⟩ := by
          rcases hown.2 with ⟨h, h0⟩ | ⟨g, cap, cur, h, _⟩
          · omega
          · simp only [Value.slice.injEq] at h; exact ⟨g, h.1⟩
        have hgb : w.heap.size ≤ g := (hown.lt g rfl).1
        have f0 : w5.frozen? ⟨g, K * 4, none⟩ = false := hown.frozenAt _
        have f1 : w5.frozen? ⟨g, K * 4 + 1, none⟩ = false := hown.frozenAt _
        have f2 : w5.frozen? ⟨g, K * 4 + 2, none⟩ = false := hown.frozenAt _
        have f3 : w5.frozen? ⟨g, K * 4 + 3, none⟩ = false := hown.frozenAt _
        have hsome : ∀ j, j < L.length * 4 → ∃ x, w5.cell? ⟨g, j, none⟩ = some x := fun j hj => by
          rw [hown.cellAt j hj]
          exact ⟨_, List.getElem?_eq_getElem (by rw [lcells_len]; exact hj)⟩
        obtain ⟨x0, d0⟩ := hsome (K * 4) (by omega)
        obtain ⟨x1, d1⟩ := hsome (K * 4 + 1) (by omega)
        obtain ⟨x2, d2⟩ := hsome (K * 4 + 2) (by omega)
        obtain ⟨x3, d3⟩ := hsome (K * 4 + 3) (by omega)
        clear hsome
        have hq : q = 0 ∨ q = 1 ∨ q = 2 ∨ q = 3 ∨ q = 4 := by omega
        have fin : ∀ x : LifeV, x.ok → Hid (∃ v' L' k', Value.slice (some ⟨g, 0, none⟩) L.length c = v' ∧ L'.length ≤ 13 ∧ (∀ x ∈ L', x.ok) ∧ ((((w5.setCell ⟨g, K * 4, none⟩ (.int .i64 x.node)).setCell ⟨g, K * 4 + 1, none⟩ (.int .i64 x.fr)).setCell ⟨g, K * 4 + 2, none⟩ (.int .i64 x.to)).setCell ⟨g, K * 4 + 3, none⟩ (.int .i64 x.size)).ownsRow w.heap.size 57 4 v' L'.length (lcells L') ∧
            Strm r n0 s k' ((((w5.setCell ⟨g, K * 4, none⟩ (.int .i64 x.node)).setCell ⟨g, K * 4 + 1, none⟩ (.int .i64 x.fr)).setCell ⟨g, K * 4 + 2, none⟩ (.int .i64 x.to)).setCell ⟨g, K * 4 + 3, none⟩ (.int .i64 x.size)) ∧ k' ≤ k + 80 ∧
            Oth s w ((((w5.setCell ⟨g, K * 4, none⟩ (.int .i64 x.node)).setCell ⟨g, K * 4 + 1, none⟩ (.int .i64 x.fr)).setCell ⟨g, K * 4 + 2, none⟩ (.int .i64 x.to)).setCell ⟨g, K * 4 + 3, none⟩ (.int .i64 x.size))) := by
          intro x hx
          have hr : ∀ k, some g = some k → s < k := fun k hk => by simp only [Option.some.injEq] at hk; omega
          have hr' : ∀ k, some g = some k → w.heap.size ≤ k := fun k hk => by simp only [Option.some.injEq] at hk; omega
          obtain ⟨r1, g1⟩ := hown.stored (K * 4) (.int .i64 x.node)
          obtain ⟨r2, g2⟩ := r1.stored (K * 4 + 1) (.int .i64 x.fr)
          obtain ⟨r3, g3⟩ := r2.stored (K * 4 + 2) (.int .i64 x.to)
          obtain ⟨r4, g4⟩ := r3.stored (K * 4 + 3) (.int .i64 x.size)
          refine ⟨_, L.set K x, _, rfl, by simp; omega, ?_, ?_, (((S6.grown g1 hr).grown g2 hr).grown g3 hr).grown g4 hr, ?_, (((O6.grown g1 hr').grown g2 hr').grown g3 hr').grown g4 hr'⟩
          · intro y hy
            rcases List.mem_or_eq_of_mem_set hy with hy | rfl
            · exact hok y hy
            · exact hx
          · rw [lcells_set L K x (by omega), List.length_set]; exact r4
          · omega
        rcases hq with rfl | rfl | rfl | rfl | rfl
        · have FIN := fin ⟨0, -1, 0, 1⟩ ⟨by decide, by decide, by decide, by decide⟩
          have c0 := hcell 0 (by omega); have c1 := hcell 1 (by omega); have c2 := hcell 2 (by omega); have c3 := hcell 3 (by omega)
          clear fin hcell
          simp only [List.getD_cons_zero, List.getD_cons_succ] at c0 c1 c2 c3
          go_wp2_with fail
          go_ret
          obtain ⟨v', L', k', h1, h2, h3, h4, h5, h6, h7⟩ := FIN.out
          exact ⟨v', L', k', congrArg Ending.returned h1, h2, h3, h4, h5, h6, h7⟩
        · have FIN := fin ⟨0, 3, 2, 1⟩ ⟨by decide, by decide, by decide, by decide⟩
          have c0 := hcell 4 (by omega); have c1 := hcell 5 (by omega); have c2 := hcell 6 (by omega); have c3 := hcell 7 (by omega)
          clear fin hcell
          simp only [List.getD_cons_zero, List.getD_cons_succ] at c0 c1 c2 c3
          go_wp2_with fail
          go_ret
          obtain ⟨v', L', k', h1, h2, h3, h4, h5, h6, h7⟩ := FIN.out
          exact ⟨v', L', k', congrArg Ending.returned h1, h2, h3, h4, h5, h6, h7⟩
        · have FIN := fin ⟨0, 0, 0, 0⟩ ⟨by decide, by decide, by decide, by decide⟩
          have c0 := hcell 8 (by omega); have c1 := hcell 9 (by omega); have c2 := hcell 10 (by omega); have c3 := hcell 11 (by omega)
          clear fin hcell
          simp only [List.getD_cons_zero, List.getD_cons_succ] at c0 c1 c2 c3
          go_wp2_with fail
          go_ret
          obtain ⟨v', L', k', h1, h2, h3, h4, h5, h6, h7⟩ := FIN.out
          exact ⟨v', L', k', congrArg Ending.returned h1, h2, h3, h4, h5, h6, h7⟩
        · have FIN := fin ⟨0, 0, 0, 1025⟩ ⟨by decide, by decide, by decide, by decide⟩
          have c0 := hcell 12 (by omega); have c1 := hcell 13 (by omega); have c2 := hcell 14 (by omega); have c3 := hcell 15 (by omega)
          clear fin hcell
          simp only [List.getD_cons_zero, List.getD_cons_succ] at c0 c1 c2 c3
          go_wp2_with fail
          go_ret
          obtain ⟨v', L', k', h1, h2, h3, h4, h5, h6, h7⟩ := FIN.out
          exact ⟨v', L', k', congrArg Ending.returned h1, h2, h3, h4, h5, h6, h7⟩
        · have FIN := fin ⟨0, 0, 0, 1024⟩ ⟨by decide, by decide, by decide, by decide⟩
          have c0 := hcell 16 (by omega); have c1 := hcell 17 (by omega); have c2 := hcell 18 (by omega); have c3 := hcell 19 (by omega)
          clear fin hcell
          simp only [List.getD_cons_zero, List.getD_cons_succ] at c0 c1 c2 c3
          go_wp2_with fail
          go_ret
          obtain ⟨v', L', k', h1, h2, h3, h4, h5, h6, h7⟩ := FIN.out
          exact ⟨v', L', k', congrArg Ending.returned h1, h2, h3, h4, h5, h6, h7⟩
    · go_ret
      exact ⟨_, L, _, rfl, by omega, hok, hown, S3, by omega, O3⟩
end Go.Proofs.Yteabbkagekdehaa
