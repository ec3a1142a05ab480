/- slices.Clone, Delete, Insert of instructions of the call's own. -/
import Derived.Test.YteabbkagekdehaaHc5
import Derived.Deep.RegionLaw
section
set_option linter.unusedVariables false
set_option linter.unusedSimpArgs false
set_option maxRecDepth 100000
namespace Go.Proofs.Yteabbkagekdehaa
open Go.AE Go.RowKit Go.IntWalk
theorem zcells_one (xs : List Int) : ∀ u ∈ zcells xs, u.oneCell' = true := fun u hu => by
  obtain ⟨z, _, rfl⟩ := List.mem_map.1 hu
  rfl
theorem addr_add (g j : Nat) : (⟨g, 0, none⟩ : Addr).add j = ⟨g, j, none⟩ := by
  simp only [Addr.add]
  split
  · rename_i h; subst h; rfl
  · simp
theorem clone9_c {base n : Nat} {v : Value} {zs : List Int} {w : World} (hown : w.ownsRow base 29 9 v n (zcells zs)) (hn : n ≤ 100000) :
    Calls Try.prog 58 #[v] w fun e w' => ∃ a cap, e = .returned (.slice a n cap) ∧ w'.ownsRow w.heap.size 29 9 (.slice a n cap) n (zcells zs) ∧ Below w.heap.size w w' := by
  obtain ⟨i0, hi, hz0, hz1, hz2⟩ := info_parts info29
  rcases hown.2 with ⟨rfl, rfl⟩ | ⟨g, cap, cur, rfl, _⟩
  · have hx : zs = [] := by have := hown.1; simpa [zcells] using this
    subst hx
    have hq := Go.Lib.run_eql_slice_nil w 26 29 none 0 0 0 0 Try.underlying26
    go_enter Try.func58, Try.ntmps58
    go_wp2_with fail
    go_ret
    exact ⟨_, _, rfl, World.ownsRow_nil _ _ _ _, Below.refl _ _⟩
  · have hlen : (zcells zs).length = n * 9 := hown.1
    have h0 := World.ownsRow_made (base := w.heap.size) (e := 29) (size := 9) w #[] 0 (Nat.le_refl _) (by unfold maxLen; omega) rfl
    have hB := below_alloc w (.cells #[] 29)
    have HC : Hid (∀ j u, (zcells zs)[j]? = some u → (w.alloc (.cells #[] 29)).cell? ((⟨g, 0, none⟩ : Addr).add j) = some u) := fun j u hj => by
      have hj1 : j < n * 9 := by
        rcases Nat.lt_or_ge j (n * 9) with h | h
        · exact h
        · rw [List.getElem?_eq_none (by omega)] at hj; cases hj
      rw [addr_add, World.cell?_of_block (w := w) (Below.heap_alloc _ _ _ (hown.lt g rfl).2), hown.cellAt j (by omega)]
      exact hj
    have HB : Hid _ := hB
    have HL : Hid _ := hlen
    have H63 : n ≤ maxLen := by unfold maxLen; omega
    have hq := Go.Lib.run_eql_slice_nil w 26 29 (some ⟨g, 0, none⟩) n cap 0 0 Try.underlying26
    clear hlen hB
    go_enter Try.func58, Try.ntmps58
    go_wp2_with (at_builtin; refine wpList_append_own _ rfl (.tmp 5) (.tmp 6) 26 rfl w.heap.size 29 i0 _ 9 72 Try.underlying26 hi hz0 hz1 hz2 rfl (by decide) _ _ _ rfl h0 ⟨g, 0, none⟩ n cap (zcells zs) rfl HL.out HC.out (zcells_one _) (by omega) (by omega) (by simp) ?_; intro v' w1 hown1 hg1 hnil)
    obtain ⟨a', c', rfl⟩ := ownsRow_shape hown1
    go_ret
    refine ⟨a', c', by simp, by simpa using hown1, HB.out.grown hg1 (by simp) (fun k hk => ?_)⟩
    have h : some w.heap.size = some k := hk
    simp only [Option.some.injEq] at h
    omega
theorem setCells_shape (g : Nat) {e : TypeId} {fr : Nat × Nat} : ∀ (vs : List Value) (o : Nat) (w : World) (cur : Array Value), w.heap[g]? = some (.cells cur e fr) → ∃ cur', (w.setCells g o vs).heap[g]? = some (.cells cur' e fr) ∧ cur'.size = cur.size
  | [], o, w, cur, h => ⟨cur, h, rfl⟩
  | v :: vs, o, w, cur, h => by
    obtain ⟨cur', h1, h2⟩ := setCells_shape g (e := e) (fr := fr) vs (o + 1) (w.setCell ⟨g, o, none⟩ v) (cur.setIfInBounds o v) (by
      have := w.heap[g]?
      simp only [World.setCell]
      rw [Array.getElem?_modify]
      simp [h])
    exact ⟨cur', h1, by simpa using h2⟩
theorem setCells_other (g : Nat) {k : Nat} (hk : k ≠ g) : ∀ (vs : List Value) (o : Nat) (w : World), (w.setCells g o vs).heap[k]? = w.heap[k]?
  | [], _, _ => rfl
  | v :: vs, o, w => by
    have h := setCells_other g hk vs (o + 1) (w.setCell ⟨g, o, none⟩ v)
    rw [Below.heap_setCell _ _ _ _ (by exact hk)] at h
    exact h
theorem setCells_rest (g : Nat) : ∀ (vs : List Value) (o : Nat) (w : World), (w.setCells g o vs).os = w.os ∧ (w.setCells g o vs).tape = w.tape ∧ (w.setCells g o vs).output = w.output ∧ (w.setCells g o vs).heap.size = w.heap.size
  | [], _, _ => ⟨rfl, rfl, rfl, rfl⟩
  | v :: vs, o, w => by
    obtain ⟨h1, h2, h3, h4⟩ := setCells_rest g vs (o + 1) (w.setCell ⟨g, o, none⟩ v)
    exact ⟨h1, h2, h3, by rw [show (w.setCells g o (v :: vs)).heap.size = ((w.setCell ⟨g, o, none⟩ v).setCells g (o + 1) vs).heap.size from rfl, h4, csize_set]⟩
theorem setCells_grown (g : Nat) (vs : List Value) (o : Nat) (w : World) : w.grownBy (w.setCells g o vs) (some g) := by
  obtain ⟨h1, h2, h3, h4⟩ := setCells_rest g vs o w
  exact ⟨h1, h2, h3, by rw [h4]; exact Nat.le_refl _, fun k hk hne => setCells_other g (fun e => hne (by rw [e])) vs o w⟩
/-- the first N cells are ints -/
def IntsTo (w : World) (g N : Nat) : Prop := ∀ j, j < N → ∃ z, w.cell? ⟨g, j, none⟩ = some (.int .i64 z)
theorem IntsTo.set {w : World} {g N o : Nat} {vs : List Value} (h : IntsTo w g N) (hv : ∀ v ∈ vs, ∃ z, v = .int .i64 z) (hc : ∀ j, j < vs.length → (w.cell? ⟨g, o + j, none⟩).isSome = true) {M : Nat} (hM : M ≤ N ∨ (o ≤ N ∧ M ≤ o + vs.length)) : IntsTo (w.setCells g o vs) g M := by
  intro j hj
  by_cases hin : o ≤ j ∧ j < o + vs.length
  · have := World.cell?_setCells_in g vs o w hc (j - o) (by omega)
    rw [show o + (j - o) = j by omega] at this
    obtain ⟨z, hz⟩ := hv _ (List.getElem_mem (show j - o < vs.length by omega))
    exact ⟨z, by rw [this, hz]⟩
  · obtain ⟨z, hz⟩ := h j (by omega)
    exact ⟨z, by rw [World.cell?_setCells_out g vs o w ⟨g, j, none⟩ (fun _ _ => by show j < o ∨ _ ≤ j; omega)]; exact hz⟩
theorem rowInts {w : World} {base g cap n : Nat} (hh : ∃ cur, w.heap[g]? = some (.cells cur 29 (0, 0)) ∧ cur.size = cap * 9) (hb : base ≤ g) (hn : n ≤ cap) (hm : cap ≤ maxLen) (hi : IntsTo w g (n * 9)) : ∃ zs, w.ownsRow base 29 9 (.slice (some ⟨g, 0, none⟩) n cap) n (zcells zs) := by
  obtain ⟨cur, h1, h2⟩ := hh
  have hc : ∀ j, w.cell? ⟨g, j, none⟩ = cur[j]? := fun j => by simp [World.cell?, h1]
  have hle : n * 9 ≤ cur.size := by omega
  refine ⟨(cur.toList.take (n * 9)).map fun v => match v with | .int _ z => z | _ => 0, ?_, .inr ⟨g, cap, cur, rfl, hb, h1, hn, hm, h2, ?_⟩⟩
  · simp [zcells]; omega
  · apply List.ext_getElem?
    intro j
    by_cases hj : j < n * 9
    · obtain ⟨z, hz⟩ := hi j hj
      rw [hc] at hz
      have h3 : cur.toList[j]? = some (.int .i64 z) := by simpa using hz
      simp [zcells, List.getElem?_take, hj, h3]
    · simp [zcells, List.getElem?_take, hj]
theorem ownsRow_ints {w : World} {base g cap n : Nat} {zs : List Int} (h : w.ownsRow base 29 9 (.slice (some ⟨g, 0, none⟩) n cap) n (zcells zs)) : (∃ cur, w.heap[g]? = some (.cells cur 29 (0, 0)) ∧ cur.size = cap * 9) ∧ base ≤ g ∧ n ≤ cap ∧ cap ≤ maxLen ∧ IntsTo w g (n * 9) := by
  have hl := h.1
  rcases h.2 with ⟨h', _⟩ | ⟨g', cap', cur, hv, h1, h2, h3, h4, h5, h6⟩
  · cases h'
  · cases hv
    refine ⟨⟨cur, h2, h5⟩, h1, h3, h4, fun j hj => ?_⟩
    rw [h.cellAt j hj, List.getElem?_eq_getElem (by omega)]
    simp [zcells]
theorem clear9_run {w : World} {g o n c : Nat} {ty : TypeId} (hc : ∀ j, j < (n + 1) * 9 → (w.cell? ⟨g, o + j, none⟩).isSome = true) (hf : ∀ j, j < (n + 1) * 9 → w.frozen? ⟨g, o + j, none⟩ = false) :
    (Builtin.clear_ #[26] ty #[.slice (some ⟨g, o, none⟩) (n + 1) c]).run Try.prog w = .ok (.tuple #[]) (w.setCells g o (List.replicate ((n + 1) * 9) (.int .i64 0))) := by
  obtain ⟨i0, hi, hz0, hz1, hz2⟩ := info_parts info29
  have hv : (zeroValue 29).run Try.prog w = .ok (.agg #[.int .i64 0, .int .i64 0, .int .i64 0, .int .i64 0, .int .i64 0, .int .i64 0, .int .i64 0, .int .i64 0, .int .i64 0]) w := by
    simp [zeroValue, typeInfo, hi, hz0]
  have hzc : (Builtin.zeroCells (Value.agg #[.int .i64 0, .int .i64 0, .int .i64 0, .int .i64 0, .int .i64 0, .int .i64 0, .int .i64 0, .int .i64 0, .int .i64 0]).cells (n + 1)).toList = List.replicate ((n + 1) * 9) (.int .i64 0) := by
    simp only [Builtin.zeroCells, Value.cells]
    apply List.ext_getElem
    · simp
    · intro i h1 h2
      have hlt : i % 9 < 9 := Nat.mod_lt _ (by omega)
      have : i % 9 = 0 ∨ i % 9 = 1 ∨ i % 9 = 2 ∨ i % 9 = 3 ∨ i % 9 = 4 ∨ i % 9 = 5 ∨ i % 9 = 6 ∨ i % 9 = 7 ∨ i % 9 = 8 := by omega
      rcases this with h | h | h | h | h | h | h | h | h <;> simp [h]
  have hst := run_storeCells_cells (P := Try.prog) g o (List.replicate ((n + 1) * 9) (Value.int .i64 0)) 0 w (by simpa using hc) (by simpa using hf) (by intro v hv'; rw [List.eq_of_mem_replicate hv']; rfl)
  simp only [Nat.add_zero] at hst
  simp [Builtin.clear_, run_underlying Try.underlying26, hv, hzc, hst]
end Go.Proofs.Yteabbkagekdehaa
end
section
/- slices.Delete of one instruction. -/
set_option linter.unusedVariables false
set_option linter.unusedSimpArgs false
set_option maxRecDepth 100000
namespace Go.Proofs.Yteabbkagekdehaa
open Go.AE Go.RowKit Go.IntWalk
set_option maxHeartbeats 4000000 in
theorem delete9_c {base k m cap g : Nat} {zs : List Int} {w : World} (hown : w.ownsRow base 29 9 (.slice (some ⟨g, 0, none⟩) (k + 1 + m) cap) (k + 1 + m) (zcells zs)) (hn : k + 1 + m ≤ 100000) :
    Calls Try.prog 59 #[.slice (some ⟨g, 0, none⟩) (k + 1 + m) cap, .int .i64 k, .int .i64 ((k : Int) + 1)] w fun e w' => ∃ zs', e = .returned (.slice (some ⟨g, 0, none⟩) (k + m) cap) ∧ w'.ownsRow base 29 9 (.slice (some ⟨g, 0, none⟩) (k + m) cap) (k + m) (zcells zs') ∧ w.grownBy w' (some g) := by
  obtain ⟨i0, hi, hz0, hz1, hz2⟩ := info_parts info29
  obtain ⟨hsh, hb, hcap, hmax, hints⟩ := ownsRow_ints hown
  have h1 : ¬ ((k : Int) = (k : Int) + 1) := by omega
  have h2 : ¬ k = cap := by omega
  obtain ⟨news, hnews⟩ : ∃ news, (zcells zs).drop ((k + 1) * 9) = news := ⟨_, rfl⟩
  have hl : news.length = m * 9 := by rw [← hnews, List.length_drop, hown.1]; omega
  have hvi : ∀ v ∈ news, ∃ z, v = .int .i64 z := fun v hv => by
    rw [← hnews] at hv
    obtain ⟨z, _, rfl⟩ := List.mem_map.1 (List.mem_of_mem_drop hv)
    exact ⟨z, rfl⟩
  have hc : Hid (∀ j u, news[j]? = some u → w.cell? ((⟨g, (k + 1) * 9, none⟩ : Addr).add j) = some u) := fun j u hu => by
    have hj : j < m * 9 := by have := (List.getElem?_eq_some_iff.1 hu).1; omega
    rw [Addr.add_lit, hown.cellAt _ (by omega), ← List.getElem?_drop, hnews]
    exact hu
  have hs : Hid (∀ j, j < news.length → (w.cell? ⟨g, 0 + k * 9 + j, none⟩).isSome = true ∧ w.frozen? ⟨g, 0 + k * 9 + j, none⟩ = false) := fun j hj => by
    obtain ⟨z, hz⟩ := hints (0 + k * 9 + j) (by omega)
    exact ⟨by rw [hz]; rfl, hown.frozenAt _⟩
  obtain ⟨w1, hw1⟩ : ∃ w1, w.drew.setCells g (k * 9) news = w1 := ⟨_, rfl⟩
  have hi1 : IntsTo w1 g ((k + 1 + m) * 9) := by
    rw [← hw1]
    exact IntsTo.set (w := w.drew) (N := (k + 1 + m) * 9) hints hvi (fun j hj => by simpa using (hs.out j hj).1) (.inl (Nat.le_refl _))
  have hf1 : ∀ j, w1.frozen? ⟨g, j, none⟩ = false := fun j => by rw [← hw1, World.frozen?_setCells]; exact hown.frozenAt _
  obtain ⟨Z, hZ⟩ : ∃ Z, List.replicate 9 (Value.int .i64 0) = Z := ⟨_, rfl⟩
  have hclr : (Builtin.clear_ #[26] 0 #[.slice (some ⟨g, (k + m) * 9, none⟩) (k + 1 + m - (k + m)) (cap - (k + m))]).run Try.prog w1 = .ok (.tuple #[]) (w1.setCells g ((k + m) * 9) Z) := by
    rw [show k + 1 + m - (k + m) = 1 by omega, ← hZ]
    exact clear9_run (n := 0) (fun j hj => by obtain ⟨z, hz⟩ := hi1 ((k + m) * 9 + j) (by omega); rw [hz]; rfl) (fun j _ => hf1 _)
  have FIN : Hid (∃ zs', (w1.setCells g ((k + m) * 9) Z).ownsRow base 29 9 (.slice (some ⟨g, 0, none⟩) (k + m) cap) (k + m) (zcells zs') ∧ w.grownBy (w1.setCells g ((k + m) * 9) Z) (some g)) := by
    rw [← hZ]
    obtain ⟨cur, q1, q2⟩ := hsh
    obtain ⟨cur1, q3, q4⟩ := setCells_shape g news (k * 9) w.drew cur q1
    rw [hw1] at q3
    obtain ⟨cur2, q5, q6⟩ := setCells_shape g (List.replicate 9 (.int .i64 0)) ((k + m) * 9) w1 cur1 q3
    obtain ⟨zs', h⟩ := rowInts (n := k + m) ⟨cur2, q5, by omega⟩ hb (by omega) hmax (IntsTo.set hi1 (fun v hv => ⟨0, List.eq_of_mem_replicate hv⟩) (fun j hj => by simp at hj; obtain ⟨z, hz⟩ := hi1 ((k + m) * 9 + j) (by omega); rw [hz]; rfl) (M := (k + m) * 9) (.inl (by omega)))
    refine ⟨zs', h, ?_⟩
    have g1 := setCells_grown g news (k * 9) w.drew
    have g2 := setCells_grown g (List.replicate 9 (.int .i64 0)) ((k + m) * 9) w1
    rw [hw1] at g1
    exact ⟨g2.os.trans g1.os, g2.tape.trans g1.tape, g2.output.trans g1.output, Nat.le_trans g1.size g2.size, fun c hc hne => (g2.block c (Nat.lt_of_lt_of_le hc g1.size) hne).trans (g1.block c hc hne)⟩
  have H1 : Hid (∀ u ∈ news, u.oneCell' = true) := fun u hu => by obtain ⟨z, rfl⟩ := hvi u hu; rfl
  have HL : Hid _ := hl
  have HR : k + m ≤ cap := by omega
  have f1 : k ≤ cap := by omega
  have f2 : k + 1 ≤ cap := by omega
  have f3 : k + 1 ≤ k + 1 + m := by omega
  have f5 : ¬ cap = k := by omega
  have f6 : (0 : Int) ≤ (k : Int) + 1 := by omega
  have f7 : (k : Int) + 1 ≤ (k : Int) + 1 + (m : Int) := by omega
  have HW : Hid _ := hw1
  have f8 : k + m ≤ k + 1 + m := by omega
  have f9 : ¬ cap = k + m := by omega
  have f10 : k + 1 + m ≤ cap := hcap
  clear hZ hl hnews hw1 hi1 hf1 hvi hown hsh hints hmax hb hcap
  by_cases h3 : cap = k + 1
  · obtain rfl : m = 0 := by omega
    subst h3
    have g1 : (k : Int) ≤ (k : Int) + 1 := by omega
    simp only [Nat.add_zero, Nat.add_sub_cancel_left] at hclr FIN HL HR HW ⊢
    have hn0 : Hid (news = []) := (by have := HL.out; simpa using this : news = [])
    go_enter Try.func59, Try.ntmps59
    go_wp2_with fail
    go_region_law (refine step_append_room rfl (.tmp 22) (.tmp 25) 26 rfl 29 i0 9 Try.underlying26 hi hz1 g 0 k (k + 1) rfl _ 0 _ news rfl HL.out (by rw [hn0.out]; intro j u hu; simp at hu) H1.out HR hs.out ?_)
    rw [HW.out]
    go_wp2_with fail
    go_ret
    obtain ⟨zs', q1, q2⟩ := FIN.out
    exact ⟨zs', rfl, q1, q2⟩
  go_enter Try.func59, Try.ntmps59
  go_wp2_with fail
  go_region_law (refine step_append_room rfl (.tmp 22) (.tmp 25) 26 rfl 29 i0 9 Try.underlying26 hi hz1 g 0 k cap rfl ⟨g, (k + 1) * 9, none⟩ m _ news rfl HL.out hc.out H1.out HR hs.out ?_)
  rw [HW.out]
  go_wp2_with fail
  go_ret
  obtain ⟨zs', q1, q2⟩ := FIN.out
  exact ⟨zs', rfl, q1, q2⟩
end Go.Proofs.Yteabbkagekdehaa
end
