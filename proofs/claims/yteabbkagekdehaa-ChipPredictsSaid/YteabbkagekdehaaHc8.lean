/- slices.Insert of one instruction. -/
import Derived.Test.YteabbkagekdehaaHcC
import Derived.Lib.Overlaps
import Derived.Lib.AppendZerosOnto
set_option linter.unusedVariables false
set_option linter.unusedSimpArgs false
set_option maxRecDepth 100000
namespace Go.Proofs.Yteabbkagekdehaa
open Go.AE Go.RowKit Go.IntWalk
theorem run_copy9 (w : World) (ty : TypeId) (g off dLen dCap : Nat) (ad : Addr) (sLen sCap : Nat) (cs : List Value) (hn : cs.length = Nat.min sLen dLen * 9) (hsrc : ∀ j u, cs[j]? = some u → w.cell? (ad.add j) = some u)
    (hc : ∀ j, j < cs.length → (w.cell? ⟨g, off + j, none⟩).isSome = true) (hf : ∀ j, j < cs.length → w.frozen? ⟨g, off + j, none⟩ = false) (h1 : ∀ v ∈ cs, v.oneCell' = true) :
    (Builtin.copy_ #[26, 26] ty #[.slice (some ⟨g, off, none⟩) dLen dCap, .slice (some ad) sLen sCap]).run Try.prog w = .ok (goInt (Nat.min sLen dLen)) (w.setCells g off cs) := by
  obtain ⟨i0, hi, hz0, hz1, hz2⟩ := info_parts info29
  have hst := run_storeCells_cells (P := Try.prog) g off cs 0 w (by simpa using hc) (by simpa using hf) h1
  simp only [Nat.add_zero] at hst
  have hfc := run_firstCells_some (P := Try.prog) w 9 (Nat.min sLen dLen) ad sLen sCap cs hn hsrc
  have hsz : ∀ w, (sizeOf 29).run Try.prog w = .ok 9 w := fun w => by simp [sizeOf, typeInfo, hi, hz1]
  simp only [Builtin.copy_, List.getElem?_toArray, List.getElem?_cons_zero, List.getElem?_cons_succ, Sem.run_bind, run_underlying Try.underlying26, Result.andThen_ok, Builtin.lenOf, Sem.run_pure, hsz, hfc, hst]
theorem wpList_copy_run9 (w : World) {ops : Array Oper} {rest : List Oper} {o : Oper} {a : Act} {Q : Exit → Act → World → Prop} (hgd : o.guard = none) (d s : Operand) (t t' : TypeId)
    (ho : o.op = .call { callee := .builtin .copy, args := #[d, s], argTypes := #[t, t'] }) (v u : Value) (hd : a.eval d = v) (hs : a.eval s = u) {v' : Value} {w' : World}
    (hr : (Builtin.copy_ #[t, t'] o.type #[v, u]).run Try.prog w = .ok v' w') (h : wpList Try.prog ops Q rest (a.put o.dst v') w') : wpList Try.prog ops Q (o :: rest) a w :=
  wpList_plain hgd fun K hK => by
    unfold Oper.wp execOp
    simp only [ho, resolve, invoke, builtin, Sem.run_bind, Sem.run_pure, Result.andThen_ok, List.map_toArray, List.map_cons, List.map_nil, hd, hs, hr]
    exact hK _ _ h
theorem step_copy_run9 {ops : Array Oper} {o : Oper} {a : Act} {w : World} {K : Act → World → Prop} {Q : Exit → Act → World → Prop} {E : Prop}
    (hg : o.guard = none) (d x : Operand) (dT sT : TypeId) (hop : o.op = Op.call { callee := Callee.builtin Builtin.copy, args := #[d, x], argTypes := #[dT, sT] })
    (v u : Value) (hd : a.eval d = v) (hx : a.eval x = u) {v' : Value} {w' : World} (hr : (Builtin.copy_ #[dT, sT] o.type #[v, u]).run Try.prog w = .ok v' w') (hK : K (a.put o.dst v') w') :
    if Region.wanted o (yielded ops a.tmps) = true then Oper.wp Try.prog o a w K Q else E := by
  have hw : Region.wanted o (yielded ops a.tmps) = true := by simp [Region.wanted, hg]
  rw [if_pos hw]
  unfold Oper.wp
  simp [execOp, hop, resolve, invoke, builtin, hd, hx, hr, Result.andThen]
  exact hK
theorem intsList {w : World} {g N : Nat} (h : IntsTo w g N) (o m : Nat) (hm : o + m ≤ N) : ∃ cs : List Value, cs.length = m ∧ (∀ v ∈ cs, ∃ z, v = .int .i64 z) ∧ ∀ j u, cs[j]? = some u → w.cell? ((⟨g, o, none⟩ : Addr).add j) = some u := by
  let f : Nat → Int := fun j => if hj : j < N then (h j hj).choose else 0
  have hf : ∀ j, j < N → w.cell? ⟨g, j, none⟩ = some (.int .i64 (f j)) := fun j hj => by
    simp only [f, dif_pos hj]; exact (h j hj).choose_spec
  refine ⟨(List.range m).map fun j => .int .i64 (f (o + j)), by simp, fun v hv => ?_, fun j u hu => ?_⟩
  · obtain ⟨j, _, rfl⟩ := List.mem_map.1 hv
    exact ⟨_, rfl⟩
  · rw [Addr.add_lit]
    simp only [List.getElem?_map, Option.map_eq_some_iff] at hu
    obtain ⟨j', h1, rfl⟩ := hu
    obtain ⟨p1, p2⟩ := List.getElem?_eq_some_iff.1 h1
    simp at p1 p2
    subst p2
    exact hf _ (by omega)
theorem one_of_ints {cs : List Value} (h : ∀ v ∈ cs, ∃ z, v = .int .i64 z) : ∀ v ∈ cs, v.oneCell' = true := fun v hv => by obtain ⟨z, rfl⟩ := h v hv; rfl
theorem IntsTo.some {w : World} {g N j : Nat} (h : IntsTo w g N) (hj : j < N) : (w.cell? ⟨g, j, none⟩).isSome = true := by obtain ⟨z, hz⟩ := h j hj; rw [hz]; rfl
set_option maxHeartbeats 4000000 in
theorem insert9_room {base i m cap g X : Nat} {zs : List Int} {w : World} (hown : w.ownsRow base 29 9 (.slice (some ⟨g, 0, none⟩) (i + 1 + m) cap) (i + 1 + m) (zcells zs)) (hn : i + 1 + m ≤ 100000) {cx : Array Value} (hX : w.heap[X]? = some (.cells cx 29 (0, 0))) (hXg : X ≠ g) (hxs : cx.size = 9) (hXi : IntsTo w X 9) (hr : i + 1 + m + 1 ≤ cap) :
    Calls Try.prog 60 #[.slice (some ⟨g, 0, none⟩) (i + 1 + m) cap, .int .i64 i, .slice (some ⟨X, 0, none⟩) 1 1] w fun e w' => ∃ zs', e = .returned (.slice (some ⟨g, 0, none⟩) (i + 1 + m + 1) cap) ∧ w'.ownsRow base 29 9 (.slice (some ⟨g, 0, none⟩) (i + 1 + m + 1) cap) (i + 1 + m + 1) (zcells zs') ∧ w.grownBy w' (some g) := by
  obtain ⟨hsh, hb, hcap, hmax, hints⟩ := ownsRow_ints hown
  obtain ⟨cur, hcur, hcs⟩ := hsh
  obtain ⟨c1, l1, i1, s1⟩ := intsList hints (i * 9) ((1 + m) * 9) (by omega)
  obtain ⟨c2, l2, i2, s2⟩ := intsList hXi 0 9 (by omega)
  have hex : ∀ j, j < cap * 9 → (w.cell? ⟨g, j, none⟩).isSome = true := fun j hj => by
    simp [World.cell?, hcur, hcs, hj]
  have hfz : ∀ j, w.frozen? ⟨g, j, none⟩ = false := fun j => hown.frozenAt j
  have hov : ∀ lb cb, (callFunc 84 #[.slice (some ⟨X, 0, none⟩) 1 1, .slice (some ⟨g, (i + 1) * 9, none⟩) lb cb]).run Try.prog w = .ok (.value (.bool false)) w := fun lb cb => by
    obtain ⟨i0, hi, hz0, hz1, hz2⟩ := info_parts info29
    have hsz : ∀ w, (sizeOf 29).run Try.prog w = .ok 9 w := fun w => by simp [sizeOf, typeInfo, hi, hz1]
    rw [run_callFunc_extern Try.func84 (by kernel_rfl) (by kernel_rfl) (by kernel_rfl) (e := Extern.SlicesOverlaps.overlaps #[26, 26] #[4]) (by kernel_rfl),
      Lib.run_overlaps_apart w 26 4 29 Try.underlying26 9 hsz ⟨X, 0, none⟩ ⟨g, (i + 1) * 9, none⟩ 1 1 lb cb hXg 29 29 9 (cap * 9) (by simp [World.shape?, hX, hxs]) (by simp [World.shape?, hcur, hcs]) (by omega) (by simp [World.frozen?, hX]) (by simp [World.frozen?, hX])]
    rfl
  obtain ⟨w1, hw1⟩ : ∃ w1, w.drew.setCells g ((i + 1) * 9) c1 = w1 := ⟨_, rfl⟩
  have hcp1 : ∀ ty dc sc, (Builtin.copy_ #[26, 26] ty #[.slice (some ⟨g, (i + 1) * 9, none⟩) (i + 1 + m - i) dc, .slice (some ⟨g, i * 9, none⟩) (i + 1 + m + 1 - i) sc]).run Try.prog w.drew = .ok (goInt (Nat.min (i + 1 + m + 1 - i) (i + 1 + m - i))) w1 := fun ty dc sc => by
    rw [← hw1]
    exact run_copy9 w.drew ty g ((i + 1) * 9) _ dc ⟨g, i * 9, none⟩ _ sc c1 (by rw [l1]; simp only [Nat.min_def]; split <;> omega) s1 (fun j hj => hex _ (by omega)) (fun j _ => hfz _) (one_of_ints i1)
  have hI1 : IntsTo w1 g ((i + 1 + m + 1) * 9) := by
    rw [← hw1]
    exact IntsTo.set (w := w.drew) hints i1 (fun j hj => hex _ (by omega)) (.inr ⟨by omega, by omega⟩)
  have hX1 : ∀ o, w1.cell? ⟨X, o, none⟩ = w.cell? ⟨X, o, none⟩ := fun o => by
    rw [← hw1]; exact World.cell?_of_block (w := w) (setCells_other g hXg c1 _ w.drew)
  obtain ⟨w2, hw2⟩ : ∃ w2, w1.setCells g (i * 9) c2 = w2 := ⟨_, rfl⟩
  have hcp2 : ∀ ty dc, (Builtin.copy_ #[26, 26] ty #[.slice (some ⟨g, i * 9, none⟩) (i + 1 + m + 1 - i) dc, .slice (some ⟨X, 0, none⟩) 1 1]).run Try.prog w1 = .ok (goInt (Nat.min 1 (i + 1 + m + 1 - i))) w2 := fun ty dc => by
    rw [← hw2]
    exact run_copy9 w1 ty g (i * 9) _ dc ⟨X, 0, none⟩ 1 1 c2 (by rw [l2]; simp only [Nat.min_def]; split <;> omega) (fun j u hu => by
      have := s2 j u hu
      rw [Addr.add_lit] at this ⊢
      rw [hX1]; exact this) (fun j hj => hI1.some (by omega)) (fun j _ => by rw [← hw1, World.frozen?_setCells]; exact hfz _) (one_of_ints i2)
  have FIN : Hid (∃ zs', w2.ownsRow base 29 9 (.slice (some ⟨g, 0, none⟩) (i + 1 + m + 1) cap) (i + 1 + m + 1) (zcells zs') ∧ w.grownBy w2 (some g)) := by
    obtain ⟨cur1, q3, q4⟩ := setCells_shape g c1 ((i + 1) * 9) w.drew cur hcur
    rw [hw1] at q3
    obtain ⟨cur2, q5, q6⟩ := setCells_shape g c2 (i * 9) w1 cur1 q3
    rw [hw2] at q5
    have hI2 : IntsTo w2 g ((i + 1 + m + 1) * 9) := by
      rw [← hw2]
      exact IntsTo.set hI1 i2 (fun j hj => hI1.some (by omega)) (.inl (Nat.le_refl _))
    obtain ⟨zs', h⟩ := rowInts (n := i + 1 + m + 1) ⟨cur2, q5, by omega⟩ hb hr hmax hI2
    refine ⟨zs', h, ?_⟩
    have g1 := setCells_grown g c1 ((i + 1) * 9) w.drew
    have g2 := setCells_grown g c2 (i * 9) w1
    rw [hw1] at g1
    rw [hw2] at g2
    exact ⟨g2.os.trans g1.os, g2.tape.trans g1.tape, g2.output.trans g1.output, Nat.le_trans g1.size g2.size, fun c hc hne => (g2.block c (Nat.lt_of_lt_of_le hc g1.size) hne).trans (g1.block c hc hne)⟩
  have f1 : ¬ cap = i := by omega
  have f2 : (i : Int) ≤ (i : Int) + 1 + (m : Int) := by omega
  have f3 : ¬ (i : Int) = (i : Int) + 1 + (m : Int) := by omega
  have f4 : ¬ ((i : Int) + 1 + (m : Int) + 1 > (cap : Int)) := by omega
  have hw1' : IntKind.i64.wrap ((i : Int) + 1) = (i : Int) + 1 := by rw [IntKind.wrap_i64]; omega
  have hb1 : (0 : Int) ≤ (i : Int) + 1 := by omega
  have hin : i ≤ i + 1 + m + 1 := by omega
  have htn : ((i : Int) + 1).toNat = i + 1 := by omega
  have hb2 : ¬ (cap = i + 1) := by omega
  have hb3 : (i : Int) ≤ (i : Int) + 1 + (m : Int) + 1 := by omega
  have hb4 : (i : Int) + 1 ≤ (i : Int) + 1 + (m : Int) + 1 := by omega
  clear hown hX hxs hXi hcur hcs hcap hmax hints l1 i1 s1 l2 i2 s2 hex hfz hw1 hw2 hI1 hX1
  go_enter Try.func60, Try.ntmps60
  go_wp2_with (simp only [hov])
  go_region_law (refine step_copy_run9 rfl _ _ 26 26 rfl _ _ (by simp [Act.eval, Act.put]) (by simp [Act.eval, Act.put]) (hcp1 _ _ _) ?_)
  go_wp2_with ((refine wpList_copy_run9 _ rfl _ _ 26 26 rfl _ _ rfl rfl (hcp2 _ _) ?_))
  go_ret
  obtain ⟨zs', q1, q2⟩ := FIN.out
  exact ⟨zs', rfl, q1, q2⟩
theorem zeros9 (k : Nat) : Builtin.zeroCells (Value.agg #[.int .i64 0, .int .i64 0, .int .i64 0, .int .i64 0, .int .i64 0, .int .i64 0, .int .i64 0, .int .i64 0, .int .i64 0]).cells k = (List.replicate (k * 9) (Value.int .i64 0)).toArray := by
  apply Array.ext'
  simp only [Builtin.zeroCells, Value.cells]
  apply List.ext_getElem
  · simp
  · intro i h1 h2
    have hlt : i % 9 < 9 := Nat.mod_lt _ (by omega)
    have : i % 9 = 0 ∨ i % 9 = 1 ∨ i % 9 = 2 ∨ i % 9 = 3 ∨ i % 9 = 4 ∨ i % 9 = 5 ∨ i % 9 = 6 ∨ i % 9 = 7 ∨ i % 9 = 8 := by omega
    rcases this with h | h | h | h | h | h | h | h | h <;> simp [h]
set_option maxHeartbeats 4000000 in
theorem insert9_grow {base i m g X : Nat} {zs : List Int} {w : World} (hown : w.ownsRow base 29 9 (.slice (some ⟨g, 0, none⟩) (i + 1 + m) (i + 1 + m)) (i + 1 + m) (zcells zs)) (hn : i + 1 + m ≤ 100000) {cx : Array Value} (hX : w.heap[X]? = some (.cells cx 29 (0, 0))) (hXg : X ≠ g) (hxs : cx.size = 9) (hXi : IntsTo w X 9) (hbase : base ≤ w.heap.size) :
    Calls Try.prog 60 #[.slice (some ⟨g, 0, none⟩) (i + 1 + m) (i + 1 + m), .int .i64 i, .slice (some ⟨X, 0, none⟩) 1 1] w fun e w' => ∃ a' cap zs', e = .returned (.slice a' (i + 1 + m + 1) cap) ∧ w'.ownsRow base 29 9 (.slice a' (i + 1 + m + 1) cap) (i + 1 + m + 1) (zcells zs') ∧ w.grownBy w' (some g) := by
  obtain ⟨i0, hi, hz0, hz1, hz2⟩ := info_parts info29
  obtain ⟨hsh, hb, hcap, hmax, hints⟩ := ownsRow_ints hown
  have hgl : g < w.heap.size := (hown.lt g rfl).2
  have hXl : X < w.heap.size := (Array.getElem?_eq_some_iff.1 hX).1
  obtain ⟨c0, l0, i0', s0⟩ := intsList hints 0 (i * 9) (by omega)
  obtain ⟨c1, l1, i1, s1⟩ := intsList hints (i * 9) ((1 + m) * 9) (by omega)
  obtain ⟨c2, l2, i2, s2⟩ := intsList hXi 0 9 (by omega)
  have hold : (Builtin.firstCells i0.size i (.slice (some ⟨g, 0, none⟩) i (i + 1 + m))).run Try.prog w.drew = .ok c0.toArray w.drew := by
    rw [hz1]
    exact run_firstCells_some w.drew 9 i ⟨g, 0, none⟩ i (i + 1 + m) c0 l0 s0
  obtain ⟨N, hN⟩ : ∃ N, w.heap.size = N := ⟨_, rfl⟩
  obtain ⟨G, hG⟩ : ∃ G, grownCap w (i + 1 + m + 1) (i + 1 + m) 29 = G := ⟨_, rfl⟩
  obtain ⟨ROW, hROW⟩ : ∃ ROW : Array Value, c0.toArray ++ (List.replicate ((m + 2) * 9) (Value.int .i64 0)).toArray ++ (List.replicate ((G - (i + 1 + m + 1)) * 9) (Value.int .i64 0)).toArray = ROW := ⟨_, rfl⟩
  have hrz : ∀ ty, (Builtin.append_ #[26, 3] ty #[.slice (some ⟨g, 0, none⟩) i (i + 1 + m), .int .i64 ((i : Int) + 1 + (m : Int) + 1 - (i : Int))]).run Try.prog w = .ok (.slice (some ⟨N, 0, none⟩) (i + 1 + m + 1) G) (w.drew.alloc (.cells ROW 29)) := fun ty => by
    have h := Lib.run_append_grow_zeros w 26 3 ty 29 i0 _ .i64 .i64 Try.underlying26 Try.underlying3 hi hz0 (some ⟨g, 0, none⟩) i (i + 1 + m) c0 hold (m + 2) (by omega) (by omega) (by omega) (by omega) (by rw [hz2]; omega) (by rw [hz2]; exact growslice_fits (by omega) (by omega))
    rw [show i + (m + 2) = i + 1 + m + 1 by omega, hN, hG, zeros9, zeros9, hROW] at h
    rw [show (i : Int) + 1 + (m : Int) + 1 - (i : Int) = ((m + 2 : Nat) : Int) by omega]
    exact h
  have hGn : i + 1 + m + 1 ≤ G := by rw [← hG]; exact grownCap_ge w _ _ _
  have hGm : G ≤ maxLen := by rw [← hG]; exact grownCap_le_maxLen w _ _ _ (by unfold maxLen; omega)
  have hRs : ROW.size = G * 9 := by rw [← hROW]; simp [l0]; omega
  have hRi : ∀ j, j < (i + 1 + m + 1) * 9 → ∃ z, ROW[j]? = some (.int .i64 z) := fun j hj => by
    rw [← hROW]
    by_cases h : j < i * 9
    · obtain ⟨z, hz⟩ := i0' _ (List.getElem_mem (show j < c0.length by omega))
      exact ⟨z, by rw [Array.append_assoc, Array.getElem?_append_left (by simpa [l0] using h)]; simp [l0, h, hz]⟩
    · refine ⟨0, ?_⟩
      rw [Array.append_assoc, Array.getElem?_append_right (by simp [l0]; omega), Array.getElem?_append_left (by simp [l0]; omega)]
      simp only [List.getElem?_toArray, List.getElem?_replicate, List.size_toArray, l0]
      rw [if_pos (by omega)]
  obtain ⟨W1, hW1⟩ : ∃ W1, w.drew.alloc (.cells ROW 29) = W1 := ⟨_, rfl⟩
  have hcell : W1.heap[N]? = some (.cells ROW 29 (0, 0)) := by rw [← hW1, ← hN]; exact heap_alloc_new w.drew _
  have hOld : ∀ k, k < w.heap.size → W1.heap[k]? = w.heap[k]? := fun k hk => by rw [← hW1]; exact (below_alloc w.drew _).block k hk
  have hI0 : IntsTo W1 N ((i + 1 + m + 1) * 9) := fun j hj => by obtain ⟨z, hz⟩ := hRi j hj; exact ⟨z, by simp [World.cell?, hcell, hz]⟩
  have hcpA : ∀ (W : World), (∀ x, W.cell? x = W1.cell? x) → (∀ x, W.frozen? x = W1.frozen? x) → ∀ ty dl dc, 1 ≤ dl → (Builtin.copy_ #[26, 26] ty #[.slice (some ⟨N, i * 9, none⟩) dl dc, .slice (some ⟨X, 0, none⟩) 1 1]).run Try.prog W = .ok (goInt (Nat.min 1 dl)) (W.setCells N (i * 9) c2) := fun W hWc hWf ty dl dc hdl =>
    run_copy9 W ty N (i * 9) dl dc ⟨X, 0, none⟩ 1 1 c2 (by rw [l2]; simp only [Nat.min_def]; split <;> omega) (fun j u hu => by
      have := s2 j u hu
      rw [Addr.add_lit] at this ⊢
      rw [hWc, World.cell?_of_block (w := w) (hOld X hXl)]; exact this) (fun j hj => by rw [hWc]; exact hI0.some (by omega)) (fun j _ => by rw [hWf]; simp [World.frozen?, hcell]) (one_of_ints i2)
  have hgN : g ≠ N := by omega
  have hI1 : IntsTo (W1.setCells N (i * 9) c2) N ((i + 1 + m + 1) * 9) := IntsTo.set hI0 i2 (fun j hj => hI0.some (by omega)) (.inl (Nat.le_refl _))
  have hcpB : ∀ (W : World), (∀ x, W.cell? x = (W1.setCells N (i * 9) c2).cell? x) → (∀ x, W.frozen? x = (W1.setCells N (i * 9) c2).frozen? x) → ∀ ty dl dc sl sc, Nat.min sl dl = 1 + m → (Builtin.copy_ #[26, 26] ty #[.slice (some ⟨N, (i + 1) * 9, none⟩) dl dc, .slice (some ⟨g, i * 9, none⟩) sl sc]).run Try.prog W = .ok (goInt (Nat.min sl dl)) (W.setCells N ((i + 1) * 9) c1) := fun W hWc hWf ty dl dc sl sc hdl =>
    run_copy9 W ty N ((i + 1) * 9) dl dc ⟨g, i * 9, none⟩ sl sc c1 (by rw [l1, hdl]) (fun j u hu => by
      have := s1 j u hu
      rw [Addr.add_lit] at this ⊢
      rw [hWc, World.cell?_of_block (w := w) ((setCells_other N hgN c2 _ W1).trans (hOld g hgl))]; exact this) (fun j hj => by rw [hWc]; exact hI1.some (by omega)) (fun j _ => by rw [hWf, World.frozen?_setCells]; simp [World.frozen?, hcell]) (one_of_ints i1)
  have FIN : Hid (∃ zs', ((W1.setCells N (i * 9) c2).drew.setCells N ((i + 1) * 9) c1).ownsRow base 29 9 (.slice (some ⟨N, 0, none⟩) (i + 1 + m + 1) G) (i + 1 + m + 1) (zcells zs') ∧ w.grownBy ((W1.setCells N (i * 9) c2).drew.setCells N ((i + 1) * 9) c1) (some g)) := by
    obtain ⟨cur1, q3, q4⟩ := setCells_shape N c2 (i * 9) W1 ROW hcell
    obtain ⟨cur2, q5, q6⟩ := setCells_shape N c1 ((i + 1) * 9) (W1.setCells N (i * 9) c2).drew cur1 q3
    have hI2 : IntsTo ((W1.setCells N (i * 9) c2).drew.setCells N ((i + 1) * 9) c1) N ((i + 1 + m + 1) * 9) :=
      IntsTo.set (w := (W1.setCells N (i * 9) c2).drew) hI1 i1 (fun j hj => hI1.some (by omega)) (.inl (Nat.le_refl _))
    obtain ⟨zs', h⟩ := rowInts (base := base) (n := i + 1 + m + 1) ⟨cur2, q5, by omega⟩ (by omega) hGn hGm hI2
    refine ⟨zs', h, ?_⟩
    have r1 := setCells_rest N c2 (i * 9) W1
    have r2 := setCells_rest N c1 ((i + 1) * 9) (W1.setCells N (i * 9) c2).drew
    have r0 : W1.os = w.os ∧ W1.tape = w.tape ∧ W1.output = w.output ∧ W1.heap.size = w.heap.size + 1 := by rw [← hW1]; exact ⟨rfl, rfl, rfl, by simp⟩
    refine ⟨r2.1.trans (r1.1.trans r0.1), r2.2.1.trans (r1.2.1.trans r0.2.1), r2.2.2.1.trans (r1.2.2.1.trans r0.2.2.1), ?_, fun c hc hne => ?_⟩
    · have e1 : ((W1.setCells N (i * 9) c2).drew.setCells N ((i + 1) * 9) c1).heap.size = (W1.setCells N (i * 9) c2).heap.size := r2.2.2.2
      rw [e1, r1.2.2.2, r0.2.2.2]; omega
    · have hcN : c ≠ N := by omega
      exact (setCells_other N hcN c1 _ (W1.setCells N (i * 9) c2).drew).trans ((setCells_other N hcN c2 _ W1).trans (hOld c hc))
  have f1 : ¬ G = i := by omega
  have f2 : (i : Int) ≤ (i : Int) + 1 + (m : Int) := by omega
  have f3 : ¬ (i : Int) = (i : Int) + 1 + (m : Int) := by omega
  have f4 : ((i : Int) + 1 + (m : Int) < (i : Int) + 1 + (m : Int) + 1) := by omega
  have hw1' : IntKind.i64.wrap ((i : Int) + 1) = (i : Int) + 1 := by rw [IntKind.wrap_i64]; omega
  have hb1 : (0 : Int) ≤ (i : Int) + 1 := by omega
  have hin : i ≤ i + 1 + m + 1 := by omega
  have htn : ((i : Int) + 1).toNat = i + 1 := by omega
  have hb2 : ¬ (G = i + 1) := by omega
  have hb3 : (i : Int) ≤ (i : Int) + 1 + (m : Int) + 1 := by omega
  have hb4 : (i : Int) + 1 ≤ (i : Int) + 1 + (m : Int) + 1 := by omega
  have hb5 : ¬ (i + 1 + m = i) := by omega
  have hb6 : i ≤ i + 1 + m := by omega
  have hb7 : ¬ (m + 1 + i = i) := by omega
  clear hown hX hxs hXi hcap hsh hmax hints l1 i1 s1 l2 i2 s2 l0 i0' s0 hold hROW hRs hRi hcell hOld hI0 hI1 hG
  go_enter Try.func60, Try.ntmps60
  go_wp2_with (first
    | (at_builtin; refine Lib.wpList_append_run _ rfl _ _ _ _ rfl _ _ rfl rfl _ _ (hrz _) ?_)
    | (refine wpList_copy_run9 _ rfl _ _ 26 26 rfl _ _ rfl rfl (hcpA _ (fun _ => rfl) (fun _ => rfl) _ _ _ (by omega)) ?_))
  have hcpB' := hcpB (W1.setCells N (i * 9) c2).drew (fun _ => rfl) (fun _ => rfl) 3 (i + 1 + m - i) (G - (i + 1)) (i + 1 + m - i) (i + 1 + m - i) (by simp only [Nat.min_def]; split <;> omega)
  go_region
  go_wp2_with fail
  go_ret
  obtain ⟨zs', q1, q2⟩ := FIN.out
  exact ⟨_, _, zs', rfl, q1, q2⟩
end Go.Proofs.Yteabbkagekdehaa
