/- bytes.Clone: a new row of as many bytes; for the abstract evaluator, where nothing is known of the bytes. -/
import Derived.Test.YthhhpaeheccelaaGreatLmLow
import Derived.Lib.SliceRun
set_option linter.unusedVariables false
set_option linter.unusedSimpArgs false
namespace Go.Proofs.YthhhpaeheccelaaGreat
noncomputable section
open Go.AE Go.RowKit Go.IntWalk
theorem sz5 (w : World) : (sizeOf 5).run Tryz.prog w = .ok 1 w := by
  obtain ⟨i0, hi, hz0, hz1, hz2⟩ := info_parts8 info5
  simp [sizeOf, typeInfo, hi, hz1]
theorem ty5 : ∃ e, (envOf Tryz.prog).ty 5 = some e ∧ e.size = 1 ∧ e.bytes = 1 ∧ e.zero = some [.int .u8 0] := by
  have h : ((envOf Tryz.prog).ty 5).map (fun e => (e.size, e.bytes, e.zero)) = some (1, 1, some [.int .u8 0]) := by kernel_rfl
  cases he : (envOf Tryz.prog).ty 5 with
  | none => rw [he] at h; cases h
  | some e => rw [he] at h; simp at h; exact ⟨e, rfl, h.1, h.2.1, h.2.2⟩
theorem append_empty (w : World) (p : Option Addr) (hp : ∀ a, p = some a → a.spot = none) (c len cap : Nat) (cs : Array Value) (e : TypeId) (fr : Nat × Nat) (hw : w.heap[c]? = some (.cells cs e fr)) (h0 : 0 < len) (hl : len ≤ cs.size) (hb : len ≤ 1000000000) (ty : TypeId) :
    ∃ ncap us, len ≤ ncap ∧ ncap ≤ maxLen ∧ us.size = ncap ∧ (Builtin.append_ #[48, 48] ty #[.slice p 0 0, .slice (some ⟨c, 0, none⟩) len cap]).run Tryz.prog w = .ok (.slice (some ⟨w.heap.size, 0, none⟩) len ncap) (w.drew.alloc (.cells us 5)) := by
  letI : Val := Val.plain
  obtain ⟨e5, he, hs, hby, hz⟩ := ty5
  have hcl : (cs.toList.take len).length = len := by simp; omega
  have hfc : ∀ w' : World, w'.heap = w.heap → (Builtin.firstCells 1 len (.slice (some ⟨c, 0, none⟩) len cap)).run Tryz.prog w' = .ok (cs.toList.take len).toArray w' := by
    intro w' hw'
    exact run_firstCells_some w' _ _ _ _ _ (cs.toList.take len) (by rw [hcl, Nat.mul_one]) (fun j u hj => by
      rw [List.getElem?_take] at hj
      split at hj
      · rw [Addr.add_lit]; simp only [World.cell?, hw', Nat.zero_add, hw]; simpa using hj
      · cases hj)
  have hf0 : ∀ w' : World, w'.heap = w.heap → (Builtin.firstCells e5.size 0 (.slice p 0 0)).run Tryz.prog w' = .ok ([] : List Value).toArray w' := by
    intro w' hw'
    cases p <;> simp [Builtin.firstCells, loadCells, loadCellsFrom]
  obtain ⟨ncap, zc, c1, c2, c3, c4⟩ := grow_run (envOf_ok Tryz.prog) (w := w) he hz (by rw [hs]; rfl) (base := p) (sLen := 0) (sCap := 0) (m := len) (zeros := false) (x := .slice (some ⟨c, 0, none⟩) len cap) (appended := Builtin.firstCells 1 len (.slice (some ⟨c, 0, none⟩) len cap)) (us := cs.toList.take len) (olds := [])
    hfc hf0 (by omega) (by omega) (by rw [hby]; omega)
  refine ⟨ncap, (cs.toList.take len ++ zc).toArray, by omega, by simp only [maxLen]; omega, ?_, ?_⟩
  · have := c3; simp only [hs, Nat.mul_one, Nat.zero_add] at this; simp; omega
  · rw [append_plain und48 und48 (fun k h => by cases h) (sz5 w) (n := len) rfl]
    simp only [Nat.zero_add, hs, List.nil_append] at c4
    exact c4
theorem wpList_run8 {P : Program} {w : World} {ops : Array Oper} {rest : List Oper} {o : Oper} {a : Act} {Q : Exit → Act → World → Prop} (hg : o.guard = none) (s x : Operand)
    (hop : o.op = Op.call { callee := Callee.builtin Builtin.append, args := #[s, x], argTypes := #[48, 48] }) (vs vx : Value) (hs : a.eval s = vs) (hx : a.eval x = vx) (u : Value) (w' : World)
    (hrun : (Builtin.append_ #[48, 48] o.type #[vs, vx]).run P w = .ok u w') (h : wpList P ops Q rest (a.put o.dst u) w') : wpList P ops Q (o :: rest) a w := by
  refine wpList_plain hg fun K hK => ?_
  unfold Oper.wp
  simp [execOp, hop, resolve, invoke, builtin, hs, hx, hrun, Result.andThen]
  exact hK _ _ h
set_option maxRecDepth 10000 in
theorem clone_c (c n cap : Nat) (cs : Array Value) (e : TypeId) (fr : Nat × Nat) (w : World) (hw : w.heap[c]? = some (.cells cs e fr)) (h0 : 0 < n) (hl : n ≤ cs.size) (hb : n ≤ 1000000000) :
    Calls Tryz.prog 45 #[.slice (some ⟨c, 0, none⟩) n cap] w fun en w' => ∃ g ncap us, en = .returned (.slice (some ⟨g, 0, none⟩) n ncap) ∧ w.heap.size ≤ g ∧ w'.heap[g]? = some (.cells us 5 (0, 0)) ∧ us.size = ncap ∧ n ≤ ncap ∧ ncap ≤ maxLen ∧ Below w.heap.size w w' := by
  have hq := Go.Lib.run_eql_slice_nil w 48 5 (some ⟨c, 0, none⟩) n cap 0 0 und48
  have hc : c < w.heap.size := (Array.getElem?_eq_some_iff.1 hw).1
  have hw1 : (w.alloc (.cells #[] 5)).heap[c]? = some (.cells cs e fr) := by rw [heap_alloc_old w _ hc]; exact hw
  obtain ⟨ncap, us, q1, q2, q3, q4⟩ := append_empty (w.alloc (.cells #[] 5)) (some ⟨w.heap.size, 0, none⟩) (fun a h => by cases h; rfl) c n cap cs e fr hw1 h0 hl hb 48
  have hs1 : (w.alloc (.cells #[] 5)).heap.size = w.heap.size + 1 := by simp
  have B : Hid (Below w.heap.size w ((w.alloc (.cells #[] 5)).drew.alloc (.cells us 5))) := (below_alloc8 w _).trans ((Below.drew (Below.refl _ _)).alloc (show w.heap.size ≤ (w.alloc (.cells #[] 5)).heap.size by rw [hs1]; omega) _)
  have hnew : Hid (((w.alloc (.cells #[] 5)).drew.alloc (.cells us 5)).heap[(w.alloc (.cells #[] 5)).heap.size]? = some (.cells us 5 (0, 0))) := heap_alloc_new (w.alloc (.cells #[] 5)).drew _
  have hge : Hid (w.heap.size ≤ (w.alloc (.cells #[] 5)).heap.size) := by show _ ≤ _; rw [hs1]; omega
  generalize (w.alloc (.cells #[] 5)).heap.size = G at q4 hnew hge
  generalize ((w.alloc (.cells #[] 5)).drew.alloc (.cells us 5)) = W at q4 hnew B
  clear hs1
  go_enter Tryz.func45, Tryz.ntmps45
  go_wp2_with (at_builtin; refine wpList_run8 rfl (.tmp 5) (.tmp 6) rfl _ _ rfl rfl _ _ q4 ?_)
  go_ret
  exact ⟨_, _, _, rfl, hge.out, hnew.out, q3, q1, q2, B.out⟩
end
end Go.Proofs.YthhhpaeheccelaaGreat
