/- Server.open where the map has two requests, of which one is open: whichever comes first, one is returned. -/
import Derived.Test.YthhhpaeheccelaaGreatLmQ
set_option linter.unusedVariables false
set_option linter.unusedSimpArgs false
set_option linter.unusedSectionVars false
set_option maxRecDepth 100000
namespace Go.AE
variable [Val] {P : Program} {E : Env} {A : AHeap} {μ : Mu} {w : World}
theorem next2_sound (R : Rel A μ w) {b m since last : Nat} {e1 e2 : AV × AV × Nat} {clock : Nat} (h1 : aIter A b = some (some m, since, [], last)) (h2 : aMap A m = some ([e1, e2], clock)) (hb1 : e1.2.2 < since) (hb2 : e2.2.2 < since)
    {u : Value} (hu : VR μ (.ptr b 0 0) u) (ty : TypeId) :
    ∃ y w' e, (e = e1 ∨ e = e2) ∧ (Instr.next u false ty).run P w = .ok y w' ∧ VR μ (.tup [.bool true, e.1, e.2.1]) y ∧ Rel (A.set b (.iter (some m) since [e.2.2] clock)) μ w' ∧ Ext A (A.set b (.iter (some m) since [e.2.2] clock)) μ μ w w' := by
  simp only [VR] at hu
  obtain ⟨c, sz, hmu, rfl⟩ := hu
  obtain ⟨i1, i2⟩ := iter_sound R h1 hmu
  obtain ⟨c', sz', hmu', hwi⟩ := i2 m rfl
  obtain ⟨ms, hwm, hent⟩ := map_sound R h2 hmu'
  obtain ⟨L⟩ := ms
  simp only at hent
  match L, hent with
  | [], hf => have := hf.1; simp at this
  | [m1], hf => have := hf.1; simp at this
  | m1 :: m2 :: m3 :: l, hf => have := hf.1; simp at this
  | [m1, m2], hf =>
  obtain ⟨⟨k1, k2, k3⟩, hf2⟩ := hf.tail
  obtain ⟨⟨j1, j2, j3⟩, _⟩ := hf2.tail
  have hb1' : m1.born < since := by rw [k3]; exact hb1
  have hb2' : m2.born < since := by rw [j3]; exact hb2
  have hal : ((#[] : Array Nat).isEmpty) = true := rfl
  have hrun : (Instr.next (.pointer (some ⟨c, 0, none⟩)) false ty).run P w =
      ((do
        match (#[some m1, some m2] : Array (Option MapEntry))[← choose (.mapNext 2)]? with
        | some (some e) => do
          setObj c (.mapIter (some c') since ((#[] : Array Nat).push e.born) clock)
          pure (.tuple #[.bool true, e.key, e.val])
        | some none => pure (.tuple #[.bool false])
        | none => stuck "Next: no such candidate") : Sem Value).run P w := by
    simp only [Instr.next, Sem.run_bind, run_getObj hwi, Result.andThen_ok, run_getObj_map hwm]
    simp [hb1', hb2', Nat.not_le.mpr hb1', Nat.not_le.mpr hb2']
    rfl
  have hch : ∃ j, j < 2 ∧ (choose (.mapNext 2)).run P w = .ok j w.drew := by
    refine ⟨(Question.mapNext 2).cut (w.tape w.drawn (.mapNext 2)), Nat.mod_lt _ (by omega), ?_⟩
    simp [run_choose, Question.forced]
  obtain ⟨j, hj, hch⟩ := hch
  have fin : ∀ (e : AV × AV × Nat) (mm : MapEntry), VR μ e.1 mm.key → VR μ e.2.1 mm.val → mm.born = e.2.2 → (e = e1 ∨ e = e2) → (#[some m1, some m2] : Array (Option MapEntry))[j]? = some (some mm) →
      ∃ y w' e, (e = e1 ∨ e = e2) ∧ (Instr.next (.pointer (some ⟨c, 0, none⟩)) false ty).run P w = .ok y w' ∧ VR μ (.tup [.bool true, e.1, e.2.1]) y ∧ Rel (A.set b (.iter (some m) since [e.2.2] clock)) μ w' ∧ Ext A (A.set b (.iter (some m) since [e.2.2] clock)) μ μ w w' := by
    intro e mm q1 q2 q3 qe qj
    obtain ⟨s1, s2, s3⟩ := iter_change (P := P) (Rel.drew' R) h1 hmu hmu' (w := w.drew) hwi (since := since) (seen := [e.2.2]) (last := clock)
    refine ⟨.tuple #[.bool true, mm.key, mm.val], _, e, qe, ?_, ?_, s2, (Ext.drew A μ w).trans s3⟩
    · rw [hrun]
      simp only [Sem.run_bind, hch, Result.andThen_ok]
      rw [qj]
      simp only []
      have hp : (#[] : Array Nat).push mm.born = ([e.2.2] : List Nat).toArray := by rw [q3]; rfl
      rw [hp]
      simp only [Sem.run_bind, s1, Result.andThen_ok, Sem.run_pure]
    · simp only [VR, VRs]; exact ⟨[.bool true, mm.key, mm.val], ⟨_, _, rfl, rfl, _, _, rfl, q1, _, _, rfl, q2, rfl⟩, rfl⟩
  rcases (show j = 0 ∨ j = 1 by omega) with rfl | rfl
  · exact fin e1 m1 k1 k2 k3 (.inl rfl) rfl
  · exact fin e2 m2 j1 j2 j3 (.inr rfl) rfl
end Go.AE
