/- The code's clock: 'pass' over a block. -/
import Derived.Test.YteabbkagekdehaaCp2
import Derived.Test.YteabbkagekdehaaChkMain
import Derived.Test.YteabbkagekdehaaCp4
import Derived.BigRegion
import Derived.Deep.RegionWith
import Derived.Deep.CutRange
set_option linter.unusedVariables false
set_option linter.unusedSimpArgs false
set_option maxRecDepth 100000
namespace Go.Proofs.Yteabbkagekdehaa
open Go.AE Go.RowKit Go.IntWalk
/-- the clock lies there -/
structure Clk (w : World) (bk br Q : Nat) (m0 m1 m2 m3 m4 : Int) (s : Nat × (Nat → Nat)) : Prop where
  ms : Keep5 w bk m0 m1 m2 m3 m4
  c5 : w.cell? ⟨bk, 5, none⟩ = some (zI s.1)
  c6 : w.cell? ⟨bk, 6, none⟩ = some (.slice (some ⟨br, 0, none⟩) Q Q)
  f5 : w.frozen? ⟨bk, 5, none⟩ = false
  row : RowAt br Q (fun q => (s.2 q : Nat)) w
  lk : bk < w.heap.size
  lr : br < w.heap.size
  ne : bk ≠ br
/-- all but the clock is as it was -/
structure FrB (bk br : Nat) (w w' : World) : Prop where
  os : w'.os = w.os
  tape : w'.tape = w.tape
  output : w'.output = w.output
  size : w.heap.size ≤ w'.heap.size
  block : ∀ k, k < w.heap.size → k ≠ bk → k ≠ br → w'.heap[k]? = w.heap[k]?
theorem FrB.refl (bk br : Nat) (w : World) : FrB bk br w w := ⟨rfl, rfl, rfl, Nat.le_refl _, fun _ _ _ _ => rfl⟩
theorem FrB.trans {bk br : Nat} {a b c : World} (h : FrB bk br a b) (g : FrB bk br b c) : FrB bk br a c :=
  ⟨g.os.trans h.os, g.tape.trans h.tape, g.output.trans h.output, Nat.le_trans h.size g.size, fun k h1 h2 h3 => (g.block k (Nat.lt_of_lt_of_le h1 h.size) h2 h3).trans (h.block k h1 h2 h3)⟩
theorem FrB.of_below {bk br : Nat} {w w' : World} (h : Below w.heap.size w w') : FrB bk br w w' := ⟨h.os, h.tape, h.output, h.size, fun k h1 _ _ => h.block k h1⟩
theorem FrB.cell {bk br : Nat} {w w' : World} (h : FrB bk br w w') {p : Addr} (h1 : p.block < w.heap.size) (h2 : p.block ≠ bk) (h3 : p.block ≠ br) : w'.cell? p = w.cell? p := World.cell?_of_block (w := w) (h.block p.block h1 h2 h3)
theorem Clk.below {w w' : World} {bk br Q : Nat} {m0 m1 m2 m3 m4 : Int} {s : Nat × (Nat → Nat)} (h : Clk w bk br Q m0 m1 m2 m3 m4 s) (H : Below w.heap.size w w') : Clk w' bk br Q m0 m1 m2 m3 m4 s :=
  ⟨(Keep5.below h.ms H h.lk).1, by rw [H.cell (by exact h.lk)]; exact h.c5, by rw [H.cell (by exact h.lk)]; exact h.c6, by rw [H.frozen (by exact h.lk)]; exact h.f5, RowAt.block h.row (H.block br h.lr), Nat.lt_of_lt_of_le h.lk H.size, Nat.lt_of_lt_of_le h.lr H.size, h.ne⟩
/-- the cycles are set -/
theorem Clk.cyc {w : World} {bk br Q : Nat} {m0 m1 m2 m3 m4 : Int} {s : Nat × (Nat → Nat)} (h : Clk w bk br Q m0 m1 m2 m3 m4 s) (c : Nat) : Clk (w.setCell ⟨bk, 5, none⟩ (zI c)) bk br Q m0 m1 m2 m3 m4 (c, s.2) ∧ FrB bk br w (w.setCell ⟨bk, 5, none⟩ (zI c)) := by
  have o : ∀ i, i ≠ 5 → (w.setCell ⟨bk, 5, none⟩ (zI c)).cell? ⟨bk, i, none⟩ = w.cell? ⟨bk, i, none⟩ := fun i hi => World.cell?_setCell_other _ _ _ _ (fun q => hi (by cases q; rfl))
  obtain ⟨k0, k1, k2, k3, k4⟩ := h.ms
  have OS := oth_setCell w bk 5 (zI c)
  exact ⟨⟨⟨by rw [o 0 (by decide)]; exact k0, by rw [o 1 (by decide)]; exact k1, by rw [o 2 (by decide)]; exact k2, by rw [o 3 (by decide)]; exact k3, by rw [o 4 (by decide)]; exact k4⟩, World.cell?_setCell_same _ _ _ h.c5, by rw [o 6 (by decide)]; exact h.c6, by rw [World.frozen?_setCell]; exact h.f5, RowAt.block h.row (OS.block br h.lr (Ne.symm h.ne)), by rw [csize_set]; exact h.lk, by rw [csize_set]; exact h.lr, h.ne⟩,
    ⟨OS.os, OS.tape, OS.output, OS.size, fun k h1 h2 _ => OS.block k h1 h2⟩⟩
/-- a queue is set -/
theorem Clk.que {w : World} {bk br Q : Nat} {m0 m1 m2 m3 m4 : Int} {s : Nat × (Nat → Nat)} (h : Clk w bk br Q m0 m1 m2 m3 m4 s) {d : Nat} (hd : d < Q) (c : Nat) : Clk (w.setCell ⟨br, d, none⟩ (zI c)) bk br Q m0 m1 m2 m3 m4 (s.1, fun q => if q = d then c else s.2 q) ∧ FrB bk br w (w.setCell ⟨br, d, none⟩ (zI c)) := by
  have OS := oth_setCell w br d (zI c)
  have o : ∀ i, (w.setCell ⟨br, d, none⟩ (zI c)).cell? ⟨bk, i, none⟩ = w.cell? ⟨bk, i, none⟩ := fun i => OS.cell (by exact h.lk) (by exact h.ne)
  obtain ⟨k0, k1, k2, k3, k4⟩ := h.ms
  exact ⟨⟨⟨by rw [o 0]; exact k0, by rw [o 1]; exact k1, by rw [o 2]; exact k2, by rw [o 3]; exact k3, by rw [o 4]; exact k4⟩, by rw [o 5]; exact h.c5, by rw [o 6]; exact h.c6, by rw [World.frozen?_setCell]; exact h.f5, (h.row.set hd (c : Int)).congr (fun q _ => by
      by_cases e : q = d
      · simp [e]
      · simp [e]), by rw [csize_set]; exact h.lk, by rw [csize_set]; exact h.lr, h.ne⟩,
    ⟨OS.os, OS.tape, OS.output, OS.size, fun k h1 _ h3 => OS.block k h1 h3⟩⟩
end Go.Proofs.Yteabbkagekdehaa

