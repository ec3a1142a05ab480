/- coder.op: an instruction, whatever the numbers. -/
import Derived.Test.YteabbkagekdehaaCodA
import Derived.Deep.LoopGhost
set_option linter.unusedVariables false
set_option linter.unusedSimpArgs false
namespace Go.Proofs.Yteabbkagekdehaa
open Go.AE Go.RowKit Go.IntWalk
/-- a result's block R and a variable's block X, of an instruction each -/
structure XF (s X R : Nat) (w : World) : Prop where
  lt : X < w.heap.size ∧ R < w.heap.size ∧ X ≠ s ∧ R ≠ s ∧ ¬ X = R ∧ ¬ R = X
  x : ∀ i, i < 9 → ∃ z, w.cell? ⟨X, i, none⟩ = some (.int .i64 z)
  r : ∀ i, i < 9 → ∃ z, w.cell? ⟨R, i, none⟩ = some z
  fx : ∀ i, w.frozen? ⟨X, i, none⟩ = false
  fr : ∀ i, w.frozen? ⟨R, i, none⟩ = false
theorem XF.oth {s X R : Nat} {w w' : World} (h : XF s X R w) (O : Oth s w w') : XF s X R w' := by
  have hl := h.lt
  have cx : ∀ i, w'.cell? ⟨X, i, none⟩ = w.cell? ⟨X, i, none⟩ := fun i => O.cell hl.1 hl.2.2.1
  have cr : ∀ i, w'.cell? ⟨R, i, none⟩ = w.cell? ⟨R, i, none⟩ := fun i => O.cell hl.2.1 hl.2.2.2.1
  exact ⟨⟨by have := O.size; omega, by have := O.size; omega, hl.2.2⟩, fun i hi => by rw [cx]; exact h.x i hi, fun i hi => by rw [cr]; exact h.r i hi, fun i => by rw [O.frozen (by exact hl.1) hl.2.2.1]; exact h.fx i, fun i => by rw [O.frozen (by exact hl.2.1) hl.2.2.2.1]; exact h.fr i⟩
theorem XF.set {s X R : Nat} {w : World} (h : XF s X R w) (j : Nat) (v : Int) : XF s X R (w.setCell ⟨X, j, none⟩ (.int .i64 v)) := by
  have hl := h.lt
  refine ⟨⟨by rw [csize_set]; exact hl.1, by rw [csize_set]; exact hl.2.1, hl.2.2⟩, fun i hi => ?_, fun i hi => ?_, fun i => by rw [World.frozen?_setCell]; exact h.fx i, fun i => by rw [World.frozen?_setCell]; exact h.fr i⟩
  · obtain ⟨z, hz⟩ := h.x i hi
    by_cases e : i = j
    · subst e; exact ⟨v, World.cell?_setCell_same _ _ _ hz⟩
    · exact ⟨z, by rw [World.cell?_setCell_other _ _ _ _ (fun e' => e (by cases e'; rfl))]; exact hz⟩
  · obtain ⟨z, hz⟩ := h.r i hi
    exact ⟨z, by rw [World.cell?_setCell_other _ _ _ _ (fun e' => hl.2.2.2.2.1 (by cases e'; rfl))]; exact hz⟩
theorem XF.alloc {s X R : Nat} {w : World} (h : XF s X R w) (o : Obj) : XF s X R (w.alloc o) := h.oth (Oth.of_below (below_alloc w o))
theorem XF.drew {s X R : Nat} {w : World} (h : XF s X R w) : XF s X R w.drew := ⟨h.lt, h.x, h.r, h.fx, h.fr⟩
/-- the stream, seen from w0 -/
structure PS (r : Raw) (n0 s : Nat) (w0 : World) (K : Nat) (w : World) : Prop where
  S : ∃ k, k ≤ K ∧ Strm r n0 s k w
  o : Oth s w0 w
  sl : s < w0.heap.size
section
variable {r : Raw} {n0 s b K : Nat} {w0 w : World}
theorem PS.start {k : Nat} (S : Strm r n0 s k w) : PS r n0 s w k w := ⟨⟨k, Nat.le_refl _, S⟩, Oth.refl _ _, S.lt⟩
theorem PS.below (h : PS r n0 s w0 K w) {w' : World} (O : Below w.heap.size w w') : PS r n0 s w0 K w' := by
  obtain ⟨k, hk, S⟩ := h.S
  exact ⟨⟨k, hk, S.below O⟩, h.o.trans (Oth.of_below O), h.sl⟩
theorem PS.alloc (h : PS r n0 s w0 K w) (o : Obj) : PS r n0 s w0 K (w.alloc o) := h.below (below_alloc w o)
theorem PS.drew (h : PS r n0 s w0 K w) : PS r n0 s w0 K w.drew := by
  obtain ⟨k, hk, S⟩ := h.S
  exact ⟨⟨k, hk, ⟨S.lo, S.l, S.at', S.fz, S.raw⟩⟩, ⟨h.o.os, h.o.tape, h.o.output, h.o.size, h.o.block⟩, h.sl⟩
theorem PS.mono (h : PS r n0 s w0 K w) {K' : Nat} (hK : K ≤ K') : PS r n0 s w0 K' w := by
  obtain ⟨k, hk, S⟩ := h.S
  exact ⟨⟨k, by omega, S⟩, h.o, h.sl⟩
theorem PS.set (h : PS r n0 s w0 K w) {X : Nat} (hX : w0.heap.size ≤ X) (j : Nat) (v : Value) : PS r n0 s w0 K (w.setCell ⟨X, j, none⟩ v) := by
  obtain ⟨k, hk, S⟩ := h.S
  have hbl : ∀ k, k ≠ X → (w.setCell ⟨X, j, none⟩ v).heap[k]? = w.heap[k]? := fun k hk => Below.heap_setCell _ _ _ _ (by exact hk)
  have := h.sl
  have := S.lo
  exact ⟨⟨k, hk, S.keep fun b hb => hbl b (by omega)⟩, ⟨h.o.os, h.o.tape, h.o.output, by rw [csize_set]; exact h.o.size, fun k h1 h2 => (hbl k (by omega)).trans (h.o.block k h1 h2)⟩, h.sl⟩
theorem PS.cell (h : PS r n0 s w0 K w) {b o : Nat} {v : Value} (hp : w0.cell? ⟨b, o, none⟩ = some v) (hb : b ≠ s) : w.cell? ⟨b, o, none⟩ = some v := by
  rw [h.o.cell (cell_lt hp) hb]; exact hp
theorem pnext (h : PS r n0 s w0 K w) (hK : K < 1000000) {m : Int} (h1 : 1 ≤ m) (h2 : m ≤ 4294967296) :
    Calls Try.prog 23 #[.pointer (some ⟨s, 0, none⟩), .int .i64 m] w fun e w' => ∃ v : Int, e = .returned (.int .i64 v) ∧ 0 ≤ v ∧ v < m ∧ PS r n0 s w0 (K + 1) w' ∧ Oth s w w' := by
  obtain ⟨k, hk, S⟩ := h.S
  refine (next_c S (by omega) h1 h2).mono ?_
  rintro e w' ⟨v, rfl, v0, v1, S1, O, hz⟩
  exact ⟨v, rfl, v0, v1, ⟨⟨k + 1, by omega, S1⟩, h.o.trans O, h.sl⟩, O⟩
theorem pflip (h : PS r n0 s w0 K w) (hK : K < 1000000) {m : Int} (h1 : 1 ≤ m) (h2 : m ≤ 4294967296) :
    Calls Try.prog 11 #[.pointer (some ⟨s, 0, none⟩), .int .i64 m] w fun e w' => ∃ v : Bool, e = .returned (.bool v) ∧ PS r n0 s w0 (K + 1) w' ∧ Oth s w w' := by
  obtain ⟨k, hk, S⟩ := h.S
  refine (flip_c S (by omega) h1 h2).mono ?_
  rintro e w' ⟨v, rfl, S1, O, hz⟩
  exact ⟨v, rfl, ⟨⟨k + 1, by omega, S1⟩, h.o.trans O, h.sl⟩, O⟩
theorem prange (h : PS r n0 s w0 K w) (hK : K < 1000000) {lo hi : Int} (h1 : lo ≤ hi) (h2 : -4294967296 ≤ lo) (h3 : hi ≤ 4294967296) (h4 : hi - lo < 4294967296) :
    Calls Try.prog 34 #[.pointer (some ⟨s, 0, none⟩), .int .i64 lo, .int .i64 hi] w fun e w' => ∃ v : Int, e = .returned (.int .i64 v) ∧ lo ≤ v ∧ v ≤ hi ∧ PS r n0 s w0 (K + 1) w' ∧ Oth s w w' := by
  obtain ⟨k, hk, S⟩ := h.S
  refine (range_c S (by omega) h1 h2 h3 h4).mono ?_
  rintro e w' ⟨v, rfl, v0, v1, S1, O, hz⟩
  exact ⟨v, rfl, v0, v1, ⟨⟨k + 1, by omega, S1⟩, h.o.trans O, h.sl⟩, O⟩
theorem ppick_n (h : PS r n0 s w0 K w) (hK : K < 1000000) {cs : Array Value} {m : Nat} (xs : List Int) (hm : xs.length = m) (h1 : 1 ≤ m) (h2 : m ≤ 1000) (hcs : (xs.map (Value.int .i64)).toArray = cs) :
    Calls Try.prog 9 #[.pointer (some ⟨s, 0, none⟩), .slice (some ⟨w.heap.size, 0, none⟩) m m] (w.alloc (.cells cs 3)) fun e w' => ∃ v : Int, e = .returned (.int .i64 v) ∧ v ∈ xs ∧ PS r n0 s w0 (K + 1) w' ∧ Oth s w w' := by
  obtain ⟨k, hk, S⟩ := h.S
  refine (pick_n xs S (by omega) hm h1 h2 hcs).mono ?_
  rintro e w' ⟨v, rfl, hv, S1, O⟩
  exact ⟨v, rfl, hv, ⟨⟨k + 1, by omega, S1⟩, h.o.trans O, h.sl⟩, O⟩
end
end Go.Proofs.Yteabbkagekdehaa
