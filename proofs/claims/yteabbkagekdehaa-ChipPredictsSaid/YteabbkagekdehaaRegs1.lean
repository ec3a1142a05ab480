/- chip.Registers: its two closures. -/
import Derived.Test.YteabbkagekdehaaLives
import Derived.Deep.QuietTactic
import Derived.BigQuiet
set_option linter.unusedVariables false
set_option linter.unusedSimpArgs false
namespace Go.Proofs.Yteabbkagekdehaa
open Go.AE Go.RowKit Go.IntWalk
instance : Inhabited LifeV := ⟨⟨0, 0, 0, 0⟩⟩
def LF (L : List LifeV) (j : Nat) : Int := (L.getD j default).fr
def LT (L : List LifeV) (j : Nat) : Int := (L.getD j default).to
theorem lcells_get : ∀ (L : List LifeV) (j : Nat), j < L.length → (lcells L)[j * 4]? = some (.int .i64 (L.getD j default).node) ∧ (lcells L)[j * 4 + 1]? = some (.int .i64 (LF L j)) ∧ (lcells L)[j * 4 + 2]? = some (.int .i64 (LT L j)) ∧ (lcells L)[j * 4 + 3]? = some (.int .i64 (L.getD j default).size)
  | [], j, h => by simp at h
  | y :: L, 0, _ => ⟨rfl, rfl, rfl, rfl⟩
  | y :: L, j + 1, h => by
    have ih := lcells_get L j (by simpa using h)
    have e : ∀ i, (j + 1) * 4 + i = j * 4 + i + 1 + 1 + 1 + 1 := fun i => by omega
    have e0 := e 0
    simp only [Nat.add_zero] at e0
    rw [e 1, e 2, e 3, e0]
    exact ih
/-- the lives stand in block g -/
def LivesAt (g : Nat) (L : List LifeV) (w : World) : Prop := ∀ j, j < L.length → w.cell? ⟨g, j * 4, none⟩ = some (.int .i64 (L.getD j default).node) ∧ w.cell? ⟨g, j * 4 + 1, none⟩ = some (.int .i64 (LF L j)) ∧ w.cell? ⟨g, j * 4 + 2, none⟩ = some (.int .i64 (LT L j)) ∧ w.cell? ⟨g, j * 4 + 3, none⟩ = some (.int .i64 (L.getD j default).size)
theorem LivesAt.of_row {w : World} {base g cap : Nat} {L : List LifeV} (h : w.ownsRow base 57 4 (.slice (some ⟨g, 0, none⟩) L.length cap) L.length (lcells L)) : LivesAt g L w := fun j hj => by
  obtain ⟨h0, h1, h2, h3⟩ := lcells_get L j hj
  exact ⟨by rw [h.cellAt _ (by omega)]; exact h0, by rw [h.cellAt _ (by omega)]; exact h1, by rw [h.cellAt _ (by omega)]; exact h2, by rw [h.cellAt _ (by omega)]; exact h3⟩
theorem LivesAt.block {g : Nat} {L : List LifeV} {w w' : World} (h : LivesAt g L w) (hb : w'.heap[g]? = w.heap[g]?) : LivesAt g L w' := fun j hj => by
  obtain ⟨h0, h1, h2, h3⟩ := h j hj
  exact ⟨by rw [World.cell?_of_block (w := w) hb]; exact h0, by rw [World.cell?_of_block (w := w) hb]; exact h1, by rw [World.cell?_of_block (w := w) hb]; exact h2, by rw [World.cell?_of_block (w := w) hb]; exact h3⟩
theorem LF_ok {L : List LifeV} (hok : ∀ x ∈ L, x.ok) (j : Nat) : -1 ≤ LF L j ∧ LF L j ≤ 7 := by
  unfold LF
  by_cases h : j < L.length
  · have : L.getD j default ∈ L := by simp [List.getD, h]
    exact ⟨(hok _ this).1, (hok _ this).2.1⟩
  · have : L.getD j default = default := by simp [List.getD, List.getElem?_eq_none (Nat.le_of_not_lt h)]
    rw [this]; decide
theorem cmp_c {bl g cap : Nat} {L : List LifeV} {w : World} (hb : w.cell? ⟨bl, 0, none⟩ = some (.slice (some ⟨g, 0, none⟩) L.length cap)) (hl : LivesAt g L w) (hok : ∀ x ∈ L, x.ok) (x y : Nat) (hx : x < L.length) (hy : y < L.length) :
    Calls Try.prog 63 #[.int .i64 x, .int .i64 y, .pointer (some ⟨bl, 0, none⟩)] w fun e w' => e = .returned (.int .i64 (LF L x - LF L y)) ∧ ∃ q, w' = w.drewN q := by
  have hcx := (hl x hx).2.1
  have hcy := (hl y hy).2.1
  obtain ⟨x0, x1⟩ := LF_ok hok x
  obtain ⟨y0, y1⟩ := LF_ok hok y
  clear hl hok
  generalize LF L x = fx at *
  generalize LF L y = fy at *
  generalize L.length = n at *
  have bx : (x : Int) < (n : Int) := by omega
  have bY : (y : Int) < (n : Int) := by omega
  go_enter Try.func63, Try.ntmps63
  go_wp2
  go_quiet (fail)
  go_wp2
  go_ret
  exact ⟨rfl, _, rfl⟩
theorem pred_c {bo bi bl go g capo cap : Nat} {O : Nat → Int} {L : List LifeV} {w : World} {i j : Nat} (ho : w.cell? ⟨bo, 0, none⟩ = some (.slice (some ⟨go, 0, none⟩) L.length capo)) (hi : w.cell? ⟨bi, 0, none⟩ = some (.int .i64 i)) (hb : w.cell? ⟨bl, 0, none⟩ = some (.slice (some ⟨g, 0, none⟩) L.length cap))
    (hl : LivesAt g L w) (hO : ∀ t, t < L.length → w.cell? ⟨go, t, none⟩ = some (.int .i64 (O t))) (hin : i < L.length) (hjn : j < L.length) :
    Calls Try.prog 64 #[.int .i64 j, .pointer (some ⟨bo, 0, none⟩), .pointer (some ⟨bi, 0, none⟩), .pointer (some ⟨bl, 0, none⟩)] w fun e w' => e = .returned (.bool (decide (O j = O i) && decide (LF L i ≤ LT L j))) ∧ ∃ q, w' = w.drewN q := by
  have c1 := (hl i hin).2.1
  have c2 := (hl j hjn).2.2.1
  have c3 := hO i hin
  have c4 := hO j hjn
  clear hl hO
  generalize LF L i = fi at *
  generalize LT L j = tj at *
  generalize O i = oi at *
  generalize O j = oj at *
  generalize L.length = n at *
  have bx : (i : Int) < (n : Int) := by omega
  have bY : (j : Int) < (n : Int) := by omega
  by_cases h : oj = oi
  · subst h
    go_enter Try.func64, Try.ntmps64
    go_wp2
    go_quiet (fail)
    go_wp2
    go_ret
    exact ⟨by simp, _, rfl⟩
  · have hd : (oj == oi) = false := by simpa using h
    go_enter Try.func64, Try.ntmps64
    go_wp2
    go_quiet (fail)
    go_wp2
    go_ret
    exact ⟨by simp [h], _, rfl⟩
end Go.Proofs.Yteabbkagekdehaa
