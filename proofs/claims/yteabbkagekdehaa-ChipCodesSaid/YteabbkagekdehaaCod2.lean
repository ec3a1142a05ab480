/- The coder's methods that only take numbers: contracts over the state with its frame. -/
import Derived.Test.YteabbkagekdehaaCod1
set_option linter.unusedVariables false
set_option linter.unusedSimpArgs false
namespace Go.Proofs.Yteabbkagekdehaa
open Go.AE Go.RowKit Go.IntWalk
/-- the state, seen from w0 -/
structure CS (r : Raw) (n0 s b base : Nat) (l q st : Int) (w0 : World) (K n : Nat) (w : World) : Prop where
  c : Cod r n0 s b base K n l q st w
  o : Oth2 s b base w0 w
structure Bd (l q st : Int) : Prop where
  l1 : 1 ≤ l
  l8 : l ≤ 8
  q1 : 1 ≤ q
  q4 : q ≤ 4
  s0 : 0 ≤ st
  s16 : st ≤ 16
section
variable {r : Raw} {n0 s b base K n : Nat} {l q st : Int} {w0 w : World}
theorem CS.sz (h : CS r n0 s b base l q st w0 K n w) : base ≤ w.heap.size := h.c.lt.2.2.2.2
theorem CS.oth (h : CS r n0 s b base l q st w0 K n w) {k K' : Nat} {w' : World} (hk : k ≤ K') (S : Strm r n0 s k w') (O : Oth s w w') : CS r n0 s b base l q st w0 K' n w' :=
  ⟨h.c.oth hk S O, h.o.oth O (.inl rfl) h.sz⟩
theorem CS.below (h : CS r n0 s b base l q st w0 K n w) {w' : World} (O : Below w.heap.size w w') : CS r n0 s b base l q st w0 K n w' := ⟨h.c.below O, h.o.below O h.sz⟩
theorem CS.alloc (h : CS r n0 s b base l q st w0 K n w) (o : Obj) : CS r n0 s b base l q st w0 K n (w.alloc o) := h.below (below_alloc w o)
theorem CS.drew (h : CS r n0 s b base l q st w0 K n w) : CS r n0 s b base l q st w0 K n w.drew := ⟨h.c.drew, h.o.drew1⟩
theorem CS.mono (h : CS r n0 s b base l q st w0 K n w) {K' : Nat} (hK : K ≤ K') : CS r n0 s b base l q st w0 K' n w := ⟨h.c.mono hK, h.o⟩
theorem CS.h1 (h : CS r n0 s b base l q st w0 K n w) : w.cell? ⟨b, 0, none⟩ = some (.pointer (some ⟨s, 0, none⟩)) := h.c.cP
theorem CS.h2 (h : CS r n0 s b base l q st w0 K n w) : w.cell? ⟨b, 0, none⟩ = some (.pointer (some ⟨s, 0, none⟩)) ∧ w.cell? ⟨b, 5, none⟩ = some (.int .i64 q) := ⟨h.c.cP, h.c.cQ⟩
theorem CS.h3 (h : CS r n0 s b base l q st w0 K n w) : w.cell? ⟨b, 0, none⟩ = some (.pointer (some ⟨s, 0, none⟩)) ∧ w.cell? ⟨b, 4, none⟩ = some (.int .i64 l) := ⟨h.c.cP, h.c.cL⟩
theorem CS.h4 (h : CS r n0 s b base l q st w0 K n w) : w.cell? ⟨b, 0, none⟩ = some (.pointer (some ⟨s, 0, none⟩)) ∧ w.cell? ⟨b, 7, none⟩ = some (.int .i64 st) := ⟨h.c.cP, h.c.cS⟩
theorem cnext (h : CS r n0 s b base l q st w0 K n w) (hK : K < 1000000) {m : Int} (h1 : 1 ≤ m) (h2 : m ≤ 4294967296) :
    Calls Try.prog 23 #[.pointer (some ⟨s, 0, none⟩), .int .i64 m] w fun e w' => ∃ v : Int, e = .returned (.int .i64 v) ∧ 0 ≤ v ∧ v < m ∧ CS r n0 s b base l q st w0 (K + 1) n w' ∧ w'.heap.size = w.heap.size ∧ Oth s w w' := by
  obtain ⟨k, hk, S⟩ := h.c.S
  refine (next_c S (by omega) h1 h2).mono ?_
  rintro e w' ⟨v, rfl, v0, v1, S1, O, hz⟩
  exact ⟨v, rfl, v0, v1, h.oth (by omega) S1 O, hz, O⟩
theorem cflip (h : CS r n0 s b base l q st w0 K n w) (hK : K < 1000000) {m : Int} (h1 : 1 ≤ m) (h2 : m ≤ 4294967296) :
    Calls Try.prog 11 #[.pointer (some ⟨s, 0, none⟩), .int .i64 m] w fun e w' => ∃ v : Bool, e = .returned (.bool v) ∧ CS r n0 s b base l q st w0 (K + 1) n w' := by
  obtain ⟨k, hk, S⟩ := h.c.S
  refine (flip_c S (by omega) h1 h2).mono ?_
  rintro e w' ⟨v, rfl, S1, O, hz⟩
  exact ⟨v, rfl, h.oth (by omega) S1 O⟩
theorem crange (h : CS r n0 s b base l q st w0 K n w) (hK : K < 1000000) {lo hi : Int} (h1 : lo ≤ hi) (h2 : -4294967296 ≤ lo) (h3 : hi ≤ 4294967296) (h4 : hi - lo < 4294967296) :
    Calls Try.prog 34 #[.pointer (some ⟨s, 0, none⟩), .int .i64 lo, .int .i64 hi] w fun e w' => ∃ v : Int, e = .returned (.int .i64 v) ∧ lo ≤ v ∧ v ≤ hi ∧ CS r n0 s b base l q st w0 (K + 1) n w' ∧ w'.heap.size = w.heap.size ∧ Oth s w w' := by
  obtain ⟨k, hk, S⟩ := h.c.S
  refine (range_c S (by omega) h1 h2 h3 h4).mono ?_
  rintro e w' ⟨v, rfl, v0, v1, S1, O, hz⟩
  exact ⟨v, rfl, v0, v1, h.oth (by omega) S1 O, hz, O⟩
/-- Pick at a list of ints that lies anywhere above -/
theorem cpick (h : CS r n0 s b base l q st w0 K n w) (hK : K < 1000000) {B m : Nat} (hB : base ≤ B) (h1 : 1 ≤ m) (h2 : m ≤ 1000) (hx : ∀ i, i < m → ∃ z, w.cell? ⟨B, i, none⟩ = some (.int .i64 z)) :
    Calls Try.prog 9 #[.pointer (some ⟨s, 0, none⟩), .slice (some ⟨B, 0, none⟩) m m] w fun e w' => ∃ v : Int, e = .returned (.int .i64 v) ∧ CS r n0 s b base l q st w0 (K + 1) n w' ∧ w'.heap.size = w.heap.size ∧ Oth s w w' := by
  obtain ⟨k, hk, S⟩ := h.c.S
  have hlt := h.c.lt
  obtain ⟨f, hf⟩ : ∃ f : Nat → Int, ∀ i, i < m → w.cell? ⟨B, i, none⟩ = some (.int .i64 (f i)) :=
    ⟨fun i => if hi : i < m then (hx i hi).choose else 0, fun i hi => by simp only [dif_pos hi]; exact (hx i hi).choose_spec⟩
  have hl : ((List.range m).map f).length = m := by simp
  have hp := pick_c (cap := m) ((List.range m).map f) S (by omega) (by omega) (by omega) (b := B) (by omega) (fun i hi => by rw [hf i (by omega)]; simp [List.getD, show i < m by omega])
  rw [hl] at hp
  refine hp.mono ?_
  rintro e w' ⟨v, rfl, hv, S1, O, hz⟩
  exact ⟨v, rfl, h.oth (by omega) S1 O, hz, O⟩
/-- Pick at a list that is written out -/
theorem cpick_n (h : CS r n0 s b base l q st w0 K n w) (hK : K < 1000000) {cs : Array Value} {m : Nat} (xs : List Int) (hm : xs.length = m) (h1 : 1 ≤ m) (h2 : m ≤ 1000) (hcs : (xs.map (Value.int .i64)).toArray = cs) :
    Calls Try.prog 9 #[.pointer (some ⟨s, 0, none⟩), .slice (some ⟨w.heap.size, 0, none⟩) m m] (w.alloc (.cells cs 3)) fun e w' => ∃ v : Int, e = .returned (.int .i64 v) ∧ v ∈ xs ∧ CS r n0 s b base l q st w0 (K + 1) n w' := by
  obtain ⟨k, hk, S⟩ := h.c.S
  refine (pick_n xs S (by omega) hm h1 h2 hcs).mono ?_
  rintro e w' ⟨v, rfl, hv, S1, O⟩
  exact ⟨v, rfl, hv, h.oth (by omega) S1 O⟩
theorem cadd (h : CS r n0 s b base l q st w0 K n w) (hn : n ≤ 100000) (x0 x1 x2 x3 x4 x5 x6 x7 x8 : Int) :
    Calls Try.prog 82 #[.pointer (some ⟨b, 0, none⟩), .agg #[.int .i64 x0, .int .i64 x1, .int .i64 x2, .int .i64 x3, .int .i64 x4, .int .i64 x5, .int .i64 x6, .int .i64 x7, .int .i64 x8]] w fun e w' => e = .returned (.tuple #[]) ∧ CS r n0 s b base l q st w0 K (n + 1) w' := by
  refine (add_c h.c hn x0 x1 x2 x3 x4 x5 x6 x7 x8).mono ?_
  rintro e w' ⟨rfl, C, O⟩
  exact ⟨rfl, C, h.o.trans O⟩
set_option maxRecDepth 10000 in
theorem creg (h : CS r n0 s b base l q st w0 K n w) (hK : K < 1000000) :
    Calls Try.prog 102 #[.pointer (some ⟨b, 0, none⟩)] w fun e w' => ∃ v : Int, e = .returned (.int .i64 v) ∧ CS r n0 s b base l q st w0 (K + 1) n w' := by
  have hP := h.h1
  go_enter Try.func102, Try.ntmps102
  go_wp2_with fail
  refine (cpick_n (m := 9) h hK [0, 1, 1, 2, 2, 3, 4, 5, 15] rfl (by decide) (by decide) rfl).mono ?_
  rintro e w' ⟨v, rfl, hv, h'⟩
  clear hv
  go_wp2_with fail
  go_ret
  exact ⟨v, rfl, h'⟩
set_option maxRecDepth 10000 in
theorem cword (h : CS r n0 s b base l q st w0 K n w) (hK : K < 900000) :
    Calls Try.prog 99 #[.pointer (some ⟨s, 0, none⟩)] w fun e w' => ∃ v : Int, e = .returned (.int .i64 v) ∧ CS r n0 s b base l q st w0 (K + 3) n w' := by
  go_enter Try.func99, Try.ntmps99
  go_wp2_with fail
  refine (cnext h (by omega) (by omega) (by omega)).mono ?_
  rintro e w1 ⟨v, rfl, v0, v1, h1, -, -⟩
  clear h
  go_wp2_with fail
  · refine (cnext h1 (by omega) (by omega) (by omega)).mono ?_
    rintro e w2 ⟨x, rfl, x0, x1, h2, -, -⟩
    go_wp2_with fail
    go_ret
    exact ⟨_, rfl, h2.mono (by omega)⟩
  · refine (cnext h1 (by omega) (by omega) (by omega)).mono ?_
    rintro e w2 ⟨x, rfl, x0, x1, h2, -, -⟩
    go_wp2_with fail
    go_ret
    exact ⟨_, rfl, h2.mono (by omega)⟩
  · refine (cnext h1 (by omega) (by omega) (by omega)).mono ?_
    rintro e w2 ⟨x, rfl, x0, x1, h2, -, -⟩
    go_wp2_with fail
    refine (cnext h2 (by omega) (by omega) (by omega)).mono ?_
    rintro e w3 ⟨y, rfl, y0, y1, h3, -, -⟩
    go_wp2_with fail
    go_ret
    exact ⟨_, rfl, h3⟩
  · refine (crange h1 (by omega) (by omega) (by omega) (by omega) (by omega)).mono ?_
    rintro e w2 ⟨x, rfl, x0, x1, h2, -, -⟩
    go_wp2_with fail
    go_ret
    exact ⟨_, rfl, h2.mono (by omega)⟩
theorem operands_c (k : Int) (w : World) : Calls Try.prog 119 #[.int .i64 k] w fun e w' => w' = w ∧ e = .returned (.int .i64 (if k = 15 then 3 else if k ≥ 11 then 1 else 2)) := by
  go_enter Try.func119, Try.ntmps119
  go_wp2_with fail
  all_goals go_ret
  all_goals simp_all
  all_goals omega
end
end Go.Proofs.Yteabbkagekdehaa
