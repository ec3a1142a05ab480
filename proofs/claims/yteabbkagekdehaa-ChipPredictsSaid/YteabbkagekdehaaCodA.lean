/- The coder's state, and 'add'. -/
import Derived.Test.YteabbkagekdehaaRegMain
import Derived.Test.YteabbkagekdehaaPack2
import Derived.Deep.AppendLies
import Derived.Deep.RegionHeld3
import Derived.Deep.CutRange
section
set_option linter.unusedVariables false
set_option linter.unusedSimpArgs false
namespace Go.Proofs.Yteabbkagekdehaa
open Go.AE Go.RowKit Go.IntWalk
theorem info29 : (Try.prog.info? 29).map (fun i => (i.zero, i.size, i.bytes)) = some (some (.agg #[.int .i64 0, .int .i64 0, .int .i64 0, .int .i64 0, .int .i64 0, .int .i64 0, .int .i64 0, .int .i64 0, .int .i64 0]), 9, 72) := by kernel_rfl
def zcells (L : List Int) : List Value := L.map (Value.int .i64)
/-- the coder's state -/
structure Cod (r : Raw) (n0 s b base K n : Nat) (l q st : Int) (w : World) : Prop where
  S : ∃ k, k ≤ K ∧ Strm r n0 s k w
  lt : n0 ≤ b ∧ s ≠ b ∧ s < base ∧ b < base ∧ base ≤ w.heap.size
  cP : w.cell? ⟨b, 0, none⟩ = some (.pointer (some ⟨s, 0, none⟩))
  cL : w.cell? ⟨b, 4, none⟩ = some (.int .i64 l)
  cQ : w.cell? ⟨b, 5, none⟩ = some (.int .i64 q)
  row : ∃ a cap zs, w.cell? ⟨b, 6, none⟩ = some (.slice a n cap) ∧ w.ownsRow base 29 9 (.slice a n cap) n (zcells zs)
  cS : w.cell? ⟨b, 7, none⟩ = some (.int .i64 st)
  fz : ∀ o, w.frozen? ⟨b, o, none⟩ = false
/-- the bounds of what the coder holds -/
structure CodB (l q st : Int) (n : Nat) : Prop where
  l1 : 1 ≤ l
  l8 : l ≤ 8
  q1 : 1 ≤ q
  q4 : q ≤ 4
  s0 : 0 ≤ st
  s16 : st ≤ 16
  n : n ≤ 100000
section
variable {r : Raw} {n0 s b base K n : Nat} {l q st : Int} {w : World}
theorem Cod.oth (h : Cod r n0 s b base K n l q st w) {k K' : Nat} {w' : World} (hk : k ≤ K') (S : Strm r n0 s k w') (O : Oth s w w') : Cod r n0 s b base K' n l q st w' := by
  obtain ⟨a, cap, zs, q1, q2⟩ := h.row
  have hb : b < w.heap.size := by have := h.lt; omega
  have hbs : b ≠ s := fun e => h.lt.2.1 e.symm
  have c : ∀ o, w'.cell? ⟨b, o, none⟩ = w.cell? ⟨b, o, none⟩ := fun o => O.cell hb hbs
  exact ⟨⟨k, hk, S⟩, ⟨h.lt.1, h.lt.2.1, h.lt.2.2.1, h.lt.2.2.2.1, by have := h.lt.2.2.2.2; have := O.size; omega⟩, by rw [c]; exact h.cP, by rw [c]; exact h.cL, by rw [c]; exact h.cQ,
    ⟨a, cap, zs, by rw [c]; exact q1, ownsRow_oth q2 O h.lt.2.2.1⟩, by rw [c]; exact h.cS, fun o => by rw [O.frozen hb hbs]; exact h.fz o⟩
theorem Cod.below (h : Cod r n0 s b base K n l q st w) {w' : World} (O : Below w.heap.size w w') : Cod r n0 s b base K n l q st w' := by
  obtain ⟨k, hk, S⟩ := h.S
  exact h.oth hk (S.below O) (Oth.of_below O)
theorem Cod.mono (h : Cod r n0 s b base K n l q st w) {K' : Nat} (hK : K ≤ K') : Cod r n0 s b base K' n l q st w := by
  obtain ⟨k, hk, S⟩ := h.S
  exact ⟨⟨k, by omega, S⟩, h.lt, h.cP, h.cL, h.cQ, h.row, h.cS, h.fz⟩
theorem csize_set (w : World) (a : Addr) (v : Value) : (w.setCell a v).heap.size = w.heap.size := by simp [World.setCell]
theorem Cod.drew (h : Cod r n0 s b base K n l q st w) : Cod r n0 s b base K n l q st w.drew := ⟨by obtain ⟨k, hk, S⟩ := h.S; exact ⟨k, hk, ⟨S.lo, S.l, S.at', S.fz, S.raw⟩⟩, h.lt, h.cP, h.cL, h.cQ, h.row, h.cS, h.fz⟩
theorem Oth2.oth {a b' : World} {p g base : Nat} (h : Oth2 p g base a b') {s : Nat} {c : World} (O : Oth s b' c) (hs : s = p ∨ s = g ∨ base ≤ s) (hb : base ≤ b'.heap.size) : Oth2 p g base a c :=
  ⟨O.os.trans h.os, O.tape.trans h.tape, O.output.trans h.output, Nat.le_trans h.size O.size, fun k h1 h2 h3 => (O.block k (by omega) (by omega)).trans (h.block k h1 h2 h3)⟩
theorem Oth2.below {a b' c : World} {p g base : Nat} (h : Oth2 p g base a b') (O : Below b'.heap.size b' c) (hb : base ≤ b'.heap.size) : Oth2 p g base a c :=
  ⟨O.os.trans h.os, O.tape.trans h.tape, O.output.trans h.output, Nat.le_trans h.size O.size, fun k h1 h2 h3 => (O.block k (by omega)).trans (h.block k h1 h2 h3)⟩
theorem Oth2.drew1 {a b : World} {p g base : Nat} (h : Oth2 p g base a b) : Oth2 p g base a b.drew := ⟨h.os, h.tape, h.output, h.size, h.block⟩
theorem Oth2.of_oth {s : Nat} {w c : World} {p g base : Nat} (O : Oth s w c) (hs : s = p ∨ s = g ∨ base ≤ s) (hb : base ≤ w.heap.size) : Oth2 p g base w c := (Oth2.refl p g base w).oth O hs hb
end
def instr (x0 x1 x2 x3 x4 x5 x6 x7 x8 : Int) : Value := .agg #[.int .i64 x0, .int .i64 x1, .int .i64 x2, .int .i64 x3, .int .i64 x4, .int .i64 x5, .int .i64 x6, .int .i64 x7, .int .i64 x8]
set_option maxHeartbeats 2000000 in
set_option maxRecDepth 10000 in
theorem add_c {r : Raw} {n0 s b base K n : Nat} {l q st : Int} {w : World} (h : Cod r n0 s b base K n l q st w) (hn : n ≤ 100000) (x0 x1 x2 x3 x4 x5 x6 x7 x8 : Int) :
    Calls Try.prog 82 #[.pointer (some ⟨b, 0, none⟩), .agg #[.int .i64 x0, .int .i64 x1, .int .i64 x2, .int .i64 x3, .int .i64 x4, .int .i64 x5, .int .i64 x6, .int .i64 x7, .int .i64 x8]] w fun e w' => e = .returned (.tuple #[]) ∧ Cod r n0 s b base K (n + 1) l q st w' ∧ Oth2 s b base w w' := by
  obtain ⟨i0, hi, hz0, hz1, hz2⟩ := info_parts info29
  obtain ⟨a, cap, zs, c6, hown⟩ := h.row
  have hb : b < w.heap.size := by have := h.lt; omega
  have c6' : ∀ cs e, (w.alloc (.cells cs e)).cell? ⟨b, 6, none⟩ = some (.slice a n cap) := fun cs e => by rw [(below_alloc w _).cell hb]; exact c6
  have hbs := h.lt.2.2.2.2
  have hlt := h.lt
  have hrow : ∀ k, (Value.slice a n cap).ownBlock = some k → base ≤ k := fun k hk => (hown.lt k hk).1
  have FIN : Hid (∀ (o1 o2 : Obj) (w1 : World) (g cap' : Nat), w1.ownsRow base 29 9 (.slice (some ⟨g, 0, none⟩) (n + 1) cap') (n + 1) (zcells zs ++ zcells [x0, x1, x2, x3, x4, x5, x6, x7, x8]) → ((w.alloc o1).alloc o2).drew.grownBy w1 (Value.slice a n cap).ownBlock → base ≤ g →
      w1.cell? ⟨b, 6, none⟩ = some (.slice a n cap) ∧ w1.frozen? ⟨b, 6, none⟩ = false ∧ Cod r n0 s b base K (n + 1) l q st (w1.setCell ⟨b, 6, none⟩ (.slice (some ⟨g, 0, none⟩) (n + 1) cap')) ∧ Oth2 s b base w (w1.setCell ⟨b, 6, none⟩ (.slice (some ⟨g, 0, none⟩) (n + 1) cap'))) := by
    intro o1 o2 w1 g cap' hown1 hg hgb
    have hg : ((w.alloc o1).alloc o2).grownBy w1 (Value.slice a n cap).ownBlock := ⟨hg.os, hg.tape, hg.output, hg.size, hg.block⟩
    have h2 : Cod r n0 s b base K n l q st ((w.alloc o1).alloc o2) := (h.below (below_alloc w _)).below (below_alloc _ _)
    have hsz : ((w.alloc o1).alloc o2).heap.size = w.heap.size + 2 := by simp
    have hbl : ∀ k, k < base → w1.heap[k]? = ((w.alloc o1).alloc o2).heap[k]? := fun k hk => hg.block k (by omega) (fun e => by have := hrow k e.symm; omega)
    have hbl' : ∀ k, k < base → k ≠ b → (w1.setCell ⟨b, 6, none⟩ (.slice (some ⟨g, 0, none⟩) (n + 1) cap')).heap[k]? = ((w.alloc o1).alloc o2).heap[k]? := fun k hk hkb => by rw [Below.heap_setCell _ _ _ _ (by exact hkb)]; exact hbl k hk
    have c : ∀ o, o ≠ 6 → (w1.setCell ⟨b, 6, none⟩ (.slice (some ⟨g, 0, none⟩) (n + 1) cap')).cell? ⟨b, o, none⟩ = ((w.alloc o1).alloc o2).cell? ⟨b, o, none⟩ := fun o ho => by
      rw [World.cell?_setCell_other _ _ _ _ (fun e => ho (by cases e; rfl))]; exact World.cell?_of_block (hbl b (by omega))
    have c6'' : w1.cell? ⟨b, 6, none⟩ = some (.slice a n cap) := by rw [World.cell?_of_block (hbl b (by omega)), (below_alloc _ _).cell (by simp; exact Nat.lt_succ_of_lt hb), (below_alloc _ _).cell (by exact hb)]; exact c6
    obtain ⟨k, hk, S⟩ := h2.S
    have hs1 := hg.size
    refine ⟨c6'', by rw [World.frozen?_of_block (hbl b (by omega))]; exact h2.fz 6, ⟨⟨k, hk, S.keep fun b' hb' => hbl' b' (by omega) (by omega)⟩, ⟨hlt.1, hlt.2.1, hlt.2.2.1, hlt.2.2.2.1, ?_⟩, ?_, ?_, ?_, ⟨some ⟨g, 0, none⟩, cap', zs ++ [x0, x1, x2, x3, x4, x5, x6, x7, x8], World.cell?_setCell_same _ _ _ c6'', ?_⟩, ?_, fun o => ?_⟩, ?_, ?_, ?_, ?_, fun k hk hks hkb => ?_⟩
    · rw [csize_set]; omega
    · rw [c _ (by decide)]; exact h2.cP
    · rw [c _ (by decide)]; exact h2.cL
    · rw [c _ (by decide)]; exact h2.cQ
    · obtain ⟨q1, q2⟩ := hown1
      have q1' := q1
      rw [show zcells (zs ++ [x0, x1, x2, x3, x4, x5, x6, x7, x8]) = zcells zs ++ zcells [x0, x1, x2, x3, x4, x5, x6, x7, x8] by simp [zcells]]
      refine ⟨q1, ?_⟩
      rcases q2 with q2 | ⟨g', cap2, cur, hv, hgg, hh, rr⟩
      · exact .inl q2
      · refine .inr ⟨g', cap2, cur, hv, hgg, ?_, rr⟩
        rw [Below.heap_setCell _ _ _ _ (by show g' ≠ b; omega)]; exact hh
    · rw [c _ (by decide)]; exact h2.cS
    · rw [World.frozen?_setCell, World.frozen?_of_block (hbl b (by omega))]; exact h2.fz o
    · exact hg.os
    · exact hg.tape
    · exact hg.output
    · rw [csize_set]; omega
    · rw [hbl' k hk hkb, (below_alloc _ _).block k (by simp; omega), (below_alloc _ _).block k (by omega)]
  clear hlt h
  have H63 : n + 1 ≤ maxLen := by unfold maxLen; omega
  have Hby : (n + 1) * 72 ≤ 140737488355328 := by omega
  have Hsz : Hid (∀ o1 o2, base ≤ ((w.alloc o1).alloc o2).drew.heap.size ∧ ((w.alloc o1).alloc o2).drew.heap.size = w.heap.size + 2) := fun o1 o2 => by
    have e : ((w.alloc o1).alloc o2).drew.heap.size = w.heap.size + 2 := by show ((w.alloc o1).alloc o2).heap.size = _; simp
    exact ⟨by omega, e⟩
  have HN : Hid (∀ o1, ∀ j u, (zcells [x0, x1, x2, x3, x4, x5, x6, x7, x8])[j]? = some u → ((w.alloc o1).alloc (.cells #[.int .i64 x0, .int .i64 x1, .int .i64 x2, .int .i64 x3, .int .i64 x4, .int .i64 x5, .int .i64 x6, .int .i64 x7, .int .i64 x8] 29)).drew.cell? ((⟨w.heap.size + 1, 0, none⟩ : Addr).add j) = some u) := fun o1 =>
    World.news_of_block (w := ((w.alloc o1).alloc (.cells #[.int .i64 x0, .int .i64 x1, .int .i64 x2, .int .i64 x3, .int .i64 x4, .int .i64 x5, .int .i64 x6, .int .i64 x7, .int .i64 x8] 29)).drew) (cs := #[.int .i64 x0, .int .i64 x1, .int .i64 x2, .int .i64 x3, .int .i64 x4, .int .i64 x5, .int .i64 x6, .int .i64 x7, .int .i64 x8]) (t := 29) (fr := (0, 0)) (by
      have e := heap_alloc_new (w.alloc o1) (.cells #[.int .i64 x0, .int .i64 x1, .int .i64 x2, .int .i64 x3, .int .i64 x4, .int .i64 x5, .int .i64 x6, .int .i64 x7, .int .i64 x8] 29)
      have e2 : (w.alloc o1).heap.size = w.heap.size + 1 := by simp
      rw [e2] at e
      exact e)
  have HO : Hid (∀ u ∈ zcells [x0, x1, x2, x3, x4, x5, x6, x7, x8], u.oneCell' = true) := by simp [Hid, zcells, Value.oneCell']
  go_enter Try.func82, Try.ntmps82
  go_wp2_with fail
  go_region_law (first
    | (refine step_append_lies _ rfl (.tmp 8) (.tmp 10) 26 rfl base 29 i0 _ 9 72 Try.underlying26 hi hz0 hz1 hz2 rfl (by decide) _ n _ rfl (by exact (hown.alloc _).alloc _) ⟨w.heap.size + 1, 0, none⟩ 1 1 (zcells [x0, x1, x2, x3, x4, x5, x6, x7, x8]) rfl rfl (HN.out _) HO.out (by decide) H63 Hby (Hsz.out _ _).1 (w.heap.size + 2) (Hsz.out _ _).2 ?_
       intro g cap' w1 hown1 hgrow hat hlt
       have hgb : base ≤ g := hat.elim (fun e => hrow g e) (fun e => Nat.le_trans (Nat.le_trans hbs (Nat.le_add_right _ 2)) (Nat.le_of_eq e.symm))
       obtain ⟨d6, f6, FF⟩ := FIN.out _ _ w1 g cap' hown1 hgrow hgb
       have HFF : Hid _ := FF
       clear FF hown1 hgrow hat))
  all_goals go_wp2_with fail
  all_goals go_end0
  all_goals exact ⟨rfl, HFF.out⟩
end Go.Proofs.Yteabbkagekdehaa
end
section
/- The coder's methods that only take numbers: contracts over the state with its frame. -/
set_option linter.unusedVariables false
set_option linter.unusedSimpArgs false
namespace Go.Proofs.Yteabbkagekdehaa
open Go.AE Go.RowKit Go.IntWalk
/-- the state, seen from w0 -/
structure CS (r : Raw) (n0 s b base : Nat) (l q st : Int) (w0 : World) (K n : Nat) (w : World) : Prop where
  c : Cod r n0 s b base K n l q st w
  o : Oth2 s b base w0 w
structure Bd (l q st : Int) : Prop where
  l1 : 1 ≤ l
  l8 : l ≤ 8
  q1 : 1 ≤ q
  q4 : q ≤ 4
  s0 : 0 ≤ st
  s16 : st ≤ 16
section
variable {r : Raw} {n0 s b base K n : Nat} {l q st : Int} {w0 w : World}
theorem CS.sz (h : CS r n0 s b base l q st w0 K n w) : base ≤ w.heap.size := h.c.lt.2.2.2.2
theorem CS.oth (h : CS r n0 s b base l q st w0 K n w) {k K' : Nat} {w' : World} (hk : k ≤ K') (S : Strm r n0 s k w') (O : Oth s w w') : CS r n0 s b base l q st w0 K' n w' :=
  ⟨h.c.oth hk S O, h.o.oth O (.inl rfl) h.sz⟩
theorem CS.below (h : CS r n0 s b base l q st w0 K n w) {w' : World} (O : Below w.heap.size w w') : CS r n0 s b base l q st w0 K n w' := ⟨h.c.below O, h.o.below O h.sz⟩
theorem CS.alloc (h : CS r n0 s b base l q st w0 K n w) (o : Obj) : CS r n0 s b base l q st w0 K n (w.alloc o) := h.below (below_alloc w o)
theorem CS.drew (h : CS r n0 s b base l q st w0 K n w) : CS r n0 s b base l q st w0 K n w.drew := ⟨h.c.drew, h.o.drew1⟩
theorem CS.mono (h : CS r n0 s b base l q st w0 K n w) {K' : Nat} (hK : K ≤ K') : CS r n0 s b base l q st w0 K' n w := ⟨h.c.mono hK, h.o⟩
theorem CS.h1 (h : CS r n0 s b base l q st w0 K n w) : w.cell? ⟨b, 0, none⟩ = some (.pointer (some ⟨s, 0, none⟩)) := h.c.cP
theorem CS.h2 (h : CS r n0 s b base l q st w0 K n w) : w.cell? ⟨b, 0, none⟩ = some (.pointer (some ⟨s, 0, none⟩)) ∧ w.cell? ⟨b, 5, none⟩ = some (.int .i64 q) := ⟨h.c.cP, h.c.cQ⟩
theorem CS.h3 (h : CS r n0 s b base l q st w0 K n w) : w.cell? ⟨b, 0, none⟩ = some (.pointer (some ⟨s, 0, none⟩)) ∧ w.cell? ⟨b, 4, none⟩ = some (.int .i64 l) := ⟨h.c.cP, h.c.cL⟩
theorem CS.h4 (h : CS r n0 s b base l q st w0 K n w) : w.cell? ⟨b, 0, none⟩ = some (.pointer (some ⟨s, 0, none⟩)) ∧ w.cell? ⟨b, 7, none⟩ = some (.int .i64 st) := ⟨h.c.cP, h.c.cS⟩
theorem cnext (h : CS r n0 s b base l q st w0 K n w) (hK : K < 1000000) {m : Int} (h1 : 1 ≤ m) (h2 : m ≤ 4294967296) :
    Calls Try.prog 23 #[.pointer (some ⟨s, 0, none⟩), .int .i64 m] w fun e w' => ∃ v : Int, e = .returned (.int .i64 v) ∧ 0 ≤ v ∧ v < m ∧ CS r n0 s b base l q st w0 (K + 1) n w' ∧ w'.heap.size = w.heap.size ∧ Oth s w w' := by
  obtain ⟨k, hk, S⟩ := h.c.S
  refine (next_c S (by omega) h1 h2).mono ?_
  rintro e w' ⟨v, rfl, v0, v1, S1, O, hz⟩
  exact ⟨v, rfl, v0, v1, h.oth (by omega) S1 O, hz, O⟩
theorem cflip (h : CS r n0 s b base l q st w0 K n w) (hK : K < 1000000) {m : Int} (h1 : 1 ≤ m) (h2 : m ≤ 4294967296) :
    Calls Try.prog 11 #[.pointer (some ⟨s, 0, none⟩), .int .i64 m] w fun e w' => ∃ v : Bool, e = .returned (.bool v) ∧ CS r n0 s b base l q st w0 (K + 1) n w' := by
  obtain ⟨k, hk, S⟩ := h.c.S
  refine (flip_c S (by omega) h1 h2).mono ?_
  rintro e w' ⟨v, rfl, S1, O, hz⟩
  exact ⟨v, rfl, h.oth (by omega) S1 O⟩
theorem crange (h : CS r n0 s b base l q st w0 K n w) (hK : K < 1000000) {lo hi : Int} (h1 : lo ≤ hi) (h2 : -4294967296 ≤ lo) (h3 : hi ≤ 4294967296) (h4 : hi - lo < 4294967296) :
    Calls Try.prog 34 #[.pointer (some ⟨s, 0, none⟩), .int .i64 lo, .int .i64 hi] w fun e w' => ∃ v : Int, e = .returned (.int .i64 v) ∧ lo ≤ v ∧ v ≤ hi ∧ CS r n0 s b base l q st w0 (K + 1) n w' ∧ w'.heap.size = w.heap.size ∧ Oth s w w' := by
  obtain ⟨k, hk, S⟩ := h.c.S
  refine (range_c S (by omega) h1 h2 h3 h4).mono ?_
  rintro e w' ⟨v, rfl, v0, v1, S1, O, hz⟩
  exact ⟨v, rfl, v0, v1, h.oth (by omega) S1 O, hz, O⟩
/-- Pick at a list of ints that lies anywhere above -/
theorem cpick (h : CS r n0 s b base l q st w0 K n w) (hK : K < 1000000) {B m : Nat} (hB : base ≤ B) (h1 : 1 ≤ m) (h2 : m ≤ 1000) (hx : ∀ i, i < m → ∃ z, w.cell? ⟨B, i, none⟩ = some (.int .i64 z)) :
    Calls Try.prog 9 #[.pointer (some ⟨s, 0, none⟩), .slice (some ⟨B, 0, none⟩) m m] w fun e w' => ∃ v : Int, e = .returned (.int .i64 v) ∧ CS r n0 s b base l q st w0 (K + 1) n w' ∧ w'.heap.size = w.heap.size ∧ Oth s w w' := by
  obtain ⟨k, hk, S⟩ := h.c.S
  have hlt := h.c.lt
  obtain ⟨f, hf⟩ : ∃ f : Nat → Int, ∀ i, i < m → w.cell? ⟨B, i, none⟩ = some (.int .i64 (f i)) :=
    ⟨fun i => if hi : i < m then (hx i hi).choose else 0, fun i hi => by simp only [dif_pos hi]; exact (hx i hi).choose_spec⟩
  have hl : ((List.range m).map f).length = m := by simp
  have hp := pick_c (cap := m) ((List.range m).map f) S (by omega) (by omega) (by omega) (b := B) (by omega) (fun i hi => by rw [hf i (by omega)]; simp [List.getD, show i < m by omega])
  rw [hl] at hp
  refine hp.mono ?_
  rintro e w' ⟨v, rfl, hv, S1, O, hz⟩
  exact ⟨v, rfl, h.oth (by omega) S1 O, hz, O⟩
/-- Pick at a list that is written out -/
theorem cpick_n (h : CS r n0 s b base l q st w0 K n w) (hK : K < 1000000) {cs : Array Value} {m : Nat} (xs : List Int) (hm : xs.length = m) (h1 : 1 ≤ m) (h2 : m ≤ 1000) (hcs : (xs.map (Value.int .i64)).toArray = cs) :
    Calls Try.prog 9 #[.pointer (some ⟨s, 0, none⟩), .slice (some ⟨w.heap.size, 0, none⟩) m m] (w.alloc (.cells cs 3)) fun e w' => ∃ v : Int, e = .returned (.int .i64 v) ∧ v ∈ xs ∧ CS r n0 s b base l q st w0 (K + 1) n w' := by
  obtain ⟨k, hk, S⟩ := h.c.S
  refine (pick_n xs S (by omega) hm h1 h2 hcs).mono ?_
  rintro e w' ⟨v, rfl, hv, S1, O⟩
  exact ⟨v, rfl, hv, h.oth (by omega) S1 O⟩
theorem cadd (h : CS r n0 s b base l q st w0 K n w) (hn : n ≤ 100000) (x0 x1 x2 x3 x4 x5 x6 x7 x8 : Int) :
    Calls Try.prog 82 #[.pointer (some ⟨b, 0, none⟩), .agg #[.int .i64 x0, .int .i64 x1, .int .i64 x2, .int .i64 x3, .int .i64 x4, .int .i64 x5, .int .i64 x6, .int .i64 x7, .int .i64 x8]] w fun e w' => e = .returned (.tuple #[]) ∧ CS r n0 s b base l q st w0 K (n + 1) w' := by
  refine (add_c h.c hn x0 x1 x2 x3 x4 x5 x6 x7 x8).mono ?_
  rintro e w' ⟨rfl, C, O⟩
  exact ⟨rfl, C, h.o.trans O⟩
set_option maxRecDepth 10000 in
theorem creg (h : CS r n0 s b base l q st w0 K n w) (hK : K < 1000000) :
    Calls Try.prog 102 #[.pointer (some ⟨b, 0, none⟩)] w fun e w' => ∃ v : Int, e = .returned (.int .i64 v) ∧ CS r n0 s b base l q st w0 (K + 1) n w' := by
  have hP := h.h1
  go_enter Try.func102, Try.ntmps102
  go_wp2_with fail
  refine (cpick_n (m := 9) h hK [0, 1, 1, 2, 2, 3, 4, 5, 15] rfl (by decide) (by decide) rfl).mono ?_
  rintro e w' ⟨v, rfl, hv, h'⟩
  clear hv
  go_wp2_with fail
  go_ret
  exact ⟨v, rfl, h'⟩
set_option maxRecDepth 10000 in
theorem cword (h : CS r n0 s b base l q st w0 K n w) (hK : K < 900000) :
    Calls Try.prog 99 #[.pointer (some ⟨s, 0, none⟩)] w fun e w' => ∃ v : Int, e = .returned (.int .i64 v) ∧ CS r n0 s b base l q st w0 (K + 3) n w' := by
  go_enter Try.func99, Try.ntmps99
  go_wp2_with fail
  refine (cnext h (by omega) (by omega) (by omega)).mono ?_
  rintro e w1 ⟨v, rfl, v0, v1, h1, -, -⟩
  clear h
  go_wp2_with fail
  · refine (cnext h1 (by omega) (by omega) (by omega)).mono ?_
    rintro e w2 ⟨x, rfl, x0, x1, h2, -, -⟩
    go_wp2_with fail
    go_ret
    exact ⟨_, rfl, h2.mono (by omega)⟩
  · refine (cnext h1 (by omega) (by omega) (by omega)).mono ?_
    rintro e w2 ⟨x, rfl, x0, x1, h2, -, -⟩
    go_wp2_with fail
    go_ret
    exact ⟨_, rfl, h2.mono (by omega)⟩
  · refine (cnext h1 (by omega) (by omega) (by omega)).mono ?_
    rintro e w2 ⟨x, rfl, x0, x1, h2, -, -⟩
    go_wp2_with fail
    refine (cnext h2 (by omega) (by omega) (by omega)).mono ?_
    rintro e w3 ⟨y, rfl, y0, y1, h3, -, -⟩
    go_wp2_with fail
    go_ret
    exact ⟨_, rfl, h3⟩
  · refine (crange h1 (by omega) (by omega) (by omega) (by omega) (by omega)).mono ?_
    rintro e w2 ⟨x, rfl, x0, x1, h2, -, -⟩
    go_wp2_with fail
    go_ret
    exact ⟨_, rfl, h2.mono (by omega)⟩
theorem operands_c (k : Int) (w : World) : Calls Try.prog 119 #[.int .i64 k] w fun e w' => w' = w ∧ e = .returned (.int .i64 (if k = 15 then 3 else if k ≥ 11 then 1 else 2)) := by
  go_enter Try.func119, Try.ntmps119
  go_wp2_with fail
  all_goals go_ret
  all_goals simp_all
  all_goals omega
end
end Go.Proofs.Yteabbkagekdehaa
end
