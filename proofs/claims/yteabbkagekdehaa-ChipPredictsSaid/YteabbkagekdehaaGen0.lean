/- The stream of numbers: its state in memory, and what its methods leave. -/
import Derived.Test.YteabbkagekdehaaNeA
set_option linter.unusedVariables false
set_option linter.unusedSimpArgs false
namespace Go.Proofs.Yteabbkagekdehaa
open Go.AE Go.RowKit Go.IntWalk
/-- all blocks but one are as they were -/
structure Oth (s : Nat) (w w' : World) : Prop where
  os : w'.os = w.os
  tape : w'.tape = w.tape
  output : w'.output = w.output
  size : w.heap.size ≤ w'.heap.size
  block : ∀ k, k < w.heap.size → k ≠ s → w'.heap[k]? = w.heap[k]?
theorem Oth.refl (s : Nat) (w : World) : Oth s w w := ⟨rfl, rfl, rfl, Nat.le_refl _, fun _ _ _ => rfl⟩
theorem Oth.trans {s : Nat} {a b c : World} (h : Oth s a b) (k : Oth s b c) : Oth s a c :=
  ⟨k.os.trans h.os, k.tape.trans h.tape, k.output.trans h.output, Nat.le_trans h.size k.size, fun i hi hs => (k.block i (Nat.lt_of_lt_of_le hi h.size) hs).trans (h.block i hi hs)⟩
theorem Oth.of_below {s : Nat} {w w' : World} (h : Below w.heap.size w w') : Oth s w w' := ⟨h.os, h.tape, h.output, h.size, fun k hk _ => h.block k hk⟩
theorem Oth.below {s n0 : Nat} {w w' : World} (h : Oth s w w') (h0 : n0 ≤ s) (h1 : n0 ≤ w.heap.size) : Below n0 w w' := ⟨h.os, h.tape, h.output, h.size, fun k hk => h.block k (by omega) (by omega)⟩
theorem Oth.cell {s : Nat} {w w' : World} (h : Oth s w w') {p : Addr} (hp : p.block < w.heap.size) (hs : p.block ≠ s) : w'.cell? p = w.cell? p := World.cell?_of_block (w := w) (h.block p.block hp hs)
theorem Oth.frozen {s : Nat} {w w' : World} (h : Oth s w w') {p : Addr} (hp : p.block < w.heap.size) (hs : p.block ≠ s) : w'.frozen? p = w.frozen? p := World.frozen?_of_block (w := w) (h.block p.block hp hs)
theorem cell_lt {w : World} {p : Addr} {v : Value} (h : w.cell? p = some v) : p.block < w.heap.size := by
  unfold World.cell? at h
  cases hh : w.heap[p.block]? with
  | none => simp [hh] at h
  | some o => exact (Array.getElem?_eq_some_iff.1 hh).1
/-- the stream at block s has handed out k numbers -/
structure Strm (r : Raw) (n0 s k : Nat) (w : World) : Prop where
  lo : n0 ≤ s
  l : w.cell? ⟨s, 0, none⟩ = some (.slice r.a r.len r.cap)
  at' : w.cell? ⟨s, 1, none⟩ = some (.int .i64 k)
  fz : w.frozen? ⟨s, 1, none⟩ = false
  raw : r.len = 0 ∨ ∃ b off, r.a = some ⟨b, off, none⟩ ∧ b < n0 ∧ r.len ≤ maxLen ∧ ∀ i, i < r.len → w.cell? ⟨b, off + i, none⟩ = some (.int .i64 (r.zs.getD i 0))
theorem Strm.lt {r : Raw} {n0 s k : Nat} {w : World} (S : Strm r n0 s k w) : s < w.heap.size := cell_lt S.l
theorem Strm.keep {r : Raw} {n0 s k : Nat} {w w' : World} (S : Strm r n0 s k w) (h : ∀ b, b < n0 ∨ b = s → w'.heap[b]? = w.heap[b]?) : Strm r n0 s k w' := by
  refine ⟨S.lo, ?_, ?_, ?_, ?_⟩
  · rw [World.cell?_of_block (w := w) (h s (.inr rfl))]; exact S.l
  · rw [World.cell?_of_block (w := w) (h s (.inr rfl))]; exact S.at'
  · rw [World.frozen?_of_block (w := w) (h s (.inr rfl))]; exact S.fz
  · rcases S.raw with h0 | ⟨b, off, h1, h2, h3, h4⟩
    · exact .inl h0
    · exact .inr ⟨b, off, h1, h2, h3, fun i hi => by rw [World.cell?_of_block (w := w) (h b (.inl h2))]; exact h4 i hi⟩
theorem Strm.below {r : Raw} {n0 s k : Nat} {w w' : World} (S : Strm r n0 s k w) (h : Below w.heap.size w w') : Strm r n0 s k w' :=
  S.keep fun b hb => h.block b (by have := S.lt; have := S.lo; omega)
theorem Strm.oth {r : Raw} {n0 s k c : Nat} {w w' : World} (S : Strm r n0 s k w) (h : Oth c w w') (hc : n0 ≤ c) (hs : s ≠ c) : Strm r n0 s k w' :=
  S.keep fun b hb => h.block b (by have := S.lt; have := S.lo; omega) (by omega)
theorem next_c {r : Raw} {n0 s k : Nat} {w : World} {n : Int} (S : Strm r n0 s k w) (hk : k < 1000000000) (h1 : 1 ≤ n) (h2 : n ≤ 4294967296) :
    Calls Try.prog 23 #[.pointer (some ⟨s, 0, none⟩), .int .i64 n] w fun e w' => ∃ v : Int, e = .returned (.int .i64 v) ∧ 0 ≤ v ∧ v < n ∧ Strm r n0 s (k + 1) w' ∧ Oth s w w' ∧ w'.heap.size = w.heap.size := by
  have hfz : ¬ w.frozen? ⟨s, 0 + 1, none⟩ = true := by simp [S.fz]
  have hat : w.cell? ⟨s, 0 + 1, none⟩ = some (.int .i64 k) := by simpa using S.at'
  have e1 : (w.setCell ⟨s, 0 + 1, none⟩ (.int .i64 ((k : Int) + 1))).cell? ⟨s, 0, none⟩ = some (.slice r.a r.len r.cap) := by
    rw [World.cell?_setCell_other _ _ _ _ (by simp)]; exact S.l
  have e2 : (w.setCell ⟨s, 0 + 1, none⟩ (.int .i64 ((k : Int) + 1))).cell? ⟨s, 0 + 1, none⟩ = some (.int .i64 ((k : Int) + 1)) := World.cell?_setCell_same _ _ _ hat
  have hb : ∀ b, b ≠ s → (w.setCell ⟨s, 0 + 1, none⟩ (.int .i64 ((k : Int) + 1))).heap[b]? = w.heap[b]? := fun b hb => Below.heap_setCell _ _ _ _ (by simpa using hb)
  have hsz : (w.setCell ⟨s, 0 + 1, none⟩ (.int .i64 ((k : Int) + 1))).heap.size = w.heap.size := by simp [World.setCell]
  have fin : ∀ w', SameBut (w.setCell ⟨s, 0 + 1, none⟩ (.int .i64 ((k : Int) + 1))) w' → Strm r n0 s (k + 1) w' ∧ Oth s w w' ∧ w'.heap.size = w.heap.size := fun w' ⟨g1, g2, g3, g4⟩ => by
    have hbl : ∀ b : Nat, w'.heap[b]? = (w.setCell ⟨s, 0 + 1, none⟩ (.int .i64 ((k : Int) + 1))).heap[b]? := fun b => by rw [g1]
    refine ⟨⟨S.lo, ?_, ?_, ?_, ?_⟩, ⟨g2, g3, g4, by rw [g1, hsz]; exact Nat.le_refl _, fun b _ hbs => by rw [hbl]; exact hb b hbs⟩, by rw [g1, hsz]⟩
    · rw [World.cell?_of_block (hbl s)]; exact e1
    · rw [World.cell?_of_block (hbl s)]; simpa using e2
    · rw [World.frozen?_of_block (hbl s), World.frozen?_setCell]; exact S.fz
    · rcases S.raw with h0 | ⟨b, off, h1, h2, h3, h4⟩
      · exact .inl h0
      · refine .inr ⟨b, off, h1, h2, h3, fun i hi => ?_⟩
        rw [World.cell?_of_block (w := w) (by rw [hbl]; exact hb b (by have := S.lo; omega))]; exact h4 i hi
  by_cases hl : r.len = 0
  · have q := S.l
    rw [hl] at q e1
    refine (next_walk0 s 0 r.a r.cap k n w q hat hfz e1 e2 (by omega) (by omega) h1 h2).mono ?_
    rintro e w' ⟨rfl, rfl⟩
    exact ⟨_, rfl, Int.emod_nonneg _ (by omega), Int.emod_lt_of_pos _ (by omega), fin _ ⟨rfl, rfl, rfl, rfl⟩⟩
  · rcases S.raw with h0 | ⟨b, off, j1, j2, j3, j4⟩
    · exact absurd h0 hl
    have hmod : (k : Int) % (r.len : Int) = ((k % r.len : Nat) : Int) := (Int.natCast_emod _ _).symm
    have hlt : k % r.len < r.len := Nat.mod_lt _ (by omega)
    have e3 : (w.setCell ⟨s, 0 + 1, none⟩ (.int .i64 ((k : Int) + 1))).cell? ⟨b, off + ((k : Int) % (r.len : Int)).toNat, none⟩ = some (.int .i64 (r.zs.getD (k % r.len) 0)) := by
      rw [World.cell?_of_block (w := w) (hb b (by have := S.lo; omega)), hmod, Int.toNat_natCast]
      exact j4 _ hlt
    have q := S.l
    rw [j1] at q e1
    refine (next_walk1 s 0 b off r.len r.cap k n (r.zs.getD (k % r.len) 0) w (by omega) j3 q hat hfz e1 e2 e3 (by omega) (by omega) h1 h2).mono ?_
    rintro e w' ⟨rfl, hs⟩
    exact ⟨_, rfl, Int.emod_nonneg _ (by omega), Int.emod_lt_of_pos _ (by omega), fin _ hs⟩
theorem flip_c {r : Raw} {n0 s k : Nat} {w : World} {n : Int} (S : Strm r n0 s k w) (hk : k < 1000000000) (h1 : 1 ≤ n) (h2 : n ≤ 4294967296) :
    Calls Try.prog 11 #[.pointer (some ⟨s, 0, none⟩), .int .i64 n] w fun e w' => ∃ v : Bool, e = .returned (.bool v) ∧ Strm r n0 s (k + 1) w' ∧ Oth s w w' ∧ w'.heap.size = w.heap.size := by
  have hc := next_c S hk h1 h2
  go_enter Try.func11, Try.ntmps11
  go_wp2_with (go_at_call 23; refine hc.mono ?_; rintro e w' ⟨v, rfl, hv0, hv1, hS, hO, hz⟩)
  all_goals go_ret
  all_goals exact ⟨_, rfl, hS, hO, hz⟩
theorem range_c {r : Raw} {n0 s k : Nat} {w : World} {lo hi : Int} (S : Strm r n0 s k w) (hk : k < 1000000000) (h1 : lo ≤ hi) (h2 : -4294967296 ≤ lo) (h3 : hi ≤ 4294967296) (h4 : hi - lo < 4294967296) :
    Calls Try.prog 34 #[.pointer (some ⟨s, 0, none⟩), .int .i64 lo, .int .i64 hi] w fun e w' => ∃ v : Int, e = .returned (.int .i64 v) ∧ lo ≤ v ∧ v ≤ hi ∧ Strm r n0 s (k + 1) w' ∧ Oth s w w' ∧ w'.heap.size = w.heap.size := by
  have hc := next_c (n := hi - lo + 1) S hk (by omega) (by omega)
  have ht : ¬ hi < lo := by omega
  go_enter Try.func34, Try.ntmps34
  go_wp2_with (go_at_call 23; refine hc.mono ?_; rintro e w' ⟨v, rfl, hv0, hv1, hS, hO, hz⟩)
  all_goals go_ret
  all_goals exact ⟨_, rfl, by omega, by omega, hS, hO, hz⟩
theorem pick_c {r : Raw} {n0 s k : Nat} {w : World} {b cap : Nat} (xs : List Int) (S : Strm r n0 s k w) (hk : k < 1000000000) (h1 : 1 ≤ xs.length) (h2 : xs.length ≤ 1000) (hbs : b ≠ s)
    (hx : ∀ i, i < xs.length → w.cell? ⟨b, i, none⟩ = some (.int .i64 (xs.getD i 0))) :
    Calls Try.prog 9 #[.pointer (some ⟨s, 0, none⟩), .slice (some ⟨b, 0, none⟩) xs.length cap] w fun e w' => ∃ v : Int, e = .returned (.int .i64 v) ∧ v ∈ xs ∧ Strm r n0 s (k + 1) w' ∧ Oth s w w' ∧ w'.heap.size = w.heap.size := by
  have hc := next_c (n := (xs.length : Int)) S hk (by omega) (by omega)
  have hcl : Hid (∀ w', Oth s w w' → ∀ v : Int, 0 ≤ v → v < (xs.length : Int) → w'.cell? ⟨b, v.toNat, none⟩ = some (.int .i64 (xs.getD v.toNat 0))) := by
    intro w' hO v hv0 hv1
    have := hx v.toNat (by omega)
    rw [hO.cell (cell_lt this) hbs]; exact this
  have hmem : Hid (∀ v : Int, 0 ≤ v → v < (xs.length : Int) → xs.getD v.toNat 0 ∈ xs) := by
    intro v hv0 hv1
    have h : v.toNat < xs.length := by omega
    simp [List.getD, List.getElem?_eq_getElem h]
  clear hx
  generalize hl : xs.length = len at hc hcl hmem h1 h2 ⊢
  go_enter Try.func9, Try.ntmps9
  go_wp2_with (go_at_call 23; refine hc.mono ?_; rintro e w' ⟨v, rfl, hv0, hv1, hS, hO, hz⟩; have hcell := hcl.out w' hO v hv0 hv1; have hm := hmem.out v hv0 hv1)
  all_goals go_ret
  all_goals first | exact ⟨_, rfl, hm, hS, hO, hz⟩ | exact ⟨_, rfl, List.getElem_mem _, hS, hO, hz⟩
theorem lit_cells (w : World) (xs : List Int) (e : TypeId) : ∀ i, i < xs.length → (w.alloc (.cells (xs.map (Value.int .i64)).toArray e)).cell? ⟨w.heap.size, i, none⟩ = some (.int .i64 (xs.getD i 0)) := by
  intro i hi
  rw [cell_of_row _ w.heap.size i _ e (0, 0) (heap_alloc_new w _)]
  simp [hi, List.getD]
theorem below_alloc (w : World) (o : Obj) : Below w.heap.size w (w.alloc o) := (Below.refl _ _).alloc (Nat.le_refl _) o
/-- Pick at a list that is written out -/
theorem pick_n {r : Raw} {n0 s k : Nat} {w : World} {cs : Array Value} {n : Nat} (xs : List Int) (S : Strm r n0 s k w) (hk : k < 1000000000) (hn : xs.length = n) (h1 : 1 ≤ n) (h2 : n ≤ 1000) (hcs : (xs.map (Value.int .i64)).toArray = cs) :
    Calls Try.prog 9 #[.pointer (some ⟨s, 0, none⟩), .slice (some ⟨w.heap.size, 0, none⟩) n n] (w.alloc (.cells cs 3)) fun e w' => ∃ v : Int, e = .returned (.int .i64 v) ∧ v ∈ xs ∧ Strm r n0 s (k + 1) w' ∧ Oth s w w' := by
  subst hn hcs
  refine (pick_c xs (S.below (below_alloc w _)) hk h1 h2 (Nat.ne_of_gt S.lt) (lit_cells w xs 3)).mono ?_
  rintro e w1 ⟨v, rfl, hv, S1, O1, _⟩
  exact ⟨v, rfl, hv, S1, (Oth.of_below (below_alloc w _)).trans O1⟩
theorem Oth.grown {s : Nat} {w a b : World} {row : Option Nat} (h : Oth s w a) (hg : a.grownBy b row) (hr : ∀ k, row = some k → w.heap.size ≤ k) : Oth s w b :=
  ⟨hg.os.trans h.os, hg.tape.trans h.tape, hg.output.trans h.output, Nat.le_trans h.size hg.size, fun k hk hs =>
    (hg.block k (Nat.lt_of_lt_of_le hk h.size) (fun e => by have := hr k e.symm; omega)).trans (h.block k hk hs)⟩
theorem Strm.grown {r : Raw} {n0 s k : Nat} {a b : World} {row : Option Nat} (S : Strm r n0 s k a) (hg : a.grownBy b row) (hr : ∀ k, row = some k → s < k) : Strm r n0 s k b :=
  S.keep fun c hc => hg.block c (by have := S.lt; have := S.lo; omega) (fun e => by have := hr c e.symm; have := S.lo; omega)
end Go.Proofs.Yteabbkagekdehaa
