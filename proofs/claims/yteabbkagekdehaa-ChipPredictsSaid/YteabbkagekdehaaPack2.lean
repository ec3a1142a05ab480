/- packer.next: the search, from whatever state. -/
import Derived.Test.YteabbkagekdehaaPack1
import Derived.ArgAppend
import Derived.RegionTactic
import Derived.BigRegion
set_option linter.unusedVariables false
set_option linter.unusedSimpArgs false
namespace Go.Proofs.Yteabbkagekdehaa
open Go.AE Go.RowKit Go.IntWalk Go.PackLaw
theorem ownsRow_base {w : World} {base base' : Nat} {e : TypeId} {size : Nat} {v : Value} {n : Nat} {xs : List Value} (h : w.ownsRow base e size v n xs) (hb : base' ≤ base) : w.ownsRow base' e size v n xs := by
  obtain ⟨h1, h2⟩ := h
  refine ⟨h1, ?_⟩
  rcases h2 with h2 | ⟨g, cap, cur, hv, hg, r⟩
  · exact .inl h2
  · exact .inr ⟨g, cap, cur, hv, Nat.le_trans hb hg, r⟩
theorem wpList_push {w : World} {ops : Array Oper} {rest : List Oper} {o : Oper} {a : Act} {Q : Exit → Act → World → Prop} (hg : o.guard = none) (s x : Operand)
    (hop : o.op = Op.call { callee := Callee.builtin Builtin.append, args := #[s, x], argTypes := #[22, 22] }) (base : Nat) (v : Value) (n : Nat) (xs : List Value) (hs : a.eval s = v) (hown : w.ownsRow base 3 1 v n xs) (B : Nat) (u : Value)
    (hx : a.eval x = .slice (some ⟨B, 0, none⟩) 1 1) (hc : w.cell? ⟨B, 0, none⟩ = some u) (hu : u.oneCell' = true) (hn : n ≤ 1000) (hbase : base ≤ w.heap.size)
    (h : ∀ v' w', w'.ownsRow base 3 1 v' (n + 1) (xs ++ [u]) → w.grownBy w' v.ownBlock → (v'.ownBlock = v.ownBlock ∨ ∀ k, v'.ownBlock = some k → w.heap.size ≤ k) → wpList Try.prog ops Q rest (a.put o.dst v') w') : wpList Try.prog ops Q (o :: rest) a w := by
  obtain ⟨i0, hi, hz0, hz1, hz2⟩ := info_parts info3
  have hcn : ∀ j y, [u][j]? = some y → w.cell? ((⟨B, 0, none⟩ : Addr).add j) = some y := fun j y hj => by
    match j, hj with
    | 0, hj => simp at hj; subst hj; exact hc
  have h1c : ∀ y ∈ [u], y.oneCell' = true := fun y hy => by simp at hy; subst hy; exact hu
  rcases hown.2 with ⟨rfl, rfl⟩ | ⟨g, cap, cur, rfl, hbg, hh, hnc, hcm, hcs, htake⟩
  · have hx0 : xs = [] := by have := hown.1; simpa using this
    subst hx0
    refine wpList_append_grows w hg s x 22 hop 3 i0 _ 1 8 Try.underlying22 hi hz0 hz1 hz2 rfl (by decide) none 0 0 [] hs (fun _ => ⟨rfl, rfl⟩) rfl (fun b hb => by cases hb) ⟨B, 0, none⟩ 1 1 [u] hx rfl hcn h1c (by omega) (by unfold maxLen; omega) (by omega) fun v' w' q1 q2 => ?_
    exact h v' w' (ownsRow_base q1 hbase) ⟨q2.os, q2.tape, q2.output, q2.size, fun k hk _ => q2.block k hk (by simp)⟩ (.inr fun k hk => (q1.lt k hk).1)
  · by_cases hr : n + 1 ≤ cap
    · refine wpList_append_fits w hg s x 22 hop base 3 i0 1 Try.underlying22 hi hz1 g n cap xs hs hown ⟨B, 0, none⟩ 1 1 [u] hx rfl hcn h1c hr fun w' q1 q2 => ?_
      exact h _ w' q1 q2 (.inl rfl)
    · have hl : xs.length = n := by have := hown.1; omega
      refine wpList_append_grows w hg s x 22 hop 3 i0 _ 1 8 Try.underlying22 hi hz0 hz1 hz2 rfl (by decide) (some ⟨g, 0, none⟩) n cap xs hs (fun h => by cases h) (by omega) (fun b hb j y hj => ?_) ⟨B, 0, none⟩ 1 1 [u] hx rfl hcn h1c (by omega) (by unfold maxLen; omega) (by omega) fun v' w' q1 q2 => ?_
      · simp only [Option.some.injEq] at hb
        subst hb
        have hj1 : j < n := by
          rcases Nat.lt_or_ge j n with h | h
          · exact h
          · rw [List.getElem?_eq_none (by omega)] at hj; cases hj
        have e : (⟨g, 0, none⟩ : Addr).add j = ⟨g, j, none⟩ := by
          simp only [Addr.add]
          split
          · rename_i h; subst h; rfl
          · simp
        rw [e, hown.cellAt j (by omega)]
        exact hj
      · exact h v' w' (ownsRow_base q1 hbase) ⟨q2.os, q2.tape, q2.output, q2.size, fun k hk _ => q2.block k hk (by simp)⟩ (.inr fun k hk => (q1.lt k hk).1)
def ints (N : List Nat) : List Value := (N.map (fun b : Nat => (b : Int))).map (Value.int .i64)
/-- the packer's state -/
structure PSt (p gU base n K : Nat) (aS : Option Addr) (capS : Nat) (S : Nat → Int) (C : Int) (PP : List Pr) (N : List Nat) (U : Nat → Int) (l : Int) (vN vB : Value) (BL : List Nat) (w : World) : Prop where
  lt : p < base ∧ gU < base ∧ p ≠ gU ∧ base ≤ w.heap.size
  cS : w.cell? ⟨p, 0, none⟩ = some (.slice aS n capS)
  cM : ∀ i k, i < 6 → k < 6 → w.cell? ⟨p, 1 + i * 6 + k, none⟩ = some (.int .i64 (M PP i k))
  cN : w.cell? ⟨p, 37, none⟩ = some vN
  cB : w.cell? ⟨p, 38, none⟩ = some vB
  cU : w.cell? ⟨p, 39, none⟩ = some (.slice (some ⟨gU, 0, none⟩) K K)
  cC : w.cell? ⟨p, 40, none⟩ = some (.int .i64 C)
  cL : w.cell? ⟨p, 41, none⟩ = some (.int .i64 l)
  fz : ∀ o, w.frozen? ⟨p, o, none⟩ = false
  sz : ∀ t, t < n → ∃ g, aS = some ⟨g, 0, none⟩ ∧ g < base ∧ g ≠ p ∧ g ≠ gU ∧ w.cell? ⟨g, t, none⟩ = some (.int .i64 (S t))
  us : RowAt gU K U w
  now : w.ownsRow base 3 1 vN N.length (ints N)
  best : 0 ≤ l → w.ownsRow base 3 1 vB n (ints BL)
  apart : ∀ k, vN.ownBlock = some k → vB.ownBlock ≠ some k
  bestlt : ∀ k, vB.ownBlock = some k → base ≤ k ∧ k < w.heap.size
structure Oth2 (p gU base : Nat) (w w' : World) : Prop where
  os : w'.os = w.os
  tape : w'.tape = w.tape
  output : w'.output = w.output
  size : w.heap.size ≤ w'.heap.size
  block : ∀ k, k < base → k ≠ p → k ≠ gU → w'.heap[k]? = w.heap[k]?
theorem Oth2.refl (p gU base : Nat) (w : World) : Oth2 p gU base w w := ⟨rfl, rfl, rfl, Nat.le_refl _, fun _ _ _ _ => rfl⟩
theorem Oth2.trans {p gU base : Nat} {a b c : World} (h : Oth2 p gU base a b) (k : Oth2 p gU base b c) : Oth2 p gU base a c :=
  ⟨k.os.trans h.os, k.tape.trans h.tape, k.output.trans h.output, Nat.le_trans h.size k.size, fun i h1 h2 h3 => (k.block i h1 h2 h3).trans (h.block i h1 h2 h3)⟩
section
variable {p gU base n K : Nat} {aS : Option Addr} {capS : Nat} {S : Nat → Int} {C : Int} {PP : List Pr} {N : List Nat} {U : Nat → Int} {l : Int} {vN vB : Value} {BL : List Nat} {w : World}
theorem PSt.drew (h : PSt p gU base n K aS capS S C PP N U l vN vB BL w) (q : Nat) : PSt p gU base n K aS capS S C PP N U l vN vB BL (w.drewN q) :=
  ⟨h.lt, h.cS, h.cM, h.cN, h.cB, h.cU, h.cC, h.cL, h.fz, h.sz, h.us, h.now, h.best, h.apart, h.bestlt⟩
theorem Oth2.drew {a b : World} (h : Oth2 p gU base a b) (q : Nat) : Oth2 p gU base a (b.drewN q) := ⟨h.os, h.tape, h.output, h.size, h.block⟩
/-- a world that differs in blocks from 'base' on that are neither the row of now nor that of best -/
theorem PSt.oth (h : PSt p gU base n K aS capS S C PP N U l vN vB BL w) {w' : World} (hb : ∀ k, k < w.heap.size → w'.heap[k]? = w.heap[k]?) (hs : w.heap.size ≤ w'.heap.size) : PSt p gU base n K aS capS S C PP N U l vN vB BL w' := by
  have hp : w'.heap[p]? = w.heap[p]? := hb p (by have := h.lt; omega)
  have own : ∀ {v m xs}, w.ownsRow base 3 1 v m xs → w'.ownsRow base 3 1 v m xs := fun {v m xs} q => by
    obtain ⟨h1, h2⟩ := q
    refine ⟨h1, ?_⟩
    rcases h2 with h2 | ⟨g, cap, cur, hv, hg, hh, r⟩
    · exact .inl h2
    · exact .inr ⟨g, cap, cur, hv, hg, by rw [hb g (Array.getElem?_eq_some_iff.1 hh).1]; exact hh, r⟩
  have c : ∀ o, w'.cell? ⟨p, o, none⟩ = w.cell? ⟨p, o, none⟩ := fun o => World.cell?_of_block (w := w) hp
  exact ⟨⟨h.lt.1, h.lt.2.1, h.lt.2.2.1, by have := h.lt; omega⟩, by rw [c]; exact h.cS, fun i k hi hk => by rw [c]; exact h.cM i k hi hk, by rw [c]; exact h.cN, by rw [c]; exact h.cB, by rw [c]; exact h.cU, by rw [c]; exact h.cC, by rw [c]; exact h.cL,
    fun o => by rw [World.frozen?_of_block (w := w) hp]; exact h.fz o, fun t ht => by
      obtain ⟨g, q1, q2, q3, q4, q5⟩ := h.sz t ht
      exact ⟨g, q1, q2, q3, q4, by rw [World.cell?_of_block (w := w) (hb g (by have := h.lt; omega))]; exact q5⟩,
    h.us.block (hb gU (by have := h.lt; omega)), own h.now, fun q => own (h.best q), h.apart, fun k hk => by have := h.bestlt k hk; omega⟩
end
end Go.Proofs.Yteabbkagekdehaa
