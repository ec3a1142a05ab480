/- packer.next: what each of its writes makes of the state. -/
import Derived.Test.YteabbkagekdehaaPack2
set_option linter.unusedVariables false
set_option linter.unusedSimpArgs false
namespace Go.Proofs.Yteabbkagekdehaa
open Go.AE Go.RowKit Go.IntWalk Go.PackLaw
section
variable {p gU base n K : Nat} {aS : Option Addr} {capS : Nat} {S : Nat → Int} {C : Int} {PP : List Pr} {N : List Nat} {U : Nat → Int} {l : Int} {vN vB : Value} {BL : List Nat} {w : World}
theorem PSt.to (h : PSt p gU base n K aS capS S C PP N U l vN vB BL w) {w' : World} {N' : List Nat} {U' : Nat → Int} {l' : Int} {vN' vB' : Value} {BL' : List Nat} (hsz : w.heap.size ≤ w'.heap.size)
    (hp : ∀ o, o ≠ 37 → o ≠ 38 → o ≠ 41 → w'.cell? ⟨p, o, none⟩ = w.cell? ⟨p, o, none⟩) (fz : ∀ o, w'.frozen? ⟨p, o, none⟩ = false) (c37 : w'.cell? ⟨p, 37, none⟩ = some vN') (c38 : w'.cell? ⟨p, 38, none⟩ = some vB') (c41 : w'.cell? ⟨p, 41, none⟩ = some (.int .i64 l'))
    (hS : ∀ k, k < base → k ≠ p → k ≠ gU → w'.heap[k]? = w.heap[k]?) (us : RowAt gU K U' w') (now : w'.ownsRow base 3 1 vN' N'.length (ints N')) (best : 0 ≤ l' → w'.ownsRow base 3 1 vB' n (ints BL')) (apart : ∀ k, vN'.ownBlock = some k → vB'.ownBlock ≠ some k)
    (bestlt : ∀ k, vB'.ownBlock = some k → base ≤ k ∧ k < w'.heap.size) : PSt p gU base n K aS capS S C PP N' U' l' vN' vB' BL' w' :=
  ⟨⟨h.lt.1, h.lt.2.1, h.lt.2.2.1, by have := h.lt; omega⟩, by rw [hp 0 (by omega) (by omega) (by omega)]; exact h.cS, fun i k hi hk => by rw [hp _ (by omega) (by omega) (by omega)]; exact h.cM i k hi hk, c37, c38, by rw [hp 39 (by omega) (by omega) (by omega)]; exact h.cU,
    by rw [hp 40 (by omega) (by omega) (by omega)]; exact h.cC, c41, fz, fun t ht => by
      obtain ⟨g, q1, q2, q3, q4, q5⟩ := h.sz t ht
      exact ⟨g, q1, q2, q3, q4, by rw [World.cell?_of_block (w := w) (hS g q2 q3 q4)]; exact q5⟩, us, now, best, apart, bestlt⟩
theorem heap_set_other (w : World) (a : Addr) (v : Value) {k : Nat} (h : k ≠ a.block) : (w.setCell a v).heap[k]? = w.heap[k]? := Below.heap_setCell _ _ _ _ h
theorem size_set (w : World) (a : Addr) (v : Value) : (w.setCell a v).heap.size = w.heap.size := by simp [World.setCell]
theorem PSt.set37 (h : PSt p gU base n K aS capS S C PP N U l vN vB BL w) {v' : Value} {N' : List Nat} (own : w.ownsRow base 3 1 v' N'.length (ints N')) (ap : ∀ k, v'.ownBlock = some k → vB.ownBlock ≠ some k) :
    PSt p gU base n K aS capS S C PP N' U l v' vB BL (w.setCell ⟨p, 37, none⟩ v') := by
  obtain ⟨l1, l2, l3, l4⟩ := h.lt
  refine h.to (by rw [size_set]; exact Nat.le_refl _) (fun o h1 _ _ => World.cell?_setCell_other _ _ _ _ (by simp only [ne_eq, Addr.mk.injEq, not_and]; omega)) (fun o => by rw [World.frozen?_setCell]; exact h.fz o) (World.cell?_setCell_same _ _ _ h.cN) ?_ ?_ (fun k _ h2 _ => heap_set_other _ _ _ h2) (h.us.block (heap_set_other _ _ _ (Ne.symm l3))) (ownsRow_setCell_below own l1 _) (fun q => ownsRow_setCell_below (h.best q) l1 _) ap (fun k hk => by rw [size_set]; exact h.bestlt k hk)
  · rw [World.cell?_setCell_other _ _ _ _ (by simp)]; exact h.cB
  · rw [World.cell?_setCell_other _ _ _ _ (by simp)]; exact h.cL
theorem PSt.setBest (h : PSt p gU base n K aS capS S C PP N U l vN vB BL w) {v' : Value} {BL' : List Nat} {l' : Int} (own : w.ownsRow base 3 1 v' n (ints BL')) (ap : ∀ k, vN.ownBlock = some k → v'.ownBlock ≠ some k) (lt' : ∀ k, v'.ownBlock = some k → base ≤ k ∧ k < w.heap.size) :
    PSt p gU base n K aS capS S C PP N U l' vN v' BL' ((w.setCell ⟨p, 38, none⟩ v').setCell ⟨p, 41, none⟩ (.int .i64 l')) := by
  obtain ⟨l1, l2, l3, l4⟩ := h.lt
  have e41 : (w.setCell ⟨p, 38, none⟩ v').cell? ⟨p, 41, none⟩ = some (.int .i64 l) := by rw [World.cell?_setCell_other _ _ _ _ (by simp)]; exact h.cL
  refine h.to (by rw [size_set, size_set]; exact Nat.le_refl _) (fun o _ h1 h2 => ?_) (fun o => by rw [World.frozen?_setCell, World.frozen?_setCell]; exact h.fz o) ?_ ?_ (World.cell?_setCell_same _ _ _ e41) (fun k _ h2 _ => by rw [heap_set_other _ _ _ h2, heap_set_other _ _ _ h2]) (h.us.block (by rw [heap_set_other _ _ _ (Ne.symm l3), heap_set_other _ _ _ (Ne.symm l3)]))
    (ownsRow_setCell_below (ownsRow_setCell_below h.now l1 _) l1 _) (fun q => ownsRow_setCell_below (ownsRow_setCell_below own l1 _) l1 _) ap (fun k hk => by rw [size_set, size_set]; exact lt' k hk)
  · rw [World.cell?_setCell_other _ _ _ _ (by simp only [ne_eq, Addr.mk.injEq, not_and]; omega), World.cell?_setCell_other _ _ _ _ (by simp only [ne_eq, Addr.mk.injEq, not_and]; omega)]
  · rw [World.cell?_setCell_other _ _ _ _ (by simp), World.cell?_setCell_other _ _ _ _ (by simp)]; exact h.cN
  · rw [World.cell?_setCell_other _ _ _ _ (by simp)]; exact World.cell?_setCell_same _ _ _ h.cB
theorem PSt.setU (h : PSt p gU base n K aS capS S C PP N U l vN vB BL w) {b : Nat} (hb : b < K) (x : Int) : PSt p gU base n K aS capS S C PP N (up U b x) l vN vB BL (w.setCell ⟨gU, b, none⟩ (.int .i64 x)) := by
  obtain ⟨l1, l2, l3, l4⟩ := h.lt
  have c : ∀ o, (w.setCell ⟨gU, b, none⟩ (.int .i64 x)).cell? ⟨p, o, none⟩ = w.cell? ⟨p, o, none⟩ := fun o => World.cell?_of_block (w := w) (heap_set_other _ _ _ l3)
  exact h.to (by rw [size_set]; exact Nat.le_refl _) (fun o _ _ _ => c o) (fun o => by rw [World.frozen?_setCell]; exact h.fz o) (by rw [c]; exact h.cN) (by rw [c]; exact h.cB) (by rw [c]; exact h.cL) (fun k _ _ h3 => heap_set_other _ _ _ h3) (h.us.set hb x) (ownsRow_setCell_below h.now l2 _) (fun q => ownsRow_setCell_below (h.best q) l2 _) h.apart (fun k hk => by rw [size_set]; exact h.bestlt k hk)
theorem PSt.congrU (h : PSt p gU base n K aS capS S C PP N U l vN vB BL w) {U' : Nat → Int} (e : ∀ t, t < K → U t = U' t) : PSt p gU base n K aS capS S C PP N U' l vN vB BL w :=
  ⟨h.lt, h.cS, h.cM, h.cN, h.cB, h.cU, h.cC, h.cL, h.fz, h.sz, h.us.congr e, h.now, h.best, h.apart, h.bestlt⟩
/-- the row of now has grown by one, here or elsewhere -/
theorem PSt.pushed (h : PSt p gU base n K aS capS S C PP N U l vN vB BL w) {w2 : World} {v' : Value} {b : Nat} (hg : w.grownBy w2 vN.ownBlock) (own : w2.ownsRow base 3 1 v' (N.length + 1) (ints N ++ [.int .i64 b])) (ap : v'.ownBlock = vN.ownBlock ∨ ∀ k, v'.ownBlock = some k → w.heap.size ≤ k) :
    PSt p gU base n K aS capS S C PP (N ++ [b]) U l v' vB BL (w2.setCell ⟨p, 37, none⟩ v') := by
  obtain ⟨l1, l2, l3, l4⟩ := h.lt
  have hnb : ∀ k, vN.ownBlock = some k → base ≤ k := fun k hk => (h.now.lt k hk).1
  have hlow : ∀ k, k < base → w2.heap[k]? = w.heap[k]? := fun k hk => hg.block k (by omega) (fun e => by have := hnb k e.symm; omega)
  have c : ∀ o, w2.cell? ⟨p, o, none⟩ = w.cell? ⟨p, o, none⟩ := fun o => World.cell?_of_block (w := w) (hlow p l1)
  have hap : ∀ k, v'.ownBlock = some k → vB.ownBlock ≠ some k := fun k hk e => by
    rcases ap with ap | ap
    · exact h.apart k (by rw [← ap]; exact hk) e
    · have := ap k hk; have := (h.bestlt k e).2; omega
  have hbest : 0 ≤ l → w2.ownsRow base 3 1 vB n (ints BL) := fun q => by
    obtain ⟨h1, h2⟩ := h.best q
    refine ⟨h1, ?_⟩
    rcases h2 with h2 | ⟨g, cap, cur, hv, hg', hh, r⟩
    · exact .inl h2
    · refine .inr ⟨g, cap, cur, hv, hg', ?_, r⟩
      rw [hg.block g (Array.getElem?_eq_some_iff.1 hh).1 (fun e => h.apart g e.symm (by rw [hv]; rfl))]; exact hh
  refine h.to (by rw [size_set]; exact hg.size) (fun o h1 _ _ => by rw [World.cell?_setCell_other _ _ _ _ (by simp only [ne_eq, Addr.mk.injEq, not_and]; omega)]; exact c o) (fun o => by rw [World.frozen?_setCell, World.frozen?_of_block (w := w) (hlow p l1)]; exact h.fz o) (World.cell?_setCell_same _ _ _ (by rw [c]; exact h.cN)) ?_ ?_
    (fun k h1 h2 _ => by rw [heap_set_other _ _ _ h2]; exact hlow k h1) (h.us.block (by rw [heap_set_other _ _ _ (Ne.symm l3)]; exact hlow gU l2)) ?_ (fun q => ownsRow_setCell_below (hbest q) l1 _) hap (fun k hk => by rw [size_set]; have := h.bestlt k hk; have := hg.size; omega)
  · rw [World.cell?_setCell_other _ _ _ _ (by simp), c]; exact h.cB
  · rw [World.cell?_setCell_other _ _ _ _ (by simp), c]; exact h.cL
  · have e : ints (N ++ [b]) = ints N ++ [.int .i64 b] := by simp [ints]
    have e2 : (N ++ [b]).length = N.length + 1 := by simp
    rw [e, e2]
    exact ownsRow_setCell_below own l1 _
theorem PSt.cut {b : Nat} (h : PSt p gU base n K aS capS S C PP (N ++ [b]) U l vN vB BL w) : ∃ g cap, vN = .slice (some ⟨g, 0, none⟩) (N.length + 1) cap ∧ N.length + 1 ≤ cap ∧ PSt p gU base n K aS capS S C PP N U l (.slice (some ⟨g, 0, none⟩) N.length cap) vB BL (w.setCell ⟨p, 37, none⟩ (.slice (some ⟨g, 0, none⟩) N.length cap)) := by
  have e2 : (N ++ [b]).length = N.length + 1 := by simp
  have hn := h.now
  rw [e2] at hn
  rcases hn.2 with ⟨_, h0⟩ | ⟨g, cap, cur, rfl, hbg, hh, hnc, hcm, hcs, htake⟩
  · omega
  · refine ⟨g, cap, rfl, hnc, h.set37 ⟨by simp [ints], .inr ⟨g, cap, cur, rfl, hbg, hh, by omega, hcm, hcs, ?_⟩⟩ (fun k hk => h.apart k hk)⟩
    have e : ints (N ++ [b]) = ints N ++ [.int .i64 b] := by simp [ints]
    rw [e] at htake
    have : cur.toList.take (N.length * 1) = (cur.toList.take ((N.length + 1) * 1)).take (N.length * 1) := by rw [List.take_take]; congr 1; omega
    rw [this, htake, List.take_append_of_le_length (by simp [ints]), List.take_of_length_le (by simp [ints])]
theorem PSt.drew1 (h : PSt p gU base n K aS capS S C PP N U l vN vB BL w) : PSt p gU base n K aS capS S C PP N U l vN vB BL w.drew :=
  ⟨h.lt, h.cS, h.cM, h.cN, h.cB, h.cU, h.cC, h.cL, h.fz, h.sz, h.us, h.now, h.best, h.apart, h.bestlt⟩
theorem PSt.pushfacts (h : PSt p gU base n K aS capS S C PP N U l vN vB BL w) {o : Obj} {w2 : World} (hg : (w.alloc o).grownBy w2 vN.ownBlock) : w2.cell? ⟨p, 37, none⟩ = some vN ∧ w2.frozen? ⟨p, 37, none⟩ = false := by
  obtain ⟨l1, l2, l3, l4⟩ := h.lt
  have hb : w2.heap[p]? = w.heap[p]? := by
    rw [hg.block p (by simp; omega) (fun e => by have := (h.now.lt p e.symm).1; omega)]
    exact Below.heap_alloc _ _ _ (by omega)
  exact ⟨by rw [World.cell?_of_block (w := w) hb]; exact h.cN, by rw [World.frozen?_of_block (w := w) hb]; exact h.fz 37⟩
theorem Oth2.drew1 {a b : World} (h : Oth2 p gU base a b) : Oth2 p gU base a b.drew := ⟨h.os, h.tape, h.output, h.size, h.block⟩
theorem Oth2.setU {a b : World} (h : Oth2 p gU base a b) (o : Nat) (v : Value) : Oth2 p gU base a (b.setCell ⟨gU, o, none⟩ v) :=
  ⟨h.os, h.tape, h.output, by rw [size_set]; exact h.size, fun k h1 h2 h3 => by rw [heap_set_other _ _ _ h3]; exact h.block k h1 h2 h3⟩
theorem Oth2.setP {a b : World} (h : Oth2 p gU base a b) (o : Nat) (v : Value) : Oth2 p gU base a (b.setCell ⟨p, o, none⟩ v) :=
  ⟨h.os, h.tape, h.output, by rw [size_set]; exact h.size, fun k h1 h2 h3 => by rw [heap_set_other _ _ _ h2]; exact h.block k h1 h2 h3⟩
theorem Oth2.pushed {a : World} (O : Oth2 p gU base a w) (h : PSt p gU base n K aS capS S C PP N U l vN vB BL w) {o : Obj} {w2 : World} (hg : (w.alloc o).grownBy w2 vN.ownBlock) : Oth2 p gU base a w2 :=
  ⟨hg.os.trans O.os, hg.tape.trans O.tape, hg.output.trans O.output, by have := hg.size; have := O.size; simp at this ⊢; have h1 := hg.size; simp at h1; omega, fun k h1 h2 h3 => by
    have l4 := h.lt.2.2.2
    rw [hg.block k (by simp; omega) (fun e => by have := (h.now.lt k e.symm).1; omega), Below.heap_alloc _ _ _ (by omega)]
    exact O.block k h1 h2 h3⟩
end
end Go.Proofs.Yteabbkagekdehaa
