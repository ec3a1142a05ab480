/- weftref2.FewestTogether: the same search, by a closure that calls itself. -/
import Derived.Test.YteabbkagekdehaaPack4
set_option linter.unusedVariables false
set_option linter.unusedSimpArgs false
namespace Go.Proofs.Yteabbkagekdehaa
open Go.AE Go.RowKit Go.IntWalk Go.PackLaw
def caps (W : Nat) : Array Value := #[.pointer (some ⟨W, 0, none⟩), .pointer (some ⟨W + 6, 0, none⟩), .pointer (some ⟨W + 1, 0, none⟩), .pointer (some ⟨W + 4, 0, none⟩), .pointer (some ⟨W + 2, 0, none⟩), .pointer (some ⟨W + 8, 0, none⟩), .pointer (some ⟨W + 3, 0, none⟩), .pointer (some ⟨W + 9, 0, none⟩)]
structure FSt (W n K m : Nat) (aS : Option Addr) (capS : Nat) (aP : Option Addr) (capP : Nat) (S : Nat → Int) (C : Int) (PP : List Pr) (I U : Nat → Int) (l : Int) (w : World) : Prop where
  size : W + 10 ≤ w.heap.size
  c1 : w.cell? ⟨W, 0, none⟩ = some (.slice aS n capS)
  c2 : w.cell? ⟨W + 6, 0, none⟩ = some (.slice (some ⟨W + 5, 0, none⟩) n n)
  c3 : w.cell? ⟨W + 1, 0, none⟩ = some (.slice aP m capP)
  c4 : w.cell? ⟨W + 4, 0, none⟩ = some (.int .i64 l)
  f4 : w.frozen? ⟨W + 4, 0, none⟩ = false
  c5 : w.cell? ⟨W + 2, 0, none⟩ = some (.int .i64 K)
  c6 : w.cell? ⟨W + 8, 0, none⟩ = some (.slice (some ⟨W + 7, 0, none⟩) K K)
  c7 : w.cell? ⟨W + 3, 0, none⟩ = some (.int .i64 C)
  c8 : w.cell? ⟨W + 9, 0, none⟩ = some (.func (.func 54) #[] (caps W))
  s : ∀ t, t < n → ∃ g, aS = some ⟨g, 0, none⟩ ∧ g < W ∧ w.cell? ⟨g, t, none⟩ = some (.int .i64 (S t))
  pr : ∀ j, j < m → ∃ g, aP = some ⟨g, 0, none⟩ ∧ g < W ∧ w.cell? ⟨g, j * 2, none⟩ = some (.int .i64 ((PP.getD j (0, 0)).1)) ∧ w.cell? ⟨g, j * 2 + 1, none⟩ = some (.int .i64 ((PP.getD j (0, 0)).2))
  rI : RowAt (W + 5) n I w
  rU : RowAt (W + 7) K U w
section
variable {W n K m : Nat} {aS : Option Addr} {capS : Nat} {aP : Option Addr} {capP : Nat} {S : Nat → Int} {C : Int} {PP : List Pr} {I U : Nat → Int} {l : Int} {w : World}
theorem FSt.drew (h : FSt W n K m aS capS aP capP S C PP I U l w) (q : Nat) : FSt W n K m aS capS aP capP S C PP I U l (w.drewN q) :=
  ⟨h.size, h.c1, h.c2, h.c3, h.c4, h.f4, h.c5, h.c6, h.c7, h.c8, h.s, h.pr, h.rI, h.rU⟩
theorem FSt.drew1 (h : FSt W n K m aS capS aP capP S C PP I U l w) : FSt W n K m aS capS aP capP S C PP I U l w.drew :=
  ⟨h.size, h.c1, h.c2, h.c3, h.c4, h.f4, h.c5, h.c6, h.c7, h.c8, h.s, h.pr, h.rI, h.rU⟩
theorem FSt.to (h : FSt W n K m aS capS aP capP S C PP I U l w) {w' : World} {I' U' : Nat → Int} {l' : Int} (hs : w.heap.size ≤ w'.heap.size) (hb : ∀ k, k < W + 10 → k ≠ W + 4 → k ≠ W + 5 → k ≠ W + 7 → w'.heap[k]? = w.heap[k]?) (c4 : w'.cell? ⟨W + 4, 0, none⟩ = some (.int .i64 l')) (f4 : w'.frozen? ⟨W + 4, 0, none⟩ = false)
    (rI : RowAt (W + 5) n I' w') (rU : RowAt (W + 7) K U' w') : FSt W n K m aS capS aP capP S C PP I' U' l' w' := by
  have c : ∀ k, k < W + 10 → k ≠ W + 4 → k ≠ W + 5 → k ≠ W + 7 → ∀ o, w'.cell? ⟨k, o, none⟩ = w.cell? ⟨k, o, none⟩ := fun k h1 h2 h3 h4 o => World.cell?_of_block (w := w) (hb k h1 h2 h3 h4)
  exact ⟨by have := h.size; omega, by rw [c W (by omega) (by omega) (by omega) (by omega)]; exact h.c1, by rw [c _ (by omega) (by omega) (by omega) (by omega)]; exact h.c2, by rw [c _ (by omega) (by omega) (by omega) (by omega)]; exact h.c3, c4, f4, by rw [c _ (by omega) (by omega) (by omega) (by omega)]; exact h.c5,
    by rw [c _ (by omega) (by omega) (by omega) (by omega)]; exact h.c6, by rw [c _ (by omega) (by omega) (by omega) (by omega)]; exact h.c7, by rw [c _ (by omega) (by omega) (by omega) (by omega)]; exact h.c8, fun t ht => by
      obtain ⟨g, h1, h2, h3⟩ := h.s t ht
      exact ⟨g, h1, h2, by rw [c g (by omega) (by omega) (by omega) (by omega)]; exact h3⟩, fun j hj => by
      obtain ⟨g, h1, h2, h3, h4⟩ := h.pr j hj
      exact ⟨g, h1, h2, by rw [c g (by omega) (by omega) (by omega) (by omega)]; exact h3, by rw [c g (by omega) (by omega) (by omega) (by omega)]; exact h4⟩, rI, rU⟩
theorem FSt.below (h : FSt W n K m aS capS aP capP S C PP I U l w) {w' : World} (B : Go.RowKit.Below w.heap.size w w') : FSt W n K m aS capS aP capP S C PP I U l w' := by
  have hs := h.size
  have hb : ∀ k, k < W + 10 → w'.heap[k]? = w.heap[k]? := fun k hk => B.block k (by omega)
  exact h.to B.size (fun k h1 _ _ _ => hb k h1) (by rw [World.cell?_of_block (w := w) (hb _ (by show W + 4 < _; omega))]; exact h.c4) (by rw [World.frozen?_of_block (w := w) (hb _ (by show W + 4 < _; omega))]; exact h.f4) (h.rI.block (hb _ (by omega))) (h.rU.block (hb _ (by omega)))
theorem FSt.setL (h : FSt W n K m aS capS aP capP S C PP I U l w) (x : Int) : FSt W n K m aS capS aP capP S C PP I U x (w.setCell ⟨W + 4, 0, none⟩ (.int .i64 x)) :=
  h.to (by rw [size_set]; exact Nat.le_refl _) (fun k _ h2 _ _ => heap_set_other _ _ _ h2) (World.cell?_setCell_same _ _ _ h.c4) (by rw [World.frozen?_setCell]; exact h.f4) (h.rI.block (heap_set_other _ _ _ (by show W + 5 ≠ W + 4; omega))) (h.rU.block (heap_set_other _ _ _ (by show W + 7 ≠ W + 4; omega)))
theorem FSt.setU (h : FSt W n K m aS capS aP capP S C PP I U l w) {b : Nat} (hb : b < K) (x : Int) : FSt W n K m aS capS aP capP S C PP I (up U b x) l (w.setCell ⟨W + 7, b, none⟩ (.int .i64 x)) :=
  h.to (by rw [size_set]; exact Nat.le_refl _) (fun k _ _ _ h4 => heap_set_other _ _ _ h4) (by rw [World.cell?_setCell_other _ _ _ _ (by simp)]; exact h.c4) (by rw [World.frozen?_setCell]; exact h.f4) (h.rI.block (heap_set_other _ _ _ (by show W + 5 ≠ W + 7; omega))) (h.rU.set hb x)
theorem FSt.setI (h : FSt W n K m aS capS aP capP S C PP I U l w) {b : Nat} (hb : b < n) (x : Int) : FSt W n K m aS capS aP capP S C PP (up I b x) U l (w.setCell ⟨W + 5, b, none⟩ (.int .i64 x)) :=
  h.to (by rw [size_set]; exact Nat.le_refl _) (fun k _ _ h3 _ => heap_set_other _ _ _ h3) (by rw [World.cell?_setCell_other _ _ _ _ (by simp)]; exact h.c4) (by rw [World.frozen?_setCell]; exact h.f4) (h.rI.set hb x) (h.rU.block (heap_set_other _ _ _ (by show W + 7 ≠ W + 5; omega)))
theorem FSt.congrU (h : FSt W n K m aS capS aP capP S C PP I U l w) {U' : Nat → Int} (e : ∀ t, t < K → U t = U' t) : FSt W n K m aS capS aP capP S C PP I U' l w :=
  ⟨h.size, h.c1, h.c2, h.c3, h.c4, h.f4, h.c5, h.c6, h.c7, h.c8, h.s, h.pr, h.rI, h.rU.congr e⟩
end
theorem below_set {W : Nat} {w w' : World} (h : Go.RowKit.Below W w w') (k o : Nat) (hk : W ≤ k) (v : Value) : Go.RowKit.Below W w (w'.setCell ⟨k, o, none⟩ v) := h.setCell hk v
theorem below_drew1 {W : Nat} {w w' : World} (h : Go.RowKit.Below W w w') : Go.RowKit.Below W w w'.drew := ⟨h.os, h.tape, h.output, h.size, h.block⟩
theorem below_dN {W : Nat} {w w' : World} (h : Go.RowKit.Below W w w') (q : Nat) : Go.RowKit.Below W w (w'.drewN q) := ⟨h.os, h.tape, h.output, h.size, h.block⟩
set_option maxHeartbeats 2000000 in
set_option maxRecDepth 10000 in
theorem try_c {W n K m : Nat} {aS : Option Addr} {capS : Nat} {aP : Option Addr} {capP : Nat} {S : Nat → Int} {C : Int} {PP : List Pr} (G : Giv n K S C PP) (hm : PP.length = m) : ∀ (rem : Nat) {N : List Nat} {I U : Nat → Int} {l : Int} {w : World} (b0 : List Nat),
    N.length + rem = n → -1 ≤ l → (∀ t, t < K → 0 ≤ U t ∧ U t ≤ 4096) → (∀ t, t < N.length → I t = (asn N t : Int)) → FSt W n K m aS capS aP capP S C PP I U l w →
    Calls Try.prog 54 (#[.int .i64 N.length] ++ caps W) w fun e w' => e = .returned (.tuple #[]) ∧ ∃ (l' : Int) (I' : Nat → Int) (b' : List Nat), FSt W n K m aS capS aP capP S C PP I' U l' w' ∧ (∀ t, t < N.length → I' t = (asn N t : Int)) ∧ Go.RowKit.Below W w w' ∧ Res PP S C K n N U K l l' b0 b' := by
  intro rem
  induction rem with
  | zero =>
    intro N I U l w b0 hrem hl hU hI h
    have hn6 := G.n6
    have hlen := G.len
    have htog := tog_le PP (asn N)
    have hi : N.length = n := by omega
    have HP : Hid _ := h
    have HI : Hid (∀ t, t < N.length → I t = (asn N t : Int)) := hI
    have hc1 := h.c1
    have hc2 := h.c2
    have hc3 := h.c3
    have hc4 := h.c4
    have ht := together_c (n := n) (cap := n) (m := m) (cap1 := capP) (a0 := some ⟨W + 5, 0, none⟩) (a1 := aP) (N := asn N) (PP := PP) (w := w) hm (by omega) (by omega) (fun t ht => ⟨W + 5, rfl, by have := h.size; omega, by rw [← hI t (by omega)]; exact (h.rI t ht).1⟩) (fun j hj => by
      obtain ⟨g, q1, q2, q3, q4⟩ := h.pr j hj
      exact ⟨g, q1, by have := h.size; omega, q3, q4⟩) (fun x hx => by have := (G.pp x hx).2; unfold PackLaw.hi at this; omega)
    obtain ⟨tg, htg⟩ : ∃ tg, tog PP (asn N) = tg := ⟨_, rfl⟩
    have HTG : Hid (tog PP (asn N) = tg) := htg
    rw [htg] at ht htog
    clear htg hU hI h
    rw [hi]
    unfold caps
    go_enter Try.func54, Try.ntmps54
    go_wp2_with fail
    refine ht.mono ?_
    rintro e w1 ⟨rfl, B1⟩
    have hP1 : Hid (FSt W n K m aS capS aP capP S C PP I U l w1) := HP.out.below B1
    have hsz := HP.out.size
    have B2 : Go.RowKit.Below W w w1 := B1.mono (by omega)
    have d4 := hP1.out.c4
    have f4 := hP1.out.f4
    clear hc1 hc2 hc3 hc4 ht B1 HP
    by_cases s1 : l < 0
    · go_wp2_with fail
      refine bodyPost_ret (results_none (by rfl) _ _ _) rfl ?_
      refine ⟨rfl, (tg : Int), I, N, hP1.out.setL _, by rw [← hi]; exact HI.out, below_set B2 _ _ (by omega) _, ?_⟩
      have hd := Res.done (PP := PP) (S := S) (C := C) (K := K) (n := n) (N := N) (U := U) (B := K) (l := l) (b := b0) hi (.inl s1)
      rw [HTG.out] at hd
      exact hd
    · by_cases s2 : (tg : Int) < l
      · go_wp2_with fail
        refine bodyPost_ret (results_none (by rfl) _ _ _) rfl ?_
        refine ⟨rfl, (tg : Int), I, N, hP1.out.setL _, by rw [← hi]; exact HI.out, below_set B2 _ _ (by omega) _, ?_⟩
        have hd := Res.done (PP := PP) (S := S) (C := C) (K := K) (n := n) (N := N) (U := U) (B := K) (l := l) (b := b0) hi (.inr (by rw [HTG.out]; exact s2))
        rw [HTG.out] at hd
        exact hd
      · have hall : confTo PP (asn N) N.length = tog PP (asn N) := by rw [hi]; exact confTo_all (fun x hx => (G.pp x hx).2) _
        have HALL : Hid _ := hall
        clear hall
        go_wp2_with fail
        refine bodyPost_ret (results_none (by rfl) _ _ _) rfl ?_
        exact ⟨rfl, l, I, b0, hP1.out, by rw [← hi]; exact HI.out, B2, Res.stop (by omega) (by rw [HALL.out, HTG.out]; omega)⟩
  | succ rem ih =>
    intro N I U l w b0 hrem hl hU hI h
    have hn6 := G.n6
    have hk8 := G.k8
    have HIH : Hid _ := @ih
    have HU : Hid (∀ t, t < K → 0 ≤ U t ∧ U t ≤ 4096) := hU
    have HP : Hid _ := h
    have HI : Hid (∀ t, t < N.length → I t = (asn N t : Int)) := hI
    have hc1 := h.c1
    have hc5 := h.c5
    obtain ⟨i, hi⟩ : ∃ i, N.length = i := ⟨_, rfl⟩
    have HL : Hid (N.length = i) := hi
    rw [hi] at hrem ⊢
    have hneq : ((i : Int) == (n : Int)) = false := by simp; omega
    have hiN : (i : Int) < (n : Int) := by omega
    clear ih hU hI h hi
    unfold caps
    go_enter Try.func54, Try.ntmps54
    go_wp2_with fail
    go_loopw [28] (fun ib wr => ∃ (b : Nat) (l' : Int) (I' : Nat → Int) (b' : List Nat), ib = .int .i64 b ∧ b ≤ K ∧ Hid (FSt W n K m aS capS aP capP S C PP I' U l' wr) ∧ Hid (∀ t, t < i → I' t = (asn N t : Int)) ∧ Hid (Go.RowKit.Below W w wr) ∧ Hid (Res PP S C K n N U b l l' b0 b'))
      (fun ib _ => K - (intOf ib).toNat)
    case atStart => exact ⟨0, l, I, b0, rfl, by omega, HP.out, by rw [← HL.out]; exact HI.out, Below.refl _ _, Res.start hl (by have := HL.out; omega)⟩
    case round =>
      clear hc1 hc5 HP HI
      obtain ⟨b, l', I', b', rfl, hb, hP, hI, hO, hR⟩ := hrel
      by_cases hlt : b < K
      · have hz : (b : Int) < (K : Int) := by omega
        obtain ⟨gS, rfl, hgS, cSi⟩ := hP.out.s i (by omega)
        have c1 := hP.out.c1
        have c6 := hP.out.c6
        have c7 := hP.out.c7
        have cb := (hP.out.rU b hlt).1
        have hub := HU.out b hlt
        have hsi := G.s i (by omega)
        have hcc := G.c
        by_cases hov : C < U b + S i
        · have hov2 : ¬ U b + S i ≤ C := by omega
          go_wp2_with fail
          go_quiet (fail)
          clear c1 c6 c7 cb cSi
          go_wp2_with fail
          go_roundw
          case rel => exact ⟨b + 1, l', I', b', by go_num, by omega, hP.out.drew nq, hI.out, below_dN hO.out nq, hR.out.over (by rw [HL.out]; exact hov)⟩
          case measure => simp [intOf]; omega
        · have hov2 : U b + S i ≤ C := by omega
          go_wp2_with fail
          go_quiet (fail)
          have hP2 : Hid (FSt W n K m (some ⟨gS, 0, none⟩) capS aP capP S C PP I' U l' (wr.drewN nq)) := hP.out.drew nq
          have hO2 : Hid (Go.RowKit.Below W w (wr.drewN nq)) := below_dN hO.out nq
          have d1 : (wr.drewN nq).cell? ⟨W, 0, none⟩ = some (.slice (some ⟨gS, 0, none⟩) n capS) := c1
          have d6 : (wr.drewN nq).cell? ⟨W + 8, 0, none⟩ = some (.slice (some ⟨W + 7, 0, none⟩) K K) := c6
          have db : (wr.drewN nq).cell? ⟨W + 7, b, none⟩ = some (.int .i64 (U b)) := cb
          have dS : (wr.drewN nq).cell? ⟨gS, i, none⟩ = some (.int .i64 (S i)) := cSi
          have df : (wr.drewN nq).frozen? ⟨W + 7, b, none⟩ = false := (hP.out.rU b hlt).2
          clear c1 c6 c7 cb cSi hP hO
          generalize wr.drewN nq = w2 at hP2 hO2 d1 d6 db dS df ⊢
          go_wp2_with fail
          go_region
          obtain ⟨x, hx⟩ : ∃ x, U b + S i = x := ⟨_, rfl⟩
          rw [hx]
          have hP3 : Hid (FSt W n K m (some ⟨gS, 0, none⟩) capS aP capP S C PP I' (up U b x) l' (w2.setCell ⟨W + 7, b, none⟩ (.int .i64 x)).drew) := (hP2.out.setU hlt x).drew1
          have hO3 : Hid (Go.RowKit.Below W w (w2.setCell ⟨W + 7, b, none⟩ (.int .i64 x)).drew) := below_drew1 (below_set hO2.out _ _ (by omega) _)
          clear d1 d6 db dS df hP2 hO2
          generalize (w2.setCell ⟨W + 7, b, none⟩ (.int .i64 x)).drew = w3 at hP3 hO3 ⊢
          have e2 := hP3.out.c2
          have e8 := hP3.out.c8
          have e8' : (w3.setCell ⟨W + 5, i, none⟩ (.int .i64 b)).cell? ⟨W + 9, 0, none⟩ = some (.func (.func 54) #[] (caps W)) := by rw [World.cell?_setCell_other _ _ _ _ (by simp)]; exact e8
          unfold caps at e8'
          obtain ⟨eI, fI⟩ := hP3.out.rI i (by omega)
          have hP4 : Hid (FSt W n K m (some ⟨gS, 0, none⟩) capS aP capP S C PP (up I' i b) (up U b x) l' (w3.setCell ⟨W + 5, i, none⟩ (.int .i64 b))) := hP3.out.setI (by omega) _
          have hO4 : Hid (Go.RowKit.Below W w (w3.setCell ⟨W + 5, i, none⟩ (.int .i64 b))) := below_set hO3.out _ _ (by omega) _
          have hnext := HIH.out (N := N ++ [b]) b' (by have := HL.out; simp; omega) hR.out.neg (fun t ht => by
            unfold up
            by_cases e : t = b
            · simp only [if_pos e]; omega
            · simp only [if_neg e]; exact HU.out t ht) (fun t ht => by
            unfold up
            have hlen : t < i + 1 := by have := HL.out; simp at ht; omega
            by_cases e : t = i
            · simp only [if_pos e]; subst e; simp [asn, List.getD, ← HL.out]
            · simp only [if_neg e]; rw [hI.out t (by omega)]; simp [asn, List.getD, List.getElem?_append_left (show t < N.length by have := HL.out; omega)]) hP4.out
          have hl1 : (N ++ [b]).length = i + 1 := by have := HL.out; simp; omega
          rw [hl1] at hnext
          unfold caps at hnext
          have hcast : ((i + 1 : Nat) : Int) = (i : Int) + 1 := by omega
          rw [hcast] at hnext
          clear e8 hl1 hcast
          go_wp2_with fail
          refine hnext.mono ?_
          rintro e w5 ⟨rfl, l2, I2, b2, hP5, hI5, hO5, hR5⟩
          have hO6 : Hid (Go.RowKit.Below W w w5) := hO4.out.trans hO5
          have HP5 : Hid _ := hP5
          have HR5 : Hid _ := hR5
          have HI5 : Hid (∀ t, t < i → I2 t = (asn N t : Int)) := fun t ht => by
            rw [hI5 t (by have := HL.out; simp; omega)]
            simp [asn, List.getD, List.getElem?_append_left (show t < N.length by have := HL.out; omega)]
          clear hnext hP4 hO4 hP3 hO3 e2 e8' eI fI hP5 hI5 hO5 hR5
          have d1 := HP5.out.c1
          have d6 := HP5.out.c6
          have cb := (HP5.out.rU b hlt).1
          have df := (HP5.out.rU b hlt).2
          obtain ⟨gS', hgS', _, dS⟩ := HP5.out.s i (by omega)
          obtain rfl : gS = gS' := by simpa using hgS'
          have hupb : up U b x b = x := by simp [up]
          rw [hupb] at cb
          have hxs : x - S i = U b := by omega
          have HXS : Hid (x - S i = U b) := hxs
          clear hgS' hupb hxs
          go_wp2_with fail
          go_region
          have hP9 : Hid (FSt W n K m (some ⟨gS, 0, none⟩) capS aP capP S C PP I2 U l2 (w5.setCell ⟨W + 7, b, none⟩ (.int .i64 (x - S i))).drew) := by
            have h := (HP5.out.setU hlt (x - S i)).congrU (U' := U) fun t ht => by
              unfold up
              by_cases e : t = b
              · simp only [if_pos e, e]; exact HXS.out
              · simp only [if_neg e]
            exact h.drew1
          have hO9 : Hid (Go.RowKit.Below W w (w5.setCell ⟨W + 7, b, none⟩ (.int .i64 (x - S i))).drew) := below_drew1 (below_set hO6.out _ _ (by omega) _)
          clear d1 d6 cb df dS HP5 hO6
          generalize (w5.setCell ⟨W + 7, b, none⟩ (.int .i64 (x - S i))).drew = w8 at hP9 hO9 ⊢
          go_wp2_with fail
          go_roundw
          case rel => exact ⟨b + 1, l2, I2, b2, by go_num, by omega, hP9.out, HI5.out, hO9.out, hR.out.next hlt (by rw [HL.out]; omega) (fun t _ => by rw [HL.out, hx]) HR5.out⟩
          case measure => simp [intOf]; omega
      · have hz : ¬ (b : Int) < (K : Int) := by omega
        have hbK : K = b := by omega
        subst hbK
        go_wp2_with fail
        go_end0
        first | exact ⟨rfl, l', I', b', hP.out, hI.out, hO.out, hR.out⟩ | exact ⟨rfl, l', I', hP.out, hI.out, hO.out, b', hR.out⟩
end Go.Proofs.Yteabbkagekdehaa
