/- The contract of Stream.Next for the abstract evaluator. -/
import Derived.Test.YteabbkagekdehaaAe17
import Derived.Test.YteabbkagekdehaaNextWalk
set_option linter.unusedVariables false
namespace Go.Proofs.Yteabbkagekdehaa
open Go.AE Go.RowKit Go.IntWalk
/-- the list of numbers that came in -/
structure Raw where
  a : Option Addr
  len : Nat
  cap : Nat
  zs : List Int
def Raw.at (r : Raw) (c : Nat) : Int := if r.len = 0 then wrap64 (((c : Int) + 1) * 7919) else rawOf (r.zs.getD (c % r.len) 0) c r.len
/-- her numbers are there, and nobody knows their block -/
def Raw.J (r : Raw) (μ : Mu) (w : World) : Prop :=
  r.len = 0 ∨ ∃ b off, r.a = some ⟨b, off, none⟩ ∧ r.len ≤ maxLen ∧ (∀ i, i < r.len → w.cell? ⟨b, off + i, none⟩ = some (.int .i64 (r.zs.getD i 0))) ∧ ∀ b' g sz, μ b' g ≠ some (b, sz)
theorem Raw.keep (r : Raw) {A A' : AHeap} {μ μ' : Mu} {w w' : World} (h : r.J μ w) (X : Ext A A' μ μ' w w') : r.J μ' w' := by
  rcases h with h | ⟨b, off, h1, h2, h3, h4⟩
  · exact .inl h
  · by_cases h0 : r.len = 0
    · exact .inl h0
    have hb : b < w.heap.size := by
      have := h3 0 (by omega)
      unfold World.cell? at this
      cases hh : w.heap[b]? with
      | none => simp [hh] at this
      | some o => exact (Array.getElem?_eq_some_iff.1 hh).1
    have hf : w'.heap[b]? = w.heap[b]? := X.frame b hb fun b' g sz h _ => absurd h (h4 b' g sz)
    refine .inr ⟨b, off, h1, h2, fun i hi => ?_, fun b' g sz h => ?_⟩
    · rw [← h3 i hi]; unfold World.cell?; simp only [hf]
    · rcases X.range b' g b sz h with ⟨g', h5⟩ | h5
      · exact h4 b' g' sz h5
      · omega
abbrev Raw.val (r : Raw) : Val := { ρ := fun c => r.at c, o := fun _ => .slice r.a r.len r.cap, J := r.J, keep := fun h X => r.keep h X }
def extNext (args : List AV) (H : AHeap) : Option (AV × AHeap) :=
  match args with
  | [.ptr b g o, .int .i64 n] => (aRead1 H b g o).bind fun l => (aRead1 H b g (o + 1)).bind fun c => match l, c with
    | .opq 0, .int .i64 c => bif decide (0 < n) && decide (n ≤ 4294967296) && decide (0 ≤ c) && decide (c < 1000000000) then
        (aWrite H b g (o + 1) [.int .i64 (c + 1)]).bind fun H' => some (.sym .i64 (.md c.toNat n.toNat), H') else none
    | _, _ => none
  | _ => none
theorem extNext_inv {args : List AV} {A : AHeap} {v : AV} {A' : AHeap} (h : extNext args A = some (v, A')) :
    ∃ b g o n c, args = [.ptr b g o, .int .i64 n] ∧ aRead1 A b g o = some (.opq 0) ∧ aRead1 A b g (o + 1) = some (.int .i64 c) ∧ (0 < n ∧ n ≤ 4294967296 ∧ 0 ≤ c ∧ c < 1000000000) ∧
      aWrite A b g (o + 1) [.int .i64 (c + 1)] = some A' ∧ v = .sym .i64 (.md c.toNat n.toNat) := by
  unfold extNext at h
  split at h
  · rename_i b g o n
    simp only [Option.bind_eq_some_iff] at h
    obtain ⟨l, h1, c, h2, h⟩ := h
    split at h
    · rename_i c
      by_cases hc : ((0 < n ∧ n ≤ 4294967296) ∧ 0 ≤ c) ∧ c < 1000000000
      · simp only [hc, decide_true, Bool.and_self, cond_true, Option.bind_eq_some_iff, Option.some.injEq, Prod.mk.injEq] at h
        obtain ⟨H', h3, rfl, rfl⟩ := h
        exact ⟨b, g, o, n, c, rfl, h1, h2, ⟨hc.1.1.1, hc.1.1.2, hc.1.2, hc.2⟩, h3, rfl⟩
      · exfalso
        have : (decide (0 < n) && decide (n ≤ 4294967296) && decide (0 ≤ c) && decide (c < 1000000000)) = false := by
          cases hb : (decide (0 < n) && decide (n ≤ 4294967296) && decide (0 ≤ c) && decide (c < 1000000000)) with
          | false => rfl
          | true => simp only [Bool.and_eq_true, decide_eq_true_eq] at hb; exact absurd hb hc
        rw [this] at h; cases h
    · cases h
  · cases h
theorem extNext_n {args : List AV} {A : AHeap} {v : AV} {A' : AHeap} (h : extNext args A = some (v, A')) : A.n ≤ A'.n := by
  obtain ⟨b, g, o, n, c, _, _, _, _, h5, _⟩ := extNext_inv h
  letI := Val.plain
  rw [aWrite_n h5]; exact Nat.le_refl _
theorem store1 {P : Program} {w : World} {a : Addr} {u : Value} {k : IntKind} {n : Int} (hc : w.cell? a = some u) (hf : ¬ w.frozen? a = true) (hs : a.spot = none) :
    (storeCells a [.int k n]).run P w = .ok () (w.setCell a (.int k n)) := by
  obtain ⟨b, o, s⟩ := a
  simp only at hs
  subst hs
  simp [storeCells, Addr.add_lit, run_store_int, stored, hc, hf]
theorem SameBut.rel [Val] {A : AHeap} {μ : Mu} {w w' : World} (R : Rel A μ w) (h : SameBut w w') : Rel A μ w' :=
  ⟨fun b g c sz hm => by rw [h.1]; exact R.bound b g c sz hm, R.inj, fun b B hb g c sz hm => by rw [h.1]; exact R.blk b B hb g c sz hm⟩
theorem SameBut.ext {A A' : AHeap} {μ μ' : Mu} {w w1 w' : World} (X : Ext A A' μ μ' w w1) (h : SameBut w1 w') : Ext A A' μ μ' w w' :=
  ⟨X.mono, X.above, X.fresh, X.n, by rw [h.2.1]; exact X.os, by rw [h.2.2.1]; exact X.tape, by rw [h.2.2.2]; exact X.output, by rw [h.1]; exact X.size, X.range, X.wr, fun c hc hf => by rw [h.1]; exact X.frame c hc hf⟩
theorem extNext_ok (r : Raw) {args : List AV} {A : AHeap} {v : AV} {A' : AHeap} (h : extNext args A = some (v, A')) :
    letI := r.val
    ∀ μ w us, Rel A μ w → Val.J μ w → VRs μ args us → Fresh μ A.n A'.n →
      Calls Try.prog 23 us.toArray w fun e w' => ∃ u μ', e = .returned u ∧ VR μ' v u ∧ Rel A' μ' w' ∧ Ext A A' μ μ' w w' := by
  letI := r.val
  intro μ w us R hJ hus _
  obtain ⟨b, g, o, n, c, rfl, h1, h2, ⟨n0, n1, c0, c1⟩, h5, rfl⟩ := extNext_inv h
  simp only [VRs] at hus
  obtain ⟨u1, us1, rfl, hu1, u2, us2, rfl, hu2, rfl⟩ := hus
  simp only [VR] at hu1 hu2
  obtain ⟨cb, sz, hm, rfl⟩ := hu1
  subst hu2
  obtain ⟨x1, q1, _, q2⟩ := aRead1_sound R h1 hm
  obtain ⟨x2, q3, _, q4⟩ := aRead1_sound R h2 hm
  simp only [VR] at q1 q3
  obtain ⟨q1, _⟩ := q1
  subst q3
  have q1' : x1 = .slice r.a r.len r.cap := q1
  subst q1'
  obtain ⟨w1, s1, s2, s3⟩ := write_sound (P := Try.prog) R h5 (us := [.int .i64 (c + 1)]) (VRs.cons (by simp only [VR]) VRs.nil) hm
  -- not frozen
  have hfz : ¬ w.frozen? ⟨cb, o + 1, none⟩ = true := by
    simp only [aWrite, Option.bind_eq_some_iff] at h5
    obtain ⟨⟨wr, gen, cells⟩, hrow, h6⟩ := h5
    cases wr with
    | false => simp at h6
    | true =>
      obtain ⟨cs, e, fr, hw, _, hfr, _⟩ := Rel.row R hrow hm
      have := hfr rfl
      subst this
      simp [World.frozen?, hw]
  have hw1 : w1 = w.setCell ⟨cb, o + 1, none⟩ (.int .i64 (c + 1)) := by
    have := store1 (P := Try.prog) (k := .i64) (n := c + 1) q4 hfz rfl
    rw [this] at s1
    cases s1; rfl
  subst hw1
  have e1 : (w.setCell ⟨cb, o + 1, none⟩ (.int .i64 (c + 1))).cell? ⟨cb, o, none⟩ = some (.slice r.a r.len r.cap) := by
    rw [World.cell?_setCell_other _ _ _ _ (by simp)]; exact q2
  have e2 : (w.setCell ⟨cb, o + 1, none⟩ (.int .i64 (c + 1))).cell? ⟨cb, o + 1, none⟩ = some (.int .i64 (c + 1)) := World.cell?_setCell_same _ _ _ q4
  have hcn : ((c.toNat : Nat) : Int) = c := by omega
  have hnn : ((n.toNat : Nat) : Int) = n := by omega
  have hval : ∀ x : Int, x = r.at c.toNat → VR μ (.sym .i64 (.md c.toNat n.toNat)) (.int .i64 (x % n)) := fun x hx => by
    simp only [VR, Sy.ev, hnn]
    rw [hx]
    rfl
  by_cases hl : r.len = 0
  · have q2' := q2
    rw [hl] at q2' e1
    refine (next_walk0 cb o r.a r.cap c n w q2' q4 hfz e1 e2 c0 c1 (by omega) n1).mono ?_
    rintro e w' ⟨rfl, rfl⟩
    exact ⟨_, μ, rfl, hval _ (by simp only [Raw.at, hl, if_true, hcn]), s2, s3⟩
  · rcases hJ with hJ | ⟨lb, off, j1, j2, j3, j4⟩
    · exact absurd hJ hl
    have hmod : c % (r.len : Int) = ((c.toNat % r.len : Nat) : Int) := by rw [Int.natCast_emod, hcn]
    have hlt : c.toNat % r.len < r.len := Nat.mod_lt _ (by omega)
    have hne : cb ≠ lb := fun e => j4 b g sz (by rw [hm, e])
    have e3 : (w.setCell ⟨cb, o + 1, none⟩ (.int .i64 (c + 1))).cell? ⟨lb, off + (c % (r.len : Int)).toNat, none⟩ = some (.int .i64 (r.zs.getD (c.toNat % r.len) 0)) := by
      rw [World.cell?_setCell_other _ _ _ _ (by simp [hne]), hmod, Int.toNat_natCast]
      exact j3 _ hlt
    rw [j1] at q2 e1
    refine (next_walk1 cb o lb off r.len r.cap c n (r.zs.getD (c.toNat % r.len) 0) w (by omega) j2 q2 q4 hfz e1 e2 e3 c0 c1 (by omega) n1).mono ?_
    rintro e w' ⟨rfl, hs⟩
    exact ⟨_, μ, rfl, hval _ (by simp only [Raw.at, if_neg hl, hcn]), hs.rel s2, hs.ext s3⟩
end Go.Proofs.Yteabbkagekdehaa
