/- Stream.Next and Below, walked: the number that a call hands out and the cell that it writes. Conditions: as each theorem types them. -/
import Derived.Test.YteabbkagekdehaaRows
import Derived.WalkKit
import Derived.ProofKit
import Derived.Below
import Derived.BigRegion
import Derived.Test.YteabbkagekdehaaAeD
section
namespace Go.Proofs.Yteabbkagekdehaa
open Go.ChangeShapes Go.WideShapes Go.ChangeAt Go.RowKit Go.IntWalk
set_option linter.unusedVariables false
theorem tmod_emod (x n : Int) (h1 : 1 ≤ n) : x % n = if x.tmod n < 0 then x.tmod n + n else x.tmod n := by
  have h2 := Int.tmod_add_mul_tdiv x n
  have h3 : x.tmod n < n := Int.tmod_lt_of_pos x (by omega)
  have h4 : -n < x.tmod n := by
    have := Int.tmod_lt_of_pos (-x) (b := n) (by omega)
    rw [Int.neg_tmod] at this
    omega
  split
  · rename_i h
    have : x % n = (x.tmod n + n) % n := by
      conv => lhs; rw [← h2]
      rw [Int.add_mul_emod_self_left, Int.add_emod_right]
    rw [this, Int.emod_eq_of_lt (by omega) (by omega)]
  · rename_i h
    have : x % n = (x.tmod n) % n := by
      conv => lhs; rw [← h2]
      rw [Int.add_mul_emod_self_left]
    rw [this, Int.emod_eq_of_lt (by omega) (by omega)]
theorem below_walk (x n : Int) (w : World) (h1 : 1 ≤ n) (h2 : n ≤ 4294967296) :
    Calls Try.prog 57 #[.int .i64 x, .int .i64 n] w fun e w' => e = .returned (.int .i64 (x % n)) ∧ w' = w := by
  have hn : (n < 1) = False := by simp; omega
  have hn0 : n ≠ 0 := by omega
  have h3 : x.tmod n < n := Int.tmod_lt_of_pos x (by omega)
  have h4 : -n < x.tmod n := by
    have := Int.tmod_lt_of_pos (-x) (b := n) (by omega)
    rw [Int.neg_tmod] at this
    omega
  have hm := tmod_emod x n h1
  by_cases hx : x.tmod n < 0
  · rw [if_pos hx] at hm
    go_enter Try.func57, Try.ntmps57
    go_wp2
    go_ret
    exact ⟨by rw [hm]; rfl, rfl⟩
  · rw [if_neg hx] at hm
    go_enter Try.func57, Try.ntmps57
    go_wp2
    go_ret
    exact ⟨rfl, rfl⟩
theorem next_walk0 (c o : Nat) (a : Option Addr) (cap : Nat) (k n : Int) (w : World) (hL : w.cell? ⟨c, o, none⟩ = some (.slice a 0 cap)) (hk : w.cell? ⟨c, o + 1, none⟩ = some (.int .i64 k)) (hz : ¬ w.frozen? ⟨c, o + 1, none⟩ = true)
    (hL' : (w.setCell ⟨c, o + 1, none⟩ (.int .i64 (k + 1))).cell? ⟨c, o, none⟩ = some (.slice a 0 cap)) (hk' : (w.setCell ⟨c, o + 1, none⟩ (.int .i64 (k + 1))).cell? ⟨c, o + 1, none⟩ = some (.int .i64 (k + 1))) (k0 : 0 ≤ k) (k1 : k < 1000000000) (h1 : 1 ≤ n) (h2 : n ≤ 4294967296) :
    Calls Try.prog 23 #[.pointer (some ⟨c, o, none⟩), .int .i64 n] w fun e w' => e = .returned (.int .i64 ((wrap64 ((k + 1) * 7919)) % n)) ∧ w' = w.setCell ⟨c, o + 1, none⟩ (.int .i64 (k + 1)) := by
  have hw : wrap64 (k + 1) = k + 1 := wrap64_in _ (by omega)
  have hw2 : wrap64 ((k + 1) * 7919) = (k + 1) * 7919 := wrap64_in _ (by omega)
  have hn : (n < 1) = False := by simp; omega
  have hp : ((k + 1) * 7919 % n < 0) = False := by simp; exact Int.emod_nonneg _ (by omega)
  go_enter Try.func23, Try.ntmps23
  go_wp2
  go_ret
  exact ⟨by rw [hw2]; rfl, rfl⟩
theorem tmod_lt' (x n : Int) (h1 : 1 ≤ n) : -n < x.tmod n ∧ x.tmod n < n := by
  have h3 : x.tmod n < n := Int.tmod_lt_of_pos x (by omega)
  have h4 : -n < x.tmod n := by
    have := Int.tmod_lt_of_pos (-x) (b := n) (by omega)
    rw [Int.neg_tmod] at this
    omega
  exact ⟨h4, h3⟩
/-- the raw number of call k of a stream with element z at its place -/
def rawOf (z k len : Int) : Int := wrap64 (z % 1073741824 + wrap64 (wrap64 (k / len) * wrap64 (7919 + k % len)))
def SameBut (w w' : World) : Prop := w'.heap = w.heap ∧ w'.os = w.os ∧ w'.tape = w.tape ∧ w'.output = w.output
theorem next_walk1 (c o : Nat) (b off : Nat) (len cap : Nat) (k n z : Int) (w : World) (hlen : 1 ≤ len) (hlen2 : len ≤ maxLen) (hL : w.cell? ⟨c, o, none⟩ = some (.slice (some ⟨b, off, none⟩) len cap)) (hk : w.cell? ⟨c, o + 1, none⟩ = some (.int .i64 k)) (hz : ¬ w.frozen? ⟨c, o + 1, none⟩ = true)
    (hL' : (w.setCell ⟨c, o + 1, none⟩ (.int .i64 (k + 1))).cell? ⟨c, o, none⟩ = some (.slice (some ⟨b, off, none⟩) len cap)) (hk' : (w.setCell ⟨c, o + 1, none⟩ (.int .i64 (k + 1))).cell? ⟨c, o + 1, none⟩ = some (.int .i64 (k + 1)))
    (hel : (w.setCell ⟨c, o + 1, none⟩ (.int .i64 (k + 1))).cell? ⟨b, off + (k % (len : Int)).toNat, none⟩ = some (.int .i64 z)) (k0 : 0 ≤ k) (k1 : k < 1000000000) (h1 : 1 ≤ n) (h2 : n ≤ 4294967296) :
    Calls Try.prog 23 #[.pointer (some ⟨c, o, none⟩), .int .i64 n] w fun e w' => e = .returned (.int .i64 (rawOf z k len % n)) ∧ SameBut (w.setCell ⟨c, o + 1, none⟩ (.int .i64 (k + 1))) w' := by
  have hw : wrap64 (k + 1) = k + 1 := wrap64_in _ (by omega)
  have hw1 : wrap64 (k + 1 - 1) = k := by rw [wrap64_in _ (by omega)]; omega
  have hl0 : ((len : Int) == 0) = false := by simp; omega
  have hl1 : (len : Int) ≠ 0 := by omega
  have ht : k.tmod (len : Int) = k % len := Int.tmod_eq_emod_of_nonneg k0
  have hd : k.tdiv (len : Int) = k / len := Int.tdiv_eq_ediv_of_nonneg k0
  have hi0 : 0 ≤ k % (len : Int) := Int.emod_nonneg _ hl1
  have hi1 : k % (len : Int) < len := Int.emod_lt_of_pos _ (by omega)
  have hr0 : 0 ≤ k / (len : Int) := Int.ediv_nonneg k0 (by omega)
  have hzr := tmod_lt' z 1073741824 (by omega)
  have hzm := tmod_emod z 1073741824 (by omega)
  have hn : (n < 1) = False := by simp; omega
  have hn0 : n ≠ 0 := by omega
  have fin : ∀ X : Int, X = rawOf z k len → (X.tmod n < 0 → wrap64 (X.tmod n + n) = rawOf z k len % n) ∧ (¬ X.tmod n < 0 → X.tmod n = rawOf z k len % n) := by
    intro X hX
    subst hX
    have hr := tmod_lt' (rawOf z k len) n h1
    have hm := tmod_emod (rawOf z k len) n h1
    refine ⟨fun h => ?_, fun h => ?_⟩
    · rw [if_pos h] at hm; rw [hm, wrap64_in _ (by omega)]
    · rw [if_neg h] at hm; rw [hm]
  have done : ∀ X : Int, X = rawOf z k len → ∀ w', SameBut (w.setCell ⟨c, o + 1, none⟩ (.int .i64 (k + 1))) w' →
      (X.tmod n < 0 → Ending.returned (.int .i64 (wrap64 (X.tmod n + n))) = Ending.returned (.int .i64 (rawOf z k len % n)) ∧ SameBut (w.setCell ⟨c, o + 1, none⟩ (.int .i64 (k + 1))) w') ∧
      (0 ≤ X.tmod n → Ending.returned (.int .i64 (X.tmod n)) = Ending.returned (.int .i64 (rawOf z k len % n)) ∧ SameBut (w.setCell ⟨c, o + 1, none⟩ (.int .i64 (k + 1))) w') := by
    intro X hX w' hs
    obtain ⟨f1, f2⟩ := fin X hX
    exact ⟨fun h => ⟨by rw [f1 h], hs⟩, fun h => ⟨by rw [f2 (by omega)], hs⟩⟩
  clear fin
  by_cases hz0 : z.tmod 1073741824 < 0
  · rw [if_pos hz0] at hzm
    have hB : wrap64 (z.tmod 1073741824 + 1073741824 + wrap64 (wrap64 (k / len) * wrap64 (7919 + k % len))) = rawOf z k len := by
      unfold rawOf; rw [hzm]
    have fin := done _ hB _ ⟨rfl, rfl, rfl, rfl⟩
    clear hB done
    go_enter Try.func23, Try.ntmps23
    go_wp2
    go_region
    go_wp2
    go_region
    go_wp2
    all_goals go_ret
    all_goals first
      | exact ⟨(fin.1 (by assumption)).1, rfl, rfl, rfl, rfl⟩
      | exact ⟨(fin.2 (by assumption)).1, rfl, rfl, rfl, rfl⟩
  · rw [if_neg hz0] at hzm
    have hB : wrap64 (z.tmod 1073741824 + wrap64 (wrap64 (k / len) * wrap64 (7919 + k % len))) = rawOf z k len := by
      unfold rawOf; rw [hzm]
    have fin := done _ hB _ ⟨rfl, rfl, rfl, rfl⟩
    clear hB done
    go_enter Try.func23, Try.ntmps23
    go_wp2
    go_region
    go_wp2
    go_region
    go_wp2
    all_goals go_ret
    all_goals first
      | exact ⟨(fin.1 (by assumption)).1, rfl, rfl, rfl, rfl⟩
      | exact ⟨(fin.2 (by assumption)).1, rfl, rfl, rfl, rfl⟩
end Go.Proofs.Yteabbkagekdehaa
end
section
/- The contract of Stream.Next for the abstract evaluator. -/
set_option linter.unusedVariables false
namespace Go.Proofs.Yteabbkagekdehaa
open Go.AE Go.RowKit Go.IntWalk
/-- the list of numbers that came in -/
structure Raw where
  a : Option Addr
  len : Nat
  cap : Nat
  zs : List Int
def Raw.at (r : Raw) (c : Nat) : Int := if r.len = 0 then wrap64 (((c : Int) + 1) * 7919) else rawOf (r.zs.getD (c % r.len) 0) c r.len
/-- her numbers are there, and nobody knows their block -/
def Raw.J (r : Raw) (μ : Mu) (w : World) : Prop :=
  r.len = 0 ∨ ∃ b off, r.a = some ⟨b, off, none⟩ ∧ r.len ≤ maxLen ∧ (∀ i, i < r.len → w.cell? ⟨b, off + i, none⟩ = some (.int .i64 (r.zs.getD i 0))) ∧ ∀ b' g sz, μ b' g ≠ some (b, sz)
theorem Raw.keep (r : Raw) {A A' : AHeap} {μ μ' : Mu} {w w' : World} (h : r.J μ w) (X : Ext A A' μ μ' w w') : r.J μ' w' := by
  rcases h with h | ⟨b, off, h1, h2, h3, h4⟩
  · exact .inl h
  · by_cases h0 : r.len = 0
    · exact .inl h0
    have hb : b < w.heap.size := by
      have := h3 0 (by omega)
      unfold World.cell? at this
      cases hh : w.heap[b]? with
      | none => simp [hh] at this
      | some o => exact (Array.getElem?_eq_some_iff.1 hh).1
    have hf : w'.heap[b]? = w.heap[b]? := X.frame b hb fun b' g sz h _ => absurd h (h4 b' g sz)
    refine .inr ⟨b, off, h1, h2, fun i hi => ?_, fun b' g sz h => ?_⟩
    · rw [← h3 i hi]; unfold World.cell?; simp only [hf]
    · rcases X.range b' g b sz h with ⟨g', h5⟩ | h5
      · exact h4 b' g' sz h5
      · omega
abbrev Raw.val (r : Raw) : Val := { ρ := fun c => r.at c, o := fun _ => .slice r.a r.len r.cap, J := r.J, keep := fun h X => r.keep h X }
def extNext (args : List AV) (H : AHeap) : Option (AV × AHeap) :=
  match args with
  | [.ptr b g o, .int .i64 n] => (aRead1 H b g o).bind fun l => (aRead1 H b g (o + 1)).bind fun c => match l, c with
    | .opq 0, .int .i64 c => bif decide (0 < n) && decide (n ≤ 4294967296) && decide (0 ≤ c) && decide (c < 1000000000) then
        (aWrite H b g (o + 1) [.int .i64 (c + 1)]).bind fun H' => some (.sym .i64 (.md c.toNat n.toNat), H') else none
    | _, _ => none
  | _ => none
theorem extNext_inv {args : List AV} {A : AHeap} {v : AV} {A' : AHeap} (h : extNext args A = some (v, A')) :
    ∃ b g o n c, args = [.ptr b g o, .int .i64 n] ∧ aRead1 A b g o = some (.opq 0) ∧ aRead1 A b g (o + 1) = some (.int .i64 c) ∧ (0 < n ∧ n ≤ 4294967296 ∧ 0 ≤ c ∧ c < 1000000000) ∧
      aWrite A b g (o + 1) [.int .i64 (c + 1)] = some A' ∧ v = .sym .i64 (.md c.toNat n.toNat) := by
  unfold extNext at h
  split at h
  · rename_i b g o n
    simp only [Option.bind_eq_some_iff] at h
    obtain ⟨l, h1, c, h2, h⟩ := h
    split at h
    · rename_i c
      by_cases hc : ((0 < n ∧ n ≤ 4294967296) ∧ 0 ≤ c) ∧ c < 1000000000
      · simp only [hc, decide_true, Bool.and_self, cond_true, Option.bind_eq_some_iff, Option.some.injEq, Prod.mk.injEq] at h
        obtain ⟨H', h3, rfl, rfl⟩ := h
        exact ⟨b, g, o, n, c, rfl, h1, h2, ⟨hc.1.1.1, hc.1.1.2, hc.1.2, hc.2⟩, h3, rfl⟩
      · exfalso
        have : (decide (0 < n) && decide (n ≤ 4294967296) && decide (0 ≤ c) && decide (c < 1000000000)) = false := by
          cases hb : (decide (0 < n) && decide (n ≤ 4294967296) && decide (0 ≤ c) && decide (c < 1000000000)) with
          | false => rfl
          | true => simp only [Bool.and_eq_true, decide_eq_true_eq] at hb; exact absurd hb hc
        rw [this] at h; cases h
    · cases h
  · cases h
theorem extNext_n {args : List AV} {A : AHeap} {v : AV} {A' : AHeap} (h : extNext args A = some (v, A')) : A.n ≤ A'.n := by
  obtain ⟨b, g, o, n, c, _, _, _, _, h5, _⟩ := extNext_inv h
  letI := Val.plain
  rw [aWrite_n h5]; exact Nat.le_refl _
theorem store1 {P : Program} {w : World} {a : Addr} {u : Value} {k : IntKind} {n : Int} (hc : w.cell? a = some u) (hf : ¬ w.frozen? a = true) (hs : a.spot = none) :
    (storeCells a [.int k n]).run P w = .ok () (w.setCell a (.int k n)) := by
  obtain ⟨b, o, s⟩ := a
  simp only at hs
  subst hs
  simp [storeCells, Addr.add_lit, run_store_int, stored, hc, hf]
theorem SameBut.rel [Val] {A : AHeap} {μ : Mu} {w w' : World} (R : Rel A μ w) (h : SameBut w w') : Rel A μ w' :=
  ⟨fun b g c sz hm => by rw [h.1]; exact R.bound b g c sz hm, R.inj, fun b B hb g c sz hm => by rw [h.1]; exact R.blk b B hb g c sz hm⟩
theorem SameBut.ext {A A' : AHeap} {μ μ' : Mu} {w w1 w' : World} (X : Ext A A' μ μ' w w1) (h : SameBut w1 w') : Ext A A' μ μ' w w' :=
  ⟨X.mono, X.above, X.fresh, X.n, by rw [h.2.1]; exact X.os, by rw [h.2.2.1]; exact X.tape, by rw [h.2.2.2]; exact X.output, by rw [h.1]; exact X.size, X.range, X.wr, fun c hc hf => by rw [h.1]; exact X.frame c hc hf⟩
theorem extNext_ok (r : Raw) {args : List AV} {A : AHeap} {v : AV} {A' : AHeap} (h : extNext args A = some (v, A')) :
    letI := r.val
    ∀ μ w us, Rel A μ w → Val.J μ w → VRs μ args us → Fresh μ A.n A'.n →
      Calls Try.prog 23 us.toArray w fun e w' => ∃ u μ', e = .returned u ∧ VR μ' v u ∧ Rel A' μ' w' ∧ Ext A A' μ μ' w w' := by
  letI := r.val
  intro μ w us R hJ hus _
  obtain ⟨b, g, o, n, c, rfl, h1, h2, ⟨n0, n1, c0, c1⟩, h5, rfl⟩ := extNext_inv h
  simp only [VRs] at hus
  obtain ⟨u1, us1, rfl, hu1, u2, us2, rfl, hu2, rfl⟩ := hus
  simp only [VR] at hu1 hu2
  obtain ⟨cb, sz, hm, rfl⟩ := hu1
  subst hu2
  obtain ⟨x1, q1, _, q2⟩ := aRead1_sound R h1 hm
  obtain ⟨x2, q3, _, q4⟩ := aRead1_sound R h2 hm
  simp only [VR] at q1 q3
  obtain ⟨q1, _⟩ := q1
  subst q3
  have q1' : x1 = .slice r.a r.len r.cap := q1
  subst q1'
  obtain ⟨w1, s1, s2, s3⟩ := write_sound (P := Try.prog) R h5 (us := [.int .i64 (c + 1)]) (VRs.cons (by simp only [VR]) VRs.nil) hm
  -- not frozen
  have hfz : ¬ w.frozen? ⟨cb, o + 1, none⟩ = true := by
    simp only [aWrite, Option.bind_eq_some_iff] at h5
    obtain ⟨⟨wr, gen, cells⟩, hrow, h6⟩ := h5
    cases wr with
    | false => simp at h6
    | true =>
      obtain ⟨cs, e, fr, hw, _, hfr, _⟩ := Rel.row R hrow hm
      have := hfr rfl
      subst this
      simp [World.frozen?, hw]
  have hw1 : w1 = w.setCell ⟨cb, o + 1, none⟩ (.int .i64 (c + 1)) := by
    have := store1 (P := Try.prog) (k := .i64) (n := c + 1) q4 hfz rfl
    rw [this] at s1
    cases s1; rfl
  subst hw1
  have e1 : (w.setCell ⟨cb, o + 1, none⟩ (.int .i64 (c + 1))).cell? ⟨cb, o, none⟩ = some (.slice r.a r.len r.cap) := by
    rw [World.cell?_setCell_other _ _ _ _ (by simp)]; exact q2
  have e2 : (w.setCell ⟨cb, o + 1, none⟩ (.int .i64 (c + 1))).cell? ⟨cb, o + 1, none⟩ = some (.int .i64 (c + 1)) := World.cell?_setCell_same _ _ _ q4
  have hcn : ((c.toNat : Nat) : Int) = c := by omega
  have hnn : ((n.toNat : Nat) : Int) = n := by omega
  have hval : ∀ x : Int, x = r.at c.toNat → VR μ (.sym .i64 (.md c.toNat n.toNat)) (.int .i64 (x % n)) := fun x hx => by
    simp only [VR, Sy.ev, hnn]
    rw [hx]
    rfl
  by_cases hl : r.len = 0
  · have q2' := q2
    rw [hl] at q2' e1
    refine (next_walk0 cb o r.a r.cap c n w q2' q4 hfz e1 e2 c0 c1 (by omega) n1).mono ?_
    rintro e w' ⟨rfl, rfl⟩
    exact ⟨_, μ, rfl, hval _ (by simp only [Raw.at, hl, if_true, hcn]), s2, s3⟩
  · rcases hJ with hJ | ⟨lb, off, j1, j2, j3, j4⟩
    · exact absurd hJ hl
    have hmod : c % (r.len : Int) = ((c.toNat % r.len : Nat) : Int) := by rw [Int.natCast_emod, hcn]
    have hlt : c.toNat % r.len < r.len := Nat.mod_lt _ (by omega)
    have hne : cb ≠ lb := fun e => j4 b g sz (by rw [hm, e])
    have e3 : (w.setCell ⟨cb, o + 1, none⟩ (.int .i64 (c + 1))).cell? ⟨lb, off + (c % (r.len : Int)).toNat, none⟩ = some (.int .i64 (r.zs.getD (c.toNat % r.len) 0)) := by
      rw [World.cell?_setCell_other _ _ _ _ (by simp), hmod, Int.toNat_natCast]
      exact j3 _ hlt
    rw [j1] at q2 e1
    refine (next_walk1 cb o lb off r.len r.cap c n (r.zs.getD (c.toNat % r.len) 0) w (by omega) j2 q2 q4 hfz e1 e2 e3 c0 c1 (by omega) n1).mono ?_
    rintro e w' ⟨rfl, hs⟩
    exact ⟨_, μ, rfl, hval _ (by simp only [Raw.at, if_neg hl, hcn]), hs.rel s2, hs.ext s3⟩
end Go.Proofs.Yteabbkagekdehaa
end
section
/- weftref2.get: a map literal of pointers to fields, looked up at one name. Its six insertions may come in any order. -/
set_option linter.unusedVariables false
set_option maxRecDepth 100000
namespace Go.Proofs.Yteabbkagekdehaa
open Go.AE Go.RowKit
/-- the region's operations -/
def firstRegion : Code → Array Oper
  | .region _ ops true => ops
  | .seq a b => match firstRegion a with
    | #[] => firstRegion b
    | r => r
  | _ => #[]
noncomputable def gops : Array Oper := match Try.f96.body with | some c => firstRegion c | none => #[]
/-- the j-th insertion's place, the name and the field -/
def gIdx (j : Nat) : Nat := 4 * (j + 1)
def gKey : Nat → Int | 0 => 68 | 1 => 65 | 2 => 66 | 3 => 67 | 4 => 78 | _ => 77
def gFld : Nat → Nat | 0 => 2 | 1 => 3 | 2 => 4 | 3 => 5 | 4 => 7 | _ => 8
/-- what is listed when the insertions of b are done -/
def gL (b : Nat) : Array Bool := ((List.range 29).map fun i => if i = 25 ∨ i = 27 ∨ i = 28 then false else if i % 4 = 0 ∧ 0 < i then b.testBit (i / 4 - 1) else true).toArray
def pop (b : Nat) : Nat := ((List.range 6).filter fun j => b.testBit j).length
noncomputable def gCheck : Bool := (List.range 63).all fun b => !(Region.ready .any gops (gL b)).isEmpty && (Region.ready .any gops (gL b)).all fun i =>
  (List.range 6).any fun j => decide (i = gIdx j) && !b.testBit j && decide ((gL b).setIfInBounds i true = gL (b ||| 2 ^ j)) && decide (b ||| 2 ^ j < 64) && decide (b < b ||| 2 ^ j) && decide (pop (b ||| 2 ^ j) = pop b + 1) && decide (pop b < 6)
theorem gCheck_true : gCheck = true := by kernel_rfl
def Has (o b : Nat) (es : List (AV × AV × Nat)) : Prop :=
  (∀ j, j < 6 → b.testBit j = true → ∃ s, (AV.int .u8 (gKey j), AV.ptr 0 0 (o + gFld j), s) ∈ es) ∧
  (∀ e ∈ es, ∃ j s, j < 6 ∧ b.testBit j = true ∧ e = (AV.int .u8 (gKey j), AV.ptr 0 0 (o + gFld j), s))
theorem gKey_inj : ∀ i, i < 6 → ∀ j, j < 6 → gKey i = gKey j → i = j := by decide
theorem find_none {o : Nat} {j : Nat} (hj : j < 6) : ∀ {es : List (AV × AV × Nat)} (i : Nat), (∀ e ∈ es, ∃ j' s, j' < 6 ∧ j' ≠ j ∧ e = (AV.int .u8 (gKey j'), AV.ptr 0 0 (o + gFld j'), s)) → aFind (.int .u8 (gKey j)) es i = some none
  | [], _, _ => rfl
  | e :: es, i, h => by
    obtain ⟨j', s, h1, h2, rfl⟩ := h e (by simp)
    have hne : (gKey j == gKey j') = false := by simp; exact fun e => h2 (gKey_inj j hj j' h1 e).symm
    simp only [aFind, aScalarEq, if_true, hne, Option.bind_some, cond_false]
    exact find_none hj (i + 1) fun e he => h e (by simp [he])
theorem find_some {o : Nat} {j : Nat} (hj : j < 6) : ∀ {es : List (AV × AV × Nat)} (i : Nat), (∀ e ∈ es, ∃ j' s, j' < 6 ∧ e = (AV.int .u8 (gKey j'), AV.ptr 0 0 (o + gFld j'), s)) → (∃ s, (AV.int .u8 (gKey j), AV.ptr 0 0 (o + gFld j), s) ∈ es) →
    ∃ i' s, aFind (.int .u8 (gKey j)) es i = some (some (i', .ptr 0 0 (o + gFld j), s))
  | [], _, _, ⟨s, h⟩ => by cases h
  | e :: es, i, h, ⟨s0, h0⟩ => by
    obtain ⟨j', s, h1, rfl⟩ := h e (by simp)
    by_cases hjj : j' = j
    · subst hjj
      exact ⟨i, s, by simp [aFind, aScalarEq]⟩
    · have hne : (gKey j == gKey j') = false := by simp; exact fun e => hjj (gKey_inj j hj j' h1 e).symm
      simp only [aFind, aScalarEq, if_true, hne, Option.bind_some, cond_false]
      refine find_some hj (i + 1) (fun e he => h e (by simp [he])) ⟨s0, ?_⟩
      rcases List.mem_cons.1 h0 with h0 | h0
      · exfalso
        simp only [Prod.mk.injEq, AV.int.injEq, true_and] at h0
        exact hjj (gKey_inj j hj j' h1 h0.1).symm
      · exact h0
def As : AHeap := ⟨.leaf, 1⟩
def Hm (es : List (AV × AV × Nat)) : AHeap := As.push (.map es es.length)
theorem Hm_set (es : List (AV × AV × Nat)) (e : AV × AV × Nat) : (Hm es).set 1 (.map (es ++ [e]) (es.length + 1)) = Hm (es ++ [e]) := by
  unfold Hm
  rw [List.length_append]
  rfl
theorem Hm_map (es : List (AV × AV × Nat)) : aMap (Hm es) 1 = some (es, es.length) := rfl
noncomputable abbrev GE : Env := envOf Try.prog
theorem ty170 : ∃ a, GE.ty 170 = some a ∧ a.desc = .map 5 153 := by
  have h : (GE.ty 170).map ATy.desc = some (.map 5 153) := by kernel_rfl
  cases hh : GE.ty 170 with
  | none => rw [hh] at h; cases h
  | some a => rw [hh] at h; exact ⟨a, rfl, by simpa using h⟩
theorem key5 (x : Int) : aKeyOK GE 5 (.int .u8 x) = true := by kernel_rfl
theorem upd_ok {es : List (AV × AV × Nat)} {k v : AV} {x : Int} (hk : k = .int .u8 x) (hf : aFind k es 0 = some none) : aMapUpdate GE (Hm es) 170 (.map 1) k v = some (Hm (es ++ [(k, v, es.length)])) := by
  obtain ⟨a, h1, h2⟩ := ty170
  subst hk
  simp only [aMapUpdate, h1, Option.bind_some, h2, key5, cond_true, Hm_map, hf]
  rw [Hm_set]
theorem look_ok {es : List (AV × AV × Nat)} {k v : AV} {x : Int} {i s : Nat} (hk : k = .int .u8 x) (hf : aFind k es 0 = some (some (i, v, s))) : aLookup GE (Hm es) 170 (.map 1) k false = some v := by
  obtain ⟨a, h1, h2⟩ := ty170
  subst hk
  have he : aEnts (Hm es) (.map 1) = some es := by simp only [aEnts, Hm_map, Option.bind_some]
  simp only [aLookup, h1, Option.bind_some, h2, key5, cond_true, he, hf, lookRes, cond_false]
/-- the temporaries behind the pure operations -/
def gTs (o : Nat) (k : Int) : Ts :=
  let p : AV := .ptr 0 0 o
  let f (n : Nat) : AV := .ptr 0 0 (o + n)
  (Ts.ofArgs [p, .int .u8 k] 27) |>.set 4 .nilPtr |>.set 6 p |>.set 7 p |>.set 8 (f 2) |>.set 9 p |>.set 10 p |>.set 11 (f 3) |>.set 12 p |>.set 13 p |>.set 14 (f 4)
    |>.set 15 p |>.set 16 p |>.set 17 (f 5) |>.set 18 p |>.set 19 p |>.set 20 (f 7) |>.set 21 p |>.set 22 p |>.set 23 (f 8) |>.set 25 (.int .u8 k) |>.set 5 (.map 1)
/-- the temporary that holds the j-th pointer -/
def gTmp : Nat → Nat | 0 => 8 | 1 => 11 | 2 => 14 | 3 => 17 | 4 => 20 | _ => 23
noncomputable def gOpOK (j : Nat) : Bool := match gops[gIdx j]? with
  | some ⟨none, .insert 170 (.tmp 5) (.const (.int .u8 x)) (.tmp t), _, _, _, none⟩ => decide (x = gKey j) && decide (t = gTmp j)
  | _ => false
theorem gOpOK_all : (List.range 6).all gOpOK = true := by kernel_rfl
theorem gOp {j : Nat} (hj : j < 6) : ∃ ty pos after, gops[gIdx j]? = some ⟨none, .insert 170 (.tmp 5) (.const (.int .u8 (gKey j))) (.tmp (gTmp j)), ty, pos, after, none⟩ := by
  have h := List.all_eq_true.1 gOpOK_all j (List.mem_range.2 hj)
  unfold gOpOK at h
  split at h
  · rename_i x t ty pos after he
    simp only [Bool.and_eq_true, decide_eq_true_eq] at h
    obtain ⟨rfl, rfl⟩ := h
    exact ⟨_, _, _, he⟩
  · cases h
theorem gTs_ptr (o : Nat) (k : Int) : ∀ j, j < 6 → (gTs o k).get (gTmp j) = some (.ptr 0 0 (o + gFld j)) := by
  intro j hj
  match j, hj with
  | 0, _ => rfl
  | 1, _ => rfl
  | 2, _ => rfl
  | 3, _ => rfl
  | 4, _ => rfl
  | 5, _ => rfl
section
variable [Val] {Q : Exit → Act → World → Prop}
structure GInv (o : Nat) (k : Int) (c0 : Nat × Nat) (b0 : World) (a : Act) (es : List (AV × AV × Nat)) (μ : Mu) (w : World) : Prop where
  tr : TR μ (gTs o k) a.tmps
  rel : Rel (Hm es) μ w
  j : Val.J μ w
  below : Below b0.heap.size b0 w
  zero : μ 0 0 = some c0
  map : ∀ g m sz, μ 1 g = some (m, sz) → b0.heap.size ≤ m
omit [Val] in
theorem hmixed : Try.prog.follows .mixedOrders = true := by kernel_rfl
theorem phase {o : Nat} {k : Int} {c0 : Nat × Nat} {a : Act} {b0 : World}
    (hQ : ∀ es μ w, Has o 63 es → GInv o k c0 b0 a es μ w → wpAny Try.prog .any gops Q 3 (gL 63) a w) :
    ∀ (d b : Nat) es μ w, b + d = 63 → Has o b es → GInv o k c0 b0 a es μ w → wpAny Try.prog .any gops Q (9 - pop b) (gL b) a w := by
  intro d
  induction d using Nat.strongRecOn with
  | _ d ih =>
    intro b es μ w hbd hes I
    by_cases hb : b = 63
    · subst hb
      exact hQ es μ w hes I
    have hck := List.all_eq_true.1 gCheck_true b (List.mem_range.2 (by omega))
    simp only [Bool.and_eq_true, Bool.not_eq_true', List.all_eq_true] at hck
    obtain ⟨hne, hall⟩ := hck
    have hne' : Region.ready .any gops (gL b) ≠ [] := fun h => by rw [h] at hne; cases hne
    have key : ∀ i ∈ Region.ready .any gops (gL b), ∃ j, j < 6 ∧ i = gIdx j ∧ b.testBit j = false ∧ (gL b).setIfInBounds i true = gL (b ||| 2 ^ j) ∧ b ||| 2 ^ j < 64 ∧ b < b ||| 2 ^ j ∧ pop (b ||| 2 ^ j) = pop b + 1 ∧ pop b < 6 := fun i hi => by
      have h := hall i hi
      simp only [List.any_eq_true, List.mem_range, Bool.and_eq_true, decide_eq_true_eq, Bool.not_eq_true'] at h
      obtain ⟨j, h1, ⟨⟨⟨⟨⟨h2, h3⟩, h4⟩, h5⟩, h6⟩, h7⟩, h8⟩ := h
      exact ⟨j, h1, h2, h3, h4, h5, h6, h7, h8⟩
    obtain ⟨i0, hi0⟩ := List.exists_mem_of_ne_nil _ hne'
    obtain ⟨_, _, _, _, _, _, _, _, hp6⟩ := key i0 hi0
    have hfuel : 9 - pop b = (8 - pop b) + 1 := by omega
    rw [hfuel]
    refine ⟨fun h => absurd h hne', fun i hi => ?_⟩
    obtain ⟨j, hj, rfl, hbit, hset, h64, hlt, hpop, _⟩ := key i hi
    obtain ⟨ty, pos, after, hop⟩ := gOp hj
    have hf : aFind (.int .u8 (gKey j)) es 0 = some none := find_none (o := o) hj 0 fun e he => by
      obtain ⟨j', s, h1, h2, h3⟩ := hes.2 e he
      exact ⟨j', s, h1, (fun e => by subst e; rw [hbit] at h2; cases h2), h3⟩
    have hu := upd_ok (v := .ptr 0 0 (o + gFld j)) rfl hf
    have hstep : stepOp GE (evCall GE noExt 0) (gTs o k) (Hm es) (.insert 170 (.tmp 5) (.const (.int .u8 (gKey j))) (.tmp (gTmp j))) = some (.undef, Hm (es ++ [(.int .u8 (gKey j), .ptr 0 0 (o + gFld j), es.length)])) := by
      have e1 : evalO GE (gTs o k) (.tmp 5) = some (.map 1) := rfl
      have e2 : evalO GE (gTs o k) (.const (.int .u8 (gKey j))) = some (.int .u8 (gKey j)) := rfl
      have e3 : evalO GE (gTs o k) (.tmp (gTmp j)) = some (.ptr 0 0 (o + gFld j)) := by simp only [evalO, gTs_ptr o k j hj, Option.bind_some]; rfl
      simp only [stepOp, opKind, aEff, e1, e2, e3, Option.bind_some, hu, outH, stepEff]
    unfold wpOp
    rw [hop]
    simp only
    have hwant : ∀ ys, Region.wanted (⟨none, .insert 170 (.tmp 5) (.const (.int .u8 (gKey j))) (.tmp (gTmp j)), ty, pos, after, none⟩ : Oper) ys = true := fun ys => rfl
    rw [hwant]
    simp only [if_true]
    refine .inl (stepOp_sound (envOf_ok Try.prog) (evCall_ok (envOf_ok Try.prog) hmixed noExt_ok 0) I.rel I.j I.tr hstep (fun b g h1 h2 => ?_) fun u w' μ' _ hR hX => ?_)
    · have e1 : (Hm es).n = 2 := rfl
      have e2 : (Hm (es ++ [(AV.int .u8 (gKey j), AV.ptr 0 0 (o + gFld j), es.length)])).n = 2 := rfl
      omega
    · rw [hset]
      have e : 8 - pop b = 9 - pop (b ||| 2 ^ j) := by omega
      rw [e]
      refine ih (63 - (b ||| 2 ^ j)) (by omega) (b ||| 2 ^ j) (es ++ [(AV.int .u8 (gKey j), AV.ptr 0 0 (o + gFld j), es.length)]) μ' w' (by omega) ⟨fun j' hj' hb' => ?_, fun e he => ?_⟩ ?_
      · rw [Nat.testBit_or, Bool.or_eq_true] at hb'
        rcases hb' with hb' | hb'
        · obtain ⟨s, hs⟩ := hes.1 j' hj' hb'
          exact ⟨s, by simp [hs]⟩
        · rw [Nat.testBit_two_pow] at hb'
          have : j = j' := by simpa using hb'
          subst this
          exact ⟨es.length, by simp⟩
      · rcases List.mem_append.1 he with he | he
        · obtain ⟨j', s, h1, h2, h3⟩ := hes.2 e he
          exact ⟨j', s, h1, by rw [Nat.testBit_or, h2]; rfl, h3⟩
        · simp only [List.mem_singleton] at he
          exact ⟨j, es.length, hj, by rw [Nat.testBit_or, Nat.testBit_two_pow]; simp, he⟩
      · have hbl : ∀ c, c < b0.heap.size → w'.heap[c]? = w.heap[c]? := fun c hc => hX.frame c (Nat.lt_of_lt_of_le hc I.below.size) fun bb g sz hm hbb => by
          have e1 : (Hm es).n = 2 := rfl
          match bb, hbb with
          | 0, _ => rfl
          | 1, _ => have := I.map g c sz hm; omega
          | n + 2, h => omega
        exact { tr := I.tr.mono hX.mono, rel := hR, j := Val.keep I.j hX, zero := hX.mono _ _ _ I.zero
                below := ⟨hX.os.trans I.below.os, hX.tape.trans I.below.tape, hX.output.trans I.below.output, Nat.le_trans I.below.size hX.size, fun c hc => (hbl c hc).trans (I.below.block c hc)⟩
                map := fun g m sz hm => by
                  rcases hX.range 1 g m sz hm with ⟨g', h⟩ | h
                  · exact I.map g' m sz h
                  · exact Nat.le_trans I.below.size h }

/-! the pure operations, in one order; what is listed -/
def gN (l : List Nat) : Array Bool := ((List.range 29).map fun i => l.elem i).toArray
noncomputable def gAct0 (c o : Nat) (k : Int) (a : Act) : Act := a
noncomputable def gAct1 (c o : Nat) (k : Int) (a : Act) : Act := (gAct0 c o k a).put (some 6) (.pointer (some ⟨c, o, none⟩))
noncomputable def gAct2 (c o : Nat) (k : Int) (a : Act) : Act := (gAct1 c o k a).put (some 7) (.pointer (some ⟨c, o, none⟩))
noncomputable def gAct3 (c o : Nat) (k : Int) (a : Act) : Act := (gAct2 c o k a).put (some 8) (.pointer (some ⟨c, o + 2, none⟩))
noncomputable def gAct4 (c o : Nat) (k : Int) (a : Act) : Act := (gAct3 c o k a).put (some 9) (.pointer (some ⟨c, o, none⟩))
noncomputable def gAct5 (c o : Nat) (k : Int) (a : Act) : Act := (gAct4 c o k a).put (some 10) (.pointer (some ⟨c, o, none⟩))
noncomputable def gAct6 (c o : Nat) (k : Int) (a : Act) : Act := (gAct5 c o k a).put (some 11) (.pointer (some ⟨c, o + 3, none⟩))
noncomputable def gAct7 (c o : Nat) (k : Int) (a : Act) : Act := (gAct6 c o k a).put (some 12) (.pointer (some ⟨c, o, none⟩))
noncomputable def gAct8 (c o : Nat) (k : Int) (a : Act) : Act := (gAct7 c o k a).put (some 13) (.pointer (some ⟨c, o, none⟩))
noncomputable def gAct9 (c o : Nat) (k : Int) (a : Act) : Act := (gAct8 c o k a).put (some 14) (.pointer (some ⟨c, o + 4, none⟩))
noncomputable def gAct10 (c o : Nat) (k : Int) (a : Act) : Act := (gAct9 c o k a).put (some 15) (.pointer (some ⟨c, o, none⟩))
noncomputable def gAct11 (c o : Nat) (k : Int) (a : Act) : Act := (gAct10 c o k a).put (some 16) (.pointer (some ⟨c, o, none⟩))
noncomputable def gAct12 (c o : Nat) (k : Int) (a : Act) : Act := (gAct11 c o k a).put (some 17) (.pointer (some ⟨c, o + 5, none⟩))
noncomputable def gAct13 (c o : Nat) (k : Int) (a : Act) : Act := (gAct12 c o k a).put (some 18) (.pointer (some ⟨c, o, none⟩))
noncomputable def gAct14 (c o : Nat) (k : Int) (a : Act) : Act := (gAct13 c o k a).put (some 19) (.pointer (some ⟨c, o, none⟩))
noncomputable def gAct15 (c o : Nat) (k : Int) (a : Act) : Act := (gAct14 c o k a).put (some 20) (.pointer (some ⟨c, o + 7, none⟩))
noncomputable def gAct16 (c o : Nat) (k : Int) (a : Act) : Act := (gAct15 c o k a).put (some 21) (.pointer (some ⟨c, o, none⟩))
noncomputable def gAct17 (c o : Nat) (k : Int) (a : Act) : Act := (gAct16 c o k a).put (some 22) (.pointer (some ⟨c, o, none⟩))
noncomputable def gAct18 (c o : Nat) (k : Int) (a : Act) : Act := (gAct17 c o k a).put (some 23) (.pointer (some ⟨c, o + 8, none⟩))
noncomputable def gAct19 (c o : Nat) (k : Int) (a : Act) : Act := (gAct18 c o k a).put (some 25) (.int .u8 k)
theorem VR_p {μ : Mu} {c sz o : Nat} (h : μ 0 0 = some (c, sz)) : VR μ (.ptr 0 0 o) (.pointer (some ⟨c, o, none⟩)) := by simp only [VR]; exact ⟨c, sz, h, rfl⟩
theorem VR_i {μ : Mu} {k : Int} : VR μ (.int .u8 k) (.int .u8 k) := by simp only [VR]
def gT0 (o : Nat) (k : Int) : Ts := (Ts.ofArgs [.ptr 0 0 o, .int .u8 k] 27).set 4 .nilPtr
def gT1 (o : Nat) (k : Int) : Ts := (gT0 o k).set 6 (.ptr 0 0 o)
theorem gTR1 {μ : Mu} {c sz o : Nat} {k : Int} {a : Act} (h : μ 0 0 = some (c, sz)) (T : TR μ (gT0 o k) (gAct0 c o k a).tmps) : TR μ (gT1 o k) (gAct1 c o k a).tmps := T.put (VR_p h) (some 6)
def gT2 (o : Nat) (k : Int) : Ts := (gT1 o k).set 7 (.ptr 0 0 o)
theorem gTR2 {μ : Mu} {c sz o : Nat} {k : Int} {a : Act} (h : μ 0 0 = some (c, sz)) (T : TR μ (gT1 o k) (gAct1 c o k a).tmps) : TR μ (gT2 o k) (gAct2 c o k a).tmps := T.put (VR_p h) (some 7)
def gT3 (o : Nat) (k : Int) : Ts := (gT2 o k).set 8 (.ptr 0 0 (o + 2))
theorem gTR3 {μ : Mu} {c sz o : Nat} {k : Int} {a : Act} (h : μ 0 0 = some (c, sz)) (T : TR μ (gT2 o k) (gAct2 c o k a).tmps) : TR μ (gT3 o k) (gAct3 c o k a).tmps := T.put (VR_p h) (some 8)
def gT4 (o : Nat) (k : Int) : Ts := (gT3 o k).set 9 (.ptr 0 0 o)
theorem gTR4 {μ : Mu} {c sz o : Nat} {k : Int} {a : Act} (h : μ 0 0 = some (c, sz)) (T : TR μ (gT3 o k) (gAct3 c o k a).tmps) : TR μ (gT4 o k) (gAct4 c o k a).tmps := T.put (VR_p h) (some 9)
def gT5 (o : Nat) (k : Int) : Ts := (gT4 o k).set 10 (.ptr 0 0 o)
theorem gTR5 {μ : Mu} {c sz o : Nat} {k : Int} {a : Act} (h : μ 0 0 = some (c, sz)) (T : TR μ (gT4 o k) (gAct4 c o k a).tmps) : TR μ (gT5 o k) (gAct5 c o k a).tmps := T.put (VR_p h) (some 10)
def gT6 (o : Nat) (k : Int) : Ts := (gT5 o k).set 11 (.ptr 0 0 (o + 3))
theorem gTR6 {μ : Mu} {c sz o : Nat} {k : Int} {a : Act} (h : μ 0 0 = some (c, sz)) (T : TR μ (gT5 o k) (gAct5 c o k a).tmps) : TR μ (gT6 o k) (gAct6 c o k a).tmps := T.put (VR_p h) (some 11)
def gT7 (o : Nat) (k : Int) : Ts := (gT6 o k).set 12 (.ptr 0 0 o)
theorem gTR7 {μ : Mu} {c sz o : Nat} {k : Int} {a : Act} (h : μ 0 0 = some (c, sz)) (T : TR μ (gT6 o k) (gAct6 c o k a).tmps) : TR μ (gT7 o k) (gAct7 c o k a).tmps := T.put (VR_p h) (some 12)
def gT8 (o : Nat) (k : Int) : Ts := (gT7 o k).set 13 (.ptr 0 0 o)
theorem gTR8 {μ : Mu} {c sz o : Nat} {k : Int} {a : Act} (h : μ 0 0 = some (c, sz)) (T : TR μ (gT7 o k) (gAct7 c o k a).tmps) : TR μ (gT8 o k) (gAct8 c o k a).tmps := T.put (VR_p h) (some 13)
def gT9 (o : Nat) (k : Int) : Ts := (gT8 o k).set 14 (.ptr 0 0 (o + 4))
theorem gTR9 {μ : Mu} {c sz o : Nat} {k : Int} {a : Act} (h : μ 0 0 = some (c, sz)) (T : TR μ (gT8 o k) (gAct8 c o k a).tmps) : TR μ (gT9 o k) (gAct9 c o k a).tmps := T.put (VR_p h) (some 14)
def gT10 (o : Nat) (k : Int) : Ts := (gT9 o k).set 15 (.ptr 0 0 o)
theorem gTR10 {μ : Mu} {c sz o : Nat} {k : Int} {a : Act} (h : μ 0 0 = some (c, sz)) (T : TR μ (gT9 o k) (gAct9 c o k a).tmps) : TR μ (gT10 o k) (gAct10 c o k a).tmps := T.put (VR_p h) (some 15)
def gT11 (o : Nat) (k : Int) : Ts := (gT10 o k).set 16 (.ptr 0 0 o)
theorem gTR11 {μ : Mu} {c sz o : Nat} {k : Int} {a : Act} (h : μ 0 0 = some (c, sz)) (T : TR μ (gT10 o k) (gAct10 c o k a).tmps) : TR μ (gT11 o k) (gAct11 c o k a).tmps := T.put (VR_p h) (some 16)
def gT12 (o : Nat) (k : Int) : Ts := (gT11 o k).set 17 (.ptr 0 0 (o + 5))
theorem gTR12 {μ : Mu} {c sz o : Nat} {k : Int} {a : Act} (h : μ 0 0 = some (c, sz)) (T : TR μ (gT11 o k) (gAct11 c o k a).tmps) : TR μ (gT12 o k) (gAct12 c o k a).tmps := T.put (VR_p h) (some 17)
def gT13 (o : Nat) (k : Int) : Ts := (gT12 o k).set 18 (.ptr 0 0 o)
theorem gTR13 {μ : Mu} {c sz o : Nat} {k : Int} {a : Act} (h : μ 0 0 = some (c, sz)) (T : TR μ (gT12 o k) (gAct12 c o k a).tmps) : TR μ (gT13 o k) (gAct13 c o k a).tmps := T.put (VR_p h) (some 18)
def gT14 (o : Nat) (k : Int) : Ts := (gT13 o k).set 19 (.ptr 0 0 o)
theorem gTR14 {μ : Mu} {c sz o : Nat} {k : Int} {a : Act} (h : μ 0 0 = some (c, sz)) (T : TR μ (gT13 o k) (gAct13 c o k a).tmps) : TR μ (gT14 o k) (gAct14 c o k a).tmps := T.put (VR_p h) (some 19)
def gT15 (o : Nat) (k : Int) : Ts := (gT14 o k).set 20 (.ptr 0 0 (o + 7))
theorem gTR15 {μ : Mu} {c sz o : Nat} {k : Int} {a : Act} (h : μ 0 0 = some (c, sz)) (T : TR μ (gT14 o k) (gAct14 c o k a).tmps) : TR μ (gT15 o k) (gAct15 c o k a).tmps := T.put (VR_p h) (some 20)
def gT16 (o : Nat) (k : Int) : Ts := (gT15 o k).set 21 (.ptr 0 0 o)
theorem gTR16 {μ : Mu} {c sz o : Nat} {k : Int} {a : Act} (h : μ 0 0 = some (c, sz)) (T : TR μ (gT15 o k) (gAct15 c o k a).tmps) : TR μ (gT16 o k) (gAct16 c o k a).tmps := T.put (VR_p h) (some 21)
def gT17 (o : Nat) (k : Int) : Ts := (gT16 o k).set 22 (.ptr 0 0 o)
theorem gTR17 {μ : Mu} {c sz o : Nat} {k : Int} {a : Act} (h : μ 0 0 = some (c, sz)) (T : TR μ (gT16 o k) (gAct16 c o k a).tmps) : TR μ (gT17 o k) (gAct17 c o k a).tmps := T.put (VR_p h) (some 22)
def gT18 (o : Nat) (k : Int) : Ts := (gT17 o k).set 23 (.ptr 0 0 (o + 8))
theorem gTR18 {μ : Mu} {c sz o : Nat} {k : Int} {a : Act} (h : μ 0 0 = some (c, sz)) (T : TR μ (gT17 o k) (gAct17 c o k a).tmps) : TR μ (gT18 o k) (gAct18 c o k a).tmps := T.put (VR_p h) (some 23)
def gT19 (o : Nat) (k : Int) : Ts := (gT18 o k).set 25 (.int .u8 k)
theorem gTR19 {μ : Mu} {c sz o : Nat} {k : Int} {a : Act} (h : μ 0 0 = some (c, sz)) (T : TR μ (gT18 o k) (gAct18 c o k a).tmps) : TR μ (gT19 o k) (gAct19 c o k a).tmps := T.put (VR_i) (some 25)

noncomputable def mvOK (i d j : Nat) : Bool := match gops[i]? with | some ⟨some d', .move (.tmp j'), _, _, _, none⟩ => decide (d' = d) && decide (j' = j) | _ => false
noncomputable def ncOK (i d j : Nat) : Bool := match gops[i]? with | some ⟨some d', .nilCheck (.tmp j'), _, _, _, none⟩ => decide (d' = d) && decide (j' = j) | _ => false
noncomputable def faOK (i d j f : Nat) : Bool := match gops[i]? with | some ⟨some d', .fieldAddr 29 (.tmp j') f', _, _, _, none⟩ => decide (d' = d) && decide (j' = j) && decide (f' = f) | _ => false
omit [Val] in
theorem mv_at {i d j : Nat} (h : mvOK i d j = true) : ∃ ty pos after, gops[i]? = some ⟨some d, .move (.tmp j), ty, pos, after, none⟩ := by
  unfold mvOK at h
  split at h
  · rename_i d' j' ty pos after he
    simp only [Bool.and_eq_true, decide_eq_true_eq] at h
    obtain ⟨rfl, rfl⟩ := h
    exact ⟨_, _, _, he⟩
  · cases h
omit [Val] in
theorem nc_at {i d j : Nat} (h : ncOK i d j = true) : ∃ ty pos after, gops[i]? = some ⟨some d, .nilCheck (.tmp j), ty, pos, after, none⟩ := by
  unfold ncOK at h
  split at h
  · rename_i d' j' ty pos after he
    simp only [Bool.and_eq_true, decide_eq_true_eq] at h
    obtain ⟨rfl, rfl⟩ := h
    exact ⟨_, _, _, he⟩
  · cases h
omit [Val] in
theorem fa_at {i d j f : Nat} (h : faOK i d j f = true) : ∃ ty pos after, gops[i]? = some ⟨some d, .fieldAddr 29 (.tmp j) f, ty, pos, after, none⟩ := by
  unfold faOK at h
  split at h
  · rename_i d' j' f' ty pos after he
    simp only [Bool.and_eq_true, decide_eq_true_eq] at h
    obtain ⟨⟨rfl, rfl⟩, rfl⟩ := h
    exact ⟨_, _, _, he⟩
  · cases h
theorem ev_p {μ : Mu} {c sz x j : Nat} {ts : Ts} {a : Act} (h : μ 0 0 = some (c, sz)) (T : TR μ ts a.tmps) (hj : ts.get j = some (.ptr 0 0 x)) : a.eval (.tmp j) = .pointer (some ⟨c, x, none⟩) := by
  have := T.get hj
  simp only [VR] at this
  obtain ⟨c', sz', h1, h2⟩ := this
  rw [h] at h1; cases h1
  exact h2
theorem ev_i {μ : Mu} {k : Int} {j : Nat} {ts : Ts} {a : Act} (T : TR μ ts a.tmps) (hj : ts.get j = some (.int .u8 k)) : a.eval (.tmp j) = .int .u8 k := by
  have := T.get hj
  simp only [VR] at this
  exact this
omit [Val] in
theorem y_mv {a : Act} {j d ty : Nat} {pos : String} {after : Array Edge} {v : Value} (h : a.eval (.tmp j) = v) : Yields Try.prog gops ⟨some d, .move (.tmp j), ty, pos, after, none⟩ v a :=
  .inl ⟨rfl, fun w => by simp [execOp, h]⟩
omit [Val] in
theorem y_nc {a : Act} {j d ty : Nat} {pos : String} {after : Array Edge} {p : Addr} (h : a.eval (.tmp j) = .pointer (some p)) : Yields Try.prog gops ⟨some d, .nilCheck (.tmp j), ty, pos, after, none⟩ (.pointer (some p)) a :=
  .inl ⟨rfl, fun w => by simp [execOp, h]⟩
omit [Val] in
theorem fa_run (f : Nat) (hf : f ∈ [2, 3, 4, 5, 7, 8]) (c o : Nat) (w : World) : (Instr.fieldAt 29 (.pointer (some ⟨c, o, none⟩)) f).run Try.prog w = .ok (.pointer (some ⟨c, o + f, none⟩)) w := by
  simp only [List.mem_cons, List.not_mem_nil, or_false] at hf
  rcases hf with rfl | rfl | rfl | rfl | rfl | rfl <;> kernel_rfl
omit [Val] in
theorem y_fa {a : Act} {j d ty f c o : Nat} {pos : String} {after : Array Edge} (hf : f ∈ [2, 3, 4, 5, 7, 8]) (h : a.eval (.tmp j) = .pointer (some ⟨c, o, none⟩)) :
    Yields Try.prog gops ⟨some d, .fieldAddr 29 (.tmp j) f, ty, pos, after, none⟩ (.pointer (some ⟨c, o + f, none⟩)) a :=
  .inl ⟨rfl, fun w => by simp [execOp, h, fa_run f hf]⟩
theorem pures {μ : Mu} {c sz o : Nat} {k : Int} {a : Act} {w : World} (h : μ 0 0 = some (c, sz)) (T0 : TR μ (gT0 o k) (gAct0 c o k a).tmps) (hQp : ∀ ch (a : Act) w d v, Q (.panic ch) (a.put d v) w → Q (.panic ch) a w)
    (hK : TR μ (gT19 o k) (gAct19 c o k a).tmps → wpAny Try.prog .any gops Q 10 (gN [1, 2, 3, 5, 6, 7, 9, 10, 11, 13, 14, 15, 17, 18, 19, 21, 22, 23, 26]) (gAct19 c o k a) w) : wpAny Try.prog .any gops Q 29 (gN []) (gAct0 c o k a) w := by
  obtain ⟨ty0, ps0, af0, h0⟩ := mv_at (i := 1) (d := 6) (j := 0) (by kernel_rfl)
  have T1 := gTR1 h T0
  refine wpAny_take h0 (by kernel_rfl) (by kernel_rfl) (by kernel_rfl) (fun ch a w => hQp ch a w _ _) (y_mv (ev_p h T0 rfl)) ?_
  rw [show (gN []).setIfInBounds 1 true = gN [1] by kernel_rfl]
  change wpAny Try.prog .any gops Q 28 (gN [1]) (gAct1 c o k a) w
  obtain ⟨ty1, ps1, af1, h1⟩ := nc_at (i := 2) (d := 7) (j := 6) (by kernel_rfl)
  have T2 := gTR2 h T1
  refine wpAny_take h1 (by kernel_rfl) (by kernel_rfl) (by kernel_rfl) (fun ch a w => hQp ch a w _ _) (y_nc (ev_p h T1 rfl)) ?_
  rw [show (gN [1]).setIfInBounds 2 true = gN [1, 2] by kernel_rfl]
  change wpAny Try.prog .any gops Q 27 (gN [1, 2]) (gAct2 c o k a) w
  obtain ⟨ty2, ps2, af2, h2⟩ := fa_at (i := 3) (d := 8) (j := 7) (f := 2) (by kernel_rfl)
  have T3 := gTR3 h T2
  refine wpAny_take h2 (by kernel_rfl) (by kernel_rfl) (by kernel_rfl) (fun ch a w => hQp ch a w _ _) (y_fa (by decide) (ev_p h T2 rfl)) ?_
  rw [show (gN [1, 2]).setIfInBounds 3 true = gN [1, 2, 3] by kernel_rfl]
  change wpAny Try.prog .any gops Q 26 (gN [1, 2, 3]) (gAct3 c o k a) w
  obtain ⟨ty3, ps3, af3, h3⟩ := mv_at (i := 5) (d := 9) (j := 0) (by kernel_rfl)
  have T4 := gTR4 h T3
  refine wpAny_take h3 (by kernel_rfl) (by kernel_rfl) (by kernel_rfl) (fun ch a w => hQp ch a w _ _) (y_mv (ev_p h T3 rfl)) ?_
  rw [show (gN [1, 2, 3]).setIfInBounds 5 true = gN [1, 2, 3, 5] by kernel_rfl]
  change wpAny Try.prog .any gops Q 25 (gN [1, 2, 3, 5]) (gAct4 c o k a) w
  obtain ⟨ty4, ps4, af4, h4⟩ := nc_at (i := 6) (d := 10) (j := 9) (by kernel_rfl)
  have T5 := gTR5 h T4
  refine wpAny_take h4 (by kernel_rfl) (by kernel_rfl) (by kernel_rfl) (fun ch a w => hQp ch a w _ _) (y_nc (ev_p h T4 rfl)) ?_
  rw [show (gN [1, 2, 3, 5]).setIfInBounds 6 true = gN [1, 2, 3, 5, 6] by kernel_rfl]
  change wpAny Try.prog .any gops Q 24 (gN [1, 2, 3, 5, 6]) (gAct5 c o k a) w
  obtain ⟨ty5, ps5, af5, h5⟩ := fa_at (i := 7) (d := 11) (j := 10) (f := 3) (by kernel_rfl)
  have T6 := gTR6 h T5
  refine wpAny_take h5 (by kernel_rfl) (by kernel_rfl) (by kernel_rfl) (fun ch a w => hQp ch a w _ _) (y_fa (by decide) (ev_p h T5 rfl)) ?_
  rw [show (gN [1, 2, 3, 5, 6]).setIfInBounds 7 true = gN [1, 2, 3, 5, 6, 7] by kernel_rfl]
  change wpAny Try.prog .any gops Q 23 (gN [1, 2, 3, 5, 6, 7]) (gAct6 c o k a) w
  obtain ⟨ty6, ps6, af6, h6⟩ := mv_at (i := 9) (d := 12) (j := 0) (by kernel_rfl)
  have T7 := gTR7 h T6
  refine wpAny_take h6 (by kernel_rfl) (by kernel_rfl) (by kernel_rfl) (fun ch a w => hQp ch a w _ _) (y_mv (ev_p h T6 rfl)) ?_
  rw [show (gN [1, 2, 3, 5, 6, 7]).setIfInBounds 9 true = gN [1, 2, 3, 5, 6, 7, 9] by kernel_rfl]
  change wpAny Try.prog .any gops Q 22 (gN [1, 2, 3, 5, 6, 7, 9]) (gAct7 c o k a) w
  obtain ⟨ty7, ps7, af7, h7⟩ := nc_at (i := 10) (d := 13) (j := 12) (by kernel_rfl)
  have T8 := gTR8 h T7
  refine wpAny_take h7 (by kernel_rfl) (by kernel_rfl) (by kernel_rfl) (fun ch a w => hQp ch a w _ _) (y_nc (ev_p h T7 rfl)) ?_
  rw [show (gN [1, 2, 3, 5, 6, 7, 9]).setIfInBounds 10 true = gN [1, 2, 3, 5, 6, 7, 9, 10] by kernel_rfl]
  change wpAny Try.prog .any gops Q 21 (gN [1, 2, 3, 5, 6, 7, 9, 10]) (gAct8 c o k a) w
  obtain ⟨ty8, ps8, af8, h8⟩ := fa_at (i := 11) (d := 14) (j := 13) (f := 4) (by kernel_rfl)
  have T9 := gTR9 h T8
  refine wpAny_take h8 (by kernel_rfl) (by kernel_rfl) (by kernel_rfl) (fun ch a w => hQp ch a w _ _) (y_fa (by decide) (ev_p h T8 rfl)) ?_
  rw [show (gN [1, 2, 3, 5, 6, 7, 9, 10]).setIfInBounds 11 true = gN [1, 2, 3, 5, 6, 7, 9, 10, 11] by kernel_rfl]
  change wpAny Try.prog .any gops Q 20 (gN [1, 2, 3, 5, 6, 7, 9, 10, 11]) (gAct9 c o k a) w
  obtain ⟨ty9, ps9, af9, h9⟩ := mv_at (i := 13) (d := 15) (j := 0) (by kernel_rfl)
  have T10 := gTR10 h T9
  refine wpAny_take h9 (by kernel_rfl) (by kernel_rfl) (by kernel_rfl) (fun ch a w => hQp ch a w _ _) (y_mv (ev_p h T9 rfl)) ?_
  rw [show (gN [1, 2, 3, 5, 6, 7, 9, 10, 11]).setIfInBounds 13 true = gN [1, 2, 3, 5, 6, 7, 9, 10, 11, 13] by kernel_rfl]
  change wpAny Try.prog .any gops Q 19 (gN [1, 2, 3, 5, 6, 7, 9, 10, 11, 13]) (gAct10 c o k a) w
  obtain ⟨ty10, ps10, af10, h10⟩ := nc_at (i := 14) (d := 16) (j := 15) (by kernel_rfl)
  have T11 := gTR11 h T10
  refine wpAny_take h10 (by kernel_rfl) (by kernel_rfl) (by kernel_rfl) (fun ch a w => hQp ch a w _ _) (y_nc (ev_p h T10 rfl)) ?_
  rw [show (gN [1, 2, 3, 5, 6, 7, 9, 10, 11, 13]).setIfInBounds 14 true = gN [1, 2, 3, 5, 6, 7, 9, 10, 11, 13, 14] by kernel_rfl]
  change wpAny Try.prog .any gops Q 18 (gN [1, 2, 3, 5, 6, 7, 9, 10, 11, 13, 14]) (gAct11 c o k a) w
  obtain ⟨ty11, ps11, af11, h11⟩ := fa_at (i := 15) (d := 17) (j := 16) (f := 5) (by kernel_rfl)
  have T12 := gTR12 h T11
  refine wpAny_take h11 (by kernel_rfl) (by kernel_rfl) (by kernel_rfl) (fun ch a w => hQp ch a w _ _) (y_fa (by decide) (ev_p h T11 rfl)) ?_
  rw [show (gN [1, 2, 3, 5, 6, 7, 9, 10, 11, 13, 14]).setIfInBounds 15 true = gN [1, 2, 3, 5, 6, 7, 9, 10, 11, 13, 14, 15] by kernel_rfl]
  change wpAny Try.prog .any gops Q 17 (gN [1, 2, 3, 5, 6, 7, 9, 10, 11, 13, 14, 15]) (gAct12 c o k a) w
  obtain ⟨ty12, ps12, af12, h12⟩ := mv_at (i := 17) (d := 18) (j := 0) (by kernel_rfl)
  have T13 := gTR13 h T12
  refine wpAny_take h12 (by kernel_rfl) (by kernel_rfl) (by kernel_rfl) (fun ch a w => hQp ch a w _ _) (y_mv (ev_p h T12 rfl)) ?_
  rw [show (gN [1, 2, 3, 5, 6, 7, 9, 10, 11, 13, 14, 15]).setIfInBounds 17 true = gN [1, 2, 3, 5, 6, 7, 9, 10, 11, 13, 14, 15, 17] by kernel_rfl]
  change wpAny Try.prog .any gops Q 16 (gN [1, 2, 3, 5, 6, 7, 9, 10, 11, 13, 14, 15, 17]) (gAct13 c o k a) w
  obtain ⟨ty13, ps13, af13, h13⟩ := nc_at (i := 18) (d := 19) (j := 18) (by kernel_rfl)
  have T14 := gTR14 h T13
  refine wpAny_take h13 (by kernel_rfl) (by kernel_rfl) (by kernel_rfl) (fun ch a w => hQp ch a w _ _) (y_nc (ev_p h T13 rfl)) ?_
  rw [show (gN [1, 2, 3, 5, 6, 7, 9, 10, 11, 13, 14, 15, 17]).setIfInBounds 18 true = gN [1, 2, 3, 5, 6, 7, 9, 10, 11, 13, 14, 15, 17, 18] by kernel_rfl]
  change wpAny Try.prog .any gops Q 15 (gN [1, 2, 3, 5, 6, 7, 9, 10, 11, 13, 14, 15, 17, 18]) (gAct14 c o k a) w
  obtain ⟨ty14, ps14, af14, h14⟩ := fa_at (i := 19) (d := 20) (j := 19) (f := 7) (by kernel_rfl)
  have T15 := gTR15 h T14
  refine wpAny_take h14 (by kernel_rfl) (by kernel_rfl) (by kernel_rfl) (fun ch a w => hQp ch a w _ _) (y_fa (by decide) (ev_p h T14 rfl)) ?_
  rw [show (gN [1, 2, 3, 5, 6, 7, 9, 10, 11, 13, 14, 15, 17, 18]).setIfInBounds 19 true = gN [1, 2, 3, 5, 6, 7, 9, 10, 11, 13, 14, 15, 17, 18, 19] by kernel_rfl]
  change wpAny Try.prog .any gops Q 14 (gN [1, 2, 3, 5, 6, 7, 9, 10, 11, 13, 14, 15, 17, 18, 19]) (gAct15 c o k a) w
  obtain ⟨ty15, ps15, af15, h15⟩ := mv_at (i := 21) (d := 21) (j := 0) (by kernel_rfl)
  have T16 := gTR16 h T15
  refine wpAny_take h15 (by kernel_rfl) (by kernel_rfl) (by kernel_rfl) (fun ch a w => hQp ch a w _ _) (y_mv (ev_p h T15 rfl)) ?_
  rw [show (gN [1, 2, 3, 5, 6, 7, 9, 10, 11, 13, 14, 15, 17, 18, 19]).setIfInBounds 21 true = gN [1, 2, 3, 5, 6, 7, 9, 10, 11, 13, 14, 15, 17, 18, 19, 21] by kernel_rfl]
  change wpAny Try.prog .any gops Q 13 (gN [1, 2, 3, 5, 6, 7, 9, 10, 11, 13, 14, 15, 17, 18, 19, 21]) (gAct16 c o k a) w
  obtain ⟨ty16, ps16, af16, h16⟩ := nc_at (i := 22) (d := 22) (j := 21) (by kernel_rfl)
  have T17 := gTR17 h T16
  refine wpAny_take h16 (by kernel_rfl) (by kernel_rfl) (by kernel_rfl) (fun ch a w => hQp ch a w _ _) (y_nc (ev_p h T16 rfl)) ?_
  rw [show (gN [1, 2, 3, 5, 6, 7, 9, 10, 11, 13, 14, 15, 17, 18, 19, 21]).setIfInBounds 22 true = gN [1, 2, 3, 5, 6, 7, 9, 10, 11, 13, 14, 15, 17, 18, 19, 21, 22] by kernel_rfl]
  change wpAny Try.prog .any gops Q 12 (gN [1, 2, 3, 5, 6, 7, 9, 10, 11, 13, 14, 15, 17, 18, 19, 21, 22]) (gAct17 c o k a) w
  obtain ⟨ty17, ps17, af17, h17⟩ := fa_at (i := 23) (d := 23) (j := 22) (f := 8) (by kernel_rfl)
  have T18 := gTR18 h T17
  refine wpAny_take h17 (by kernel_rfl) (by kernel_rfl) (by kernel_rfl) (fun ch a w => hQp ch a w _ _) (y_fa (by decide) (ev_p h T17 rfl)) ?_
  rw [show (gN [1, 2, 3, 5, 6, 7, 9, 10, 11, 13, 14, 15, 17, 18, 19, 21, 22]).setIfInBounds 23 true = gN [1, 2, 3, 5, 6, 7, 9, 10, 11, 13, 14, 15, 17, 18, 19, 21, 22, 23] by kernel_rfl]
  change wpAny Try.prog .any gops Q 11 (gN [1, 2, 3, 5, 6, 7, 9, 10, 11, 13, 14, 15, 17, 18, 19, 21, 22, 23]) (gAct18 c o k a) w
  obtain ⟨ty18, ps18, af18, h18⟩ := mv_at (i := 26) (d := 25) (j := 1) (by kernel_rfl)
  have T19 := gTR19 h T18
  refine wpAny_take h18 (by kernel_rfl) (by kernel_rfl) (by kernel_rfl) (fun ch a w => hQp ch a w _ _) (y_mv (ev_i T18 rfl)) ?_
  rw [show (gN [1, 2, 3, 5, 6, 7, 9, 10, 11, 13, 14, 15, 17, 18, 19, 21, 22, 23]).setIfInBounds 26 true = gN [1, 2, 3, 5, 6, 7, 9, 10, 11, 13, 14, 15, 17, 18, 19, 21, 22, 23, 26] by kernel_rfl]
  change wpAny Try.prog .any gops Q 10 (gN [1, 2, 3, 5, 6, 7, 9, 10, 11, 13, 14, 15, 17, 18, 19, 21, 22, 23, 26]) (gAct19 c o k a) w
  exact hK T19

/-- one operation that alone is ready -/
theorem one_step {i fuel : Nat} {listed : Array Bool} {ts : Ts} {H H' : AHeap} {v : AV} {μ : Mu} {a : Act} {w : World} {dst : Option Tmp} {op : Op} {ty : TypeId} {pos : String} {after : Array Edge}
    (hr : Region.ready .any gops listed = [i]) (ho : gops[i]? = some ⟨dst, op, ty, pos, after, none⟩) (h : stepOp GE (evCall GE noExt 0) ts H op = some (v, H')) (hfr : Fresh μ H.n H'.n) (R : Rel H μ w) (J : Val.J μ w) (T : TR μ ts a.tmps)
    (hK : ∀ u w' μ', TR μ' (putA ts dst v) (a.put dst u).tmps → Rel H' μ' w' → Ext H H' μ μ' w w' → wpAny Try.prog .any gops Q fuel (listed.setIfInBounds i true) (a.put dst u) w') :
    wpAny Try.prog .any gops Q (fuel + 1) listed a w := by
  refine wpAny_all hr (by simp) fun i' hi' => ?_
  obtain rfl : i' = i := by simpa using hi'
  unfold wpOp
  rw [ho]
  simp only
  rw [show Region.wanted (⟨dst, op, ty, pos, after, none⟩ : Oper) (yielded gops a.tmps) = true from rfl]
  simp only [if_true]
  exact .inl (stepOp_sound (envOf_ok Try.prog) (evCall_ok (envOf_ok Try.prog) hmixed noExt_ok 0) R J T h hfr fun u w' μ' hu hR hX => hK u w' μ' ((T.mono hX.mono).put hu dst) hR hX)
noncomputable def opOK (i : Nat) (d : Nat) (f : Op → Bool) : Bool := match gops[i]? with | some ⟨some d', op, _, _, _, none⟩ => decide (d' = d) && f op | _ => false
omit [Val] in
theorem op_at {i d : Nat} {f : Op → Bool} (h : opOK i d f = true) : ∃ op ty pos after, gops[i]? = some ⟨some d, op, ty, pos, after, none⟩ ∧ f op = true := by
  unfold opOK at h
  split at h
  · rename_i d' op ty pos after he
    simp only [Bool.and_eq_true, decide_eq_true_eq] at h
    obtain ⟨rfl, h⟩ := h
    exact ⟨_, _, _, _, he, h⟩
  · cases h
def isMakeMap : Op → Bool | .makeMap 170 none => true | _ => false
def isMove5 : Op → Bool | .move (.tmp 5) => true | _ => false
def isLook : Op → Bool | .lookup 170 (.tmp 24) (.tmp 25) false => true | _ => false
def isAsg : Op → Bool | .assign (.tmp 26) => true | _ => false
/-- the last three -/
theorem last3 {o j : Nat} (hj : j < 6) {c0 : Nat × Nat} {b0 : World} {a : Act} {es : List (AV × AV × Nat)} {μ : Mu} {w : World} (hes : Has o 63 es) (I : GInv o (gKey j) c0 b0 a es μ w)
    (hQ : ∀ a' w' μ' ts, TR μ' ts a'.tmps → ts.get 4 = some (.ptr 0 0 (o + gFld j)) → μ' 0 0 = some c0 → Below b0.heap.size b0 w' → a'.defers = a.defers → Q .normal a' w') :
    wpAny Try.prog .any gops Q 3 (gL 63) a w := by
  obtain ⟨op1, ty1, ps1, af1, h1, e1⟩ := op_at (i := 25) (d := 24) (f := isMove5) (by kernel_rfl)
  obtain ⟨op2, ty2, ps2, af2, h2, e2⟩ := op_at (i := 27) (d := 26) (f := isLook) (by kernel_rfl)
  obtain ⟨op3, ty3, ps3, af3, h3, e3⟩ := op_at (i := 28) (d := 4) (f := isAsg) (by kernel_rfl)
  have e1' : op1 = .move (.tmp 5) := by unfold isMove5 at e1; split at e1; rfl; cases e1
  have e2' : op2 = .lookup 170 (.tmp 24) (.tmp 25) false := by unfold isLook at e2; split at e2; rfl; cases e2
  have e3' : op3 = .assign (.tmp 26) := by unfold isAsg at e3; split at e3; rfl; cases e3
  subst e1'; subst e2'; subst e3'
  obtain ⟨i', s', hf⟩ := find_some (o := o) hj 0 (fun e he => by obtain ⟨j', s, q1, _, q3⟩ := hes.2 e he; exact ⟨j', s, q1, q3⟩) (hes.1 j hj (by match j, hj with | 0, _ => rfl | 1, _ => rfl | 2, _ => rfl | 3, _ => rfl | 4, _ => rfl | 5, _ => rfl))
  have hl := look_ok rfl hf
  have below : ∀ {H H' : AHeap} {μ1 μ2 : Mu} {w1 w2 : World}, H = Hm es → H' = Hm es → (∀ g m sz, μ1 1 g = some (m, sz) → b0.heap.size ≤ m) → Below b0.heap.size b0 w1 → Ext H H' μ1 μ2 w1 w2 → Below b0.heap.size b0 w2 ∧ (∀ g m sz, μ2 1 g = some (m, sz) → b0.heap.size ≤ m) := by
    intro H H' μ1 μ2 w1 w2 hH hH' hm hb hX
    subst hH
    refine ⟨⟨hX.os.trans hb.os, hX.tape.trans hb.tape, hX.output.trans hb.output, Nat.le_trans hb.size hX.size, fun c hc => ?_⟩, fun g m sz h => ?_⟩
    · refine (hX.frame c (Nat.lt_of_lt_of_le hc hb.size) fun bb g sz h hbb => ?_).trans (hb.block c hc)
      have e1 : (Hm es).n = 2 := rfl
      match bb, hbb with
      | 0, _ => rfl
      | 1, _ => have := hm g c sz h; omega
      | n + 2, h => omega
    · rcases hX.range 1 g m sz h with ⟨g', h⟩ | h
      · exact hm g' m sz h
      · exact Nat.le_trans hb.size h
  refine one_step (by kernel_rfl) h1 (v := .map 1) (H' := Hm es) rfl (fun b g q1 q2 => by omega) I.rel I.j I.tr fun u w1 μ1 T1 R1 X1 => ?_
  obtain ⟨B1, M1⟩ := below rfl rfl I.map I.below X1
  refine one_step (by kernel_rfl) h2 (v := .ptr 0 0 (o + gFld j)) (H' := Hm es) ?_ (fun b g q1 q2 => by omega) R1 (Val.keep I.j X1) T1 fun u2 w2 μ2 T2 R2 X2 => ?_
  · have q1 : evalO GE (putA (gTs o (gKey j)) (some 24) (.map 1)) (.tmp 24) = some (.map 1) := rfl
    have q2 : evalO GE (putA (gTs o (gKey j)) (some 24) (.map 1)) (.tmp 25) = some (.int .u8 (gKey j)) := rfl
    simp only [stepOp, opKind, aPass, q1, q2, Option.bind_some, hl, stepPass]
  obtain ⟨B2, M2⟩ := below rfl rfl M1 B1 X2
  refine one_step (by kernel_rfl) h3 (v := .ptr 0 0 (o + gFld j)) (H' := Hm es) rfl (fun b g q1 q2 => by omega) R2 (Val.keep (Val.keep I.j X1) X2) T2 fun u3 w3 μ3 T3 R3 X3 => ?_
  obtain ⟨B3, M3⟩ := below rfl rfl M2 B2 X3
  exact ⟨by kernel_rfl, hQ _ w3 μ3 _ T3 rfl (X3.mono _ _ _ (X2.mono _ _ _ (X1.mono _ _ _ I.zero))) B3 rfl⟩
end
theorem body96 : ∃ i0 ops0 i1, Try.f96.body = some (.seq (.region i0 ops0 false) (.seq (.region i1 gops true) .ret)) ∧ ops0 = #[⟨some 4, .assign (.const (.pointer none)), ops0[0]!.type, ops0[0]!.pos, #[], none⟩] := ⟨_, _, _, rfl, rfl⟩
def μs (c : Nat) : Mu := fun b g => if b = 0 ∧ g = 0 then some (c, 1) else none
theorem get_calls {j : Nat} (hj : j < 6) (c o : Nat) (w : World) (hc : c < w.heap.size) :
    Calls Try.prog 96 #[.pointer (some ⟨c, o, none⟩), .int .u8 (gKey j)] w fun e w' => e = .returned (.pointer (some ⟨c, o + gFld j, none⟩)) ∧ Below w.heap.size w w' := by
  letI : Val := Val.plain
  obtain ⟨i0, ops0, i1, hb, h0⟩ := body96
  have hz : μs c 0 0 = some (c, 1) := rfl
  have hRel : Rel As (μs c) w := by
    refine ⟨fun b g c' sz h => ?_, fun b g c' sz b' g' sz' h h' => ?_, fun b B h => ?_⟩
    · unfold μs at h; split at h
      · cases h; exact hc
      · cases h
    · unfold μs at h h'
      split at h
      · split at h'
        · rename_i q1 q2; rw [q1.1, q2.1]
        · cases h'
      · cases h
    · exfalso
      have hlt := AHeap.get_lt h
      have : b = 0 := by have : As.n = 1 := rfl; omega
      subst this
      cases h
  refine calls_of_wp Try.func96 hb ?_
  have T : TR (μs c) (Ts.ofArgs [.ptr 0 0 o, .int .u8 (gKey j)] Try.f96.ntmps) (#[Value.pointer (some ⟨c, o, none⟩), .int .u8 (gKey j)] ++ Array.replicate (Try.f96.ntmps - #[Value.pointer (some ⟨c, o, none⟩), .int .u8 (gKey j)].size) undef) :=
    TR.args (us := [.pointer (some ⟨c, o, none⟩), .int .u8 (gKey j)]) (VRs.cons (VR_p hz) (VRs.cons VR_i VRs.nil)) Try.f96.ntmps
  have hn : Try.f96.ntmps = 27 := by kernel_rfl
  rw [hn] at T ⊢
  refine wp_seq (region_sound (envOf_ok Try.prog) (evCall_ok (envOf_ok Try.prog) hmixed noExt_ok 0) hmixed (ts' := gT0 o (gKey j)) (A' := As) (by rw [h0]; rfl) hRel trivial T (fun b g q1 q2 => by omega) fun a1 w1 μ1 T1 R1 X1 D1 => ?_)
  simp only [Exit.then]
  refine wp_seq (wp_region_any hmixed ?_)
  have hz1 := X1.mono _ _ _ hz
  have hsz : gops.size = 29 := by kernel_rfl
  rw [hsz, show Array.replicate 29 false = gN [] by kernel_rfl]
  refine pures (μ := μ1) (c := c) (sz := 1) (o := o) (k := gKey j) (a := a1) hz1 T1 (fun ch a w d v hq => ?_) fun T19 => ?_
  · obtain ⟨q1, q2⟩ := hq
    rw [put_defers] at q1
    exact ⟨q1, q2⟩
  obtain ⟨op0, ty0, ps0, af0, g0, e0⟩ := op_at (i := 0) (d := 5) (f := isMakeMap) (by kernel_rfl)
  have e0' : op0 = .makeMap 170 none := by unfold isMakeMap at e0; split at e0; rfl; cases e0
  subst e0'
  have hfr1 : Fresh μ1 As.n (Hm []).n := fun b g q1 q2 => by
    have e1 : As.n = 1 := rfl
    have e2 : (Hm []).n = 2 := rfl
    have : b = 1 := by omega
    subst this
    rw [X1.above 1 g (by omega)]
    rfl
  refine one_step (by kernel_rfl) g0 (v := .map 1) (H := As) (H' := Hm []) rfl hfr1 R1.drew trivial T19 fun u w2 μ2 T2 R2 X2 => ?_
  rw [show (gN [1, 2, 3, 5, 6, 7, 9, 10, 11, 13, 14, 15, 17, 18, 19, 21, 22, 23, 26]).setIfInBounds 0 true = gL 0 by kernel_rfl]
  have hB1 : Below w.heap.size w w1 := ⟨X1.os, X1.tape, X1.output, X1.size, fun k hk => X1.frame k hk fun b g sz h hb => by
    have : b = 0 := by have : As.n = 1 := rfl; omega
    subst this; rfl⟩
  have hB2 : Below w.heap.size w w2 := ⟨X2.os.trans hB1.os, X2.tape.trans hB1.tape, X2.output.trans hB1.output, Nat.le_trans hB1.size X2.size, fun k hk => (X2.frame k (Nat.lt_of_lt_of_le hk hB1.size) fun b g sz h hb => by
    have : b = 0 := by have : As.n = 1 := rfl; omega
    subst this; rfl).trans (hB1.block k hk)⟩
  refine phase (o := o) (k := gKey j) (c0 := (c, 1)) (b0 := w) (fun es μ w' hes I => last3 hj hes I fun a' w'' μ' ts Tf hf h0' hb' hd => ?_) 63 0 [] μ2 w2 rfl ⟨fun j' _ hb => by simp at hb, fun e he => by cases he⟩
    { tr := T2, rel := R2, j := trivial, below := hB2, zero := X2.mono _ _ _ hz1, map := fun g m sz hm => ?_ }
  · have hv : a'.tmps.getD 4 undef = .pointer (some ⟨c, o + gFld j, none⟩) := by
      have := Tf.get hf
      simp only [VR] at this
      obtain ⟨c', sz', q1, q2⟩ := this
      rw [h0'] at q1; cases q1
      exact q2
    have hres : Try.f96.results = #[.tmp 4] := by kernel_rfl
    refine wp_ret ⟨?_, a'.tmps.getD 4 undef, ?_, ?_⟩
    · have e : ∀ a : Act, (gAct19 c o (gKey j) a).defers = a.defers := fun a => by kernel_rfl
      rw [hd, put_defers, e]
      rw [D1]
    · unfold results; rw [hres]; simp
    · rw [hv]; exact ⟨rfl, hb'⟩
  · rcases X2.range 1 g m sz hm with ⟨g', h⟩ | h
    · exfalso
      have := hfr1 1 g' (by decide) (by decide)
      rw [this] at h; cases h
    · exact Nat.le_trans hB1.size h
end Go.Proofs.Yteabbkagekdehaa
end
section
/- The functions that the run of ChipLimits takes by their contracts. -/
set_option linter.unusedVariables false
set_option maxRecDepth 100000
namespace Go.Proofs.Yteabbkagekdehaa
open Go.AE Go.RowKit
def extGet (args : List AV) (H : AHeap) : Option (AV × AHeap) :=
  match args with
  | [.ptr b g o, .int .u8 x] => ((List.range 6).find? fun j => decide (gKey j = x)).bind fun j => some (.ptr b g (o + gFld j), H)
  | _ => none
theorem extGet_inv {args : List AV} {A : AHeap} {v : AV} {A' : AHeap} (h : extGet args A = some (v, A')) : ∃ b g o j, j < 6 ∧ args = [.ptr b g o, .int .u8 (gKey j)] ∧ v = .ptr b g (o + gFld j) ∧ A' = A := by
  unfold extGet at h
  split at h
  · rename_i b g o x
    simp only [Option.bind_eq_some_iff, Option.some.injEq, Prod.mk.injEq] at h
    obtain ⟨j, h1, rfl, rfl⟩ := h
    have h2 := List.find?_some h1
    have h3 := List.mem_of_find?_eq_some h1
    simp only [decide_eq_true_eq] at h2
    subst h2
    exact ⟨b, g, o, j, List.mem_range.1 h3, rfl, rfl, rfl⟩
  · cases h
theorem extGet_ok [Val] {args : List AV} {A : AHeap} {v : AV} {A' : AHeap} (h : extGet args A = some (v, A')) {μ : Mu} {w : World} {us : List Value} (R : Rel A μ w) (hus : VRs μ args us) :
    Calls Try.prog 96 us.toArray w fun e w' => ∃ u μ', e = .returned u ∧ VR μ' v u ∧ Rel A' μ' w' ∧ Ext A A' μ μ' w w' := by
  obtain ⟨b, g, o, j, hj, rfl, rfl, rfl⟩ := extGet_inv h
  simp only [VRs] at hus
  obtain ⟨u1, us1, rfl, hu1, u2, us2, rfl, hu2, rfl⟩ := hus
  simp only [VR] at hu1 hu2
  obtain ⟨c, sz, hm, rfl⟩ := hu1
  subst hu2
  refine (get_calls hj c o w (R.bound _ _ _ _ hm)).mono ?_
  rintro e w' ⟨rfl, B⟩
  exact ⟨_, μ, rfl, by simp only [VR]; exact ⟨c, sz, hm, rfl⟩, R.grow B, Ext.grow B⟩
noncomputable def chipsRun : Bool := okT (evCall (envOf Try.prog) noExt 200 12 [] A0)
theorem chipsRun_true : chipsRun = true := by kernel_rfl
theorem chips_calls (w : World) : Calls Try.prog 12 #[] w fun e w' => e = .returned (.bool true) ∧ Below w.heap.size w w' := by
  obtain ⟨A', h⟩ := okT_some chipsRun_true
  exact closed_run hmixed h w
def extChips (args : List AV) (H : AHeap) : Option (AV × AHeap) := match args with | [] => some (.bool true, H) | _ => none
def extLim : FuncId → Option (List AV → AHeap → Option (AV × AHeap))
  | 12 => some extChips
  | 23 => some extNext
  | 96 => some extGet
  | _ => none
theorem fnSome {f : Nat} (h : ((envOf Try.prog).fn f).isSome = true) : ((envOf Try.prog).fn f).isSome = true := h
theorem extLim_ok (r : Raw) (F : List Fact) : letI := r.val
    ExtOK Try.prog ((envOf Try.prog).know F) extLim := by
  letI := r.val
  have hf : ∀ f g, extLim f = some g → (f = 12 ∧ g = extChips) ∨ (f = 23 ∧ g = extNext) ∨ (f = 96 ∧ g = extGet) := by
    intro f g h
    unfold extLim at h
    split at h
    · cases h; exact .inl ⟨rfl, rfl⟩
    · cases h; exact .inr (.inl ⟨rfl, rfl⟩)
    · cases h; exact .inr (.inr ⟨rfl, rfl⟩)
    · cases h
  refine ⟨fun f g h => ?_, fun f g h args A v A' h2 => ?_, fun f g h args A v A' h2 μ w us R hJ hus hfr => ?_⟩
  · rcases hf f g h with ⟨rfl, _⟩ | ⟨rfl, _⟩ | ⟨rfl, _⟩ <;> kernel_rfl
  · rcases hf f g h with ⟨rfl, rfl⟩ | ⟨rfl, rfl⟩ | ⟨rfl, rfl⟩
    · unfold extChips at h2
      split at h2
      · cases h2; exact Nat.le_refl _
      · cases h2
    · exact extNext_n h2
    · obtain ⟨_, _, _, _, _, _, _, rfl⟩ := extGet_inv h2; exact Nat.le_refl _
  · rcases hf f g h with ⟨rfl, rfl⟩ | ⟨rfl, rfl⟩ | ⟨rfl, rfl⟩
    · exact ext_closed chips_calls h2 R hus
    · exact extNext_ok r h2 μ w us R hJ hus hfr
    · exact extGet_ok h2 R hus
end Go.Proofs.Yteabbkagekdehaa
end
