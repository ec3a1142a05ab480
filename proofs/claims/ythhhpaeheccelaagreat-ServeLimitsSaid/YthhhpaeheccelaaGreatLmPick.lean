/- From one abstract heap to another that says less, or says it in other words; code in pieces. -/
import Derived.Test.YthhhpaeheccelaaGreatLmClone
set_option linter.unusedVariables false
set_option linter.unusedSimpArgs false
set_option linter.unusedSectionVars false
namespace Go.Proofs.YthhhpaeheccelaaGreat
noncomputable section
open Go.AE Go.RowKit Go.IntWalk
/-- the generation of a block -/
def genOf : List (Nat × Nat) → Nat → Nat
  | [], _ => 0
  | (b, g) :: l, c => bif Nat.beq b c then g else genOf l c
/-- block b from now on is block b of its generation -/
def pickMu (n : Nat) (gn : List (Nat × Nat)) (μ : Mu) : Mu := fun b g => bif Nat.beq g 0 && Nat.blt b n then μ b (genOf gn b) else none
def lookS : List (Nat × Sy) → Nat → Option Sy
  | [], _ => none
  | (i, z) :: l, j => bif Nat.beq i j then some z else lookS l j
def wkSym (tab : List (Nat × Sy)) (k : IntKind) (i : Nat) (v : AV) : Bool :=
  match toSy v with
  | some (k', z) => decide (k' = k) && match lookS tab i with | some y => Sy.beq z y | none => false
  | none => false
def lowSy : Sy → Bool
  | .lit _ => true
  | .var i => Nat.blt i 2000
  | .bin _ _ a b => lowSy a && lowSy b
  | .wr _ a => lowSy a
  | .md i _ => Nat.blt i 2000
  | .tab _ a => lowSy a
mutual
/-- the second says no more than the first -/
def wkv (n : Nat) (gn : List (Nat × Nat)) (tab : List (Nat × Sy)) : AV → AV → Bool
  | .bool a, .bool b => a == b
  | .int k a, .int k' b => decide (k = k') && decide (a = b)
  | .nilPtr, .nilPtr => true
  | .nilSl, .nilSl => true
  | .nilMap, .nilMap => true
  | .opq 0, .opq 0 => true
  | .ptr b g o, .ptr b' 0 o' => Nat.beq b b' && Nat.beq o o' && (Nat.blt b n && Nat.beq g (genOf gn b))
  | .sl b g o l lo ex es, .sl b' 0 o' l' lo' ex' es' => Nat.beq b b' && Nat.beq o o' && Nat.beq l l' && Nat.beq lo lo' && ex == ex' && Nat.beq es es' && (Nat.blt b n && Nat.beq g (genOf gn b))
  | .map b, .map b' => Nat.beq b b' && (Nat.blt b n && Nat.beq 0 (genOf gn b))
  | .agg a, .agg b => wkvs n gn tab a b
  | .tup a, .tup b => wkvs n gn tab a b
  | .sym k z, .sym k' z' => (decide (k = k') && lowSy z && Sy.beq z z') || (match z' with | .var i => wkSym tab k' i (.sym k z) | _ => false)
  | .int k m, .sym k' (.var i) => wkSym tab k' i (.int k m)
  | _, _ => false
def wkvs (n : Nat) (gn : List (Nat × Nat)) (tab : List (Nat × Sy)) : List AV → List AV → Bool
  | [], [] => true
  | a :: x, b :: y => wkv n gn tab a b && wkvs n gn tab x y
  | _, _ => false
end
def wkCells (n : Nat) (gn : List (Nat × Nat)) (tab : List (Nat × Sy)) (g0 : Nat) : List (AV × Nat) → List (AV × Nat) → Bool
  | _, [] => true
  | (v, s) :: cs, (v', s') :: cs' => (bif Nat.beq s' 0 then Nat.ble s g0 && wkv n gn tab v v' && v'.one else true) && wkCells n gn tab g0 cs cs'
  | [], _ :: _ => false
def wkEnts (n : Nat) (gn : List (Nat × Nat)) (tab : List (Nat × Sy)) : List (AV × AV × Nat) → List (AV × AV × Nat) → Bool
  | [], [] => true
  | (k, v, b) :: x, (k', v', b') :: y => wkv n gn tab k k' && wkv n gn tab v v' && Nat.beq b b' && wkEnts n gn tab x y
  | _, _ => false
def wkB (n : Nat) (gn : List (Nat × Nat)) (tab : List (Nat × Sy)) (g0 : Nat) : ABlk → ABlk → Bool
  | .row wr gen cells, .row wr' gen' cells' => (wr || !wr') && Nat.beq gen' 0 && Nat.beq g0 gen && wkCells n gn tab g0 cells cells'
  | .map es cl, .map es' cl' => Nat.beq g0 0 && Nat.beq cl cl' && wkEnts n gn tab es es'
  | _, _ => false
def mkH : List (Nat × ABlk) → Nat → AHeap
  | [], n => ⟨.leaf, n⟩
  | (b, B) :: L, n => (mkH L n).set b B
def wkH (n : Nat) (gn : List (Nat × Nat)) (tab : List (Nat × Sy)) (A : AHeap) : List (Nat × ABlk) → Bool
  | [] => true
  | (b, B) :: L => Nat.blt b n && (match A.get b with | some B0 => wkB n gn tab (genOf gn b) B0 B | none => false) && wkH n gn tab A L
def mkT : List (Nat × AV) → Tr AV
  | [] => .leaf
  | (t, v) :: l => (mkT l).set t v
def wkT (n : Nat) (gn : List (Nat × Nat)) (tab : List (Nat × Sy)) (ts : Ts) (T : Ts) : Nat → Bool
  | 0 => true
  | t + 1 => wkv n gn tab (ts.f t) (T.f t) && wkT n gn tab ts T t
/-- what must hold of the two readings -/
structure Read2 (V1 V2 : Val) (tab : List (Nat × Sy)) : Prop where
  low : ∀ i, i < 2000 → V1.ρ i = V2.ρ i
  opq : V1.o 0 = V2.o 0
  tab : ∀ i z, lookS tab i = some z → z.ev V1.ρ = V2.ρ i
theorem lowSy_ev {ρ ρ' : Nat → Int} (h : ∀ i, i < 2000 → ρ i = ρ' i) : ∀ z, lowSy z = true → z.ev ρ = z.ev ρ'
  | .lit _, _ => rfl
  | .var i, k => by simp only [lowSy, blt_dec, decide_eq_true_eq] at k; simp only [Sy.ev]; exact h i k
  | .bin op k' a b, k => by simp only [lowSy, Bool.and_eq_true] at k; simp only [Sy.ev]; rw [lowSy_ev h a k.1, lowSy_ev h b k.2]
  | .wr _ a, k => by simp only [lowSy] at k; simp only [Sy.ev]; rw [lowSy_ev h a k]
  | .md i _, k => by simp only [lowSy, blt_dec, decide_eq_true_eq] at k; simp only [Sy.ev]; rw [h i k]
  | .tab _ a, k => by simp only [lowSy] at k; simp only [Sy.ev]; rw [lowSy_ev h a k]
section
variable {V1 V2 : Val} {tab : List (Nat × Sy)} (H : Read2 V1 V2 tab) {n : Nat} {gn : List (Nat × Nat)} {μ : Mu}
include H
theorem wkSym_ok {k : IntKind} {i : Nat} {v : AV} (h : wkSym tab k i v = true) {u : Value} (hu : @VR V1 μ v u) : @VR V2 (pickMu n gn μ) (.sym k (.var i)) u := by
  unfold wkSym at h
  split at h
  · rename_i k' z hz
    simp only [Bool.and_eq_true, decide_eq_true_eq] at h
    obtain ⟨rfl, h⟩ := h
    split at h
    · rename_i y hy
      have e := Sy.eq_of_beq _ _ h
      subst e
      have q := @toSy_VR V1 μ v u hu _ _ hz
      subst q
      simp only [VR, Sy.ev]
      rw [H.tab i z hy]
    · cases h
  · cases h
omit H in
theorem pick_any {b : Nat} {x : Nat × Nat} (hb : Nat.blt b n = true) (h : μ b (genOf gn b) = some x) : pickMu n gn μ b 0 = some x := by
  simp only [pickMu, hb]
  simpa using h
mutual
theorem wkv_ok : ∀ (v v' : AV) (u : Value), wkv n gn tab v v' = true → @VR V1 μ v u → @VR V2 (pickMu n gn μ) v' u := by
  intro v v' u h hu
  unfold wkv at h
  split at h
  · simp only [beq_iff_eq] at h; subst h; simpa only [VR] using hu
  · simp only [Bool.and_eq_true, decide_eq_true_eq] at h; obtain ⟨rfl, rfl⟩ := h; simpa only [VR] using hu
  · simpa only [VR] using hu
  · simpa only [VR] using hu
  · simpa only [VR] using hu
  · simp only [VR] at hu ⊢; rw [← H.opq]; exact hu
  · simp only [Bool.and_eq_true, Nat.beq_eq] at h
    obtain ⟨⟨rfl, rfl⟩, h3, rfl⟩ := h
    simp only [VR] at hu ⊢
    obtain ⟨c, sz, q1, q2⟩ := hu
    exact ⟨c, sz, pick_any h3 q1, q2⟩
  · simp only [Bool.and_eq_true, Nat.beq_eq, beq_iff_eq] at h
    obtain ⟨⟨⟨⟨⟨⟨rfl, rfl⟩, rfl⟩, rfl⟩, rfl⟩, rfl⟩, h3, rfl⟩ := h
    simp only [VR] at hu ⊢
    obtain ⟨c, sz, cap, off', q1, q2⟩ := hu
    refine ⟨c, sz, cap, off', ?_, q2⟩
    exact pick_any h3 q1
  · simp only [Bool.and_eq_true, Nat.beq_eq] at h
    obtain ⟨rfl, h3, h4⟩ := h
    simp only [VR] at hu ⊢
    obtain ⟨c, sz, q1, q2⟩ := hu
    exact ⟨c, sz, pick_any h3 (by rw [← h4]; exact q1), q2⟩
  · rename_i a b
    simp only [VR] at hu ⊢
    obtain ⟨xs, q1, q2⟩ := hu
    exact ⟨xs, wkvs_ok a b xs h q1, q2⟩
  · rename_i a b
    simp only [VR] at hu ⊢
    obtain ⟨xs, q1, q2⟩ := hu
    exact ⟨xs, wkvs_ok a b xs h q1, q2⟩
  · rename_i k z k' z'
    simp only [Bool.or_eq_true, Bool.and_eq_true, decide_eq_true_eq] at h
    rcases h with ⟨⟨rfl, h2⟩, h3⟩ | h
    · have e := Sy.eq_of_beq _ _ h3
      subst e
      simp only [VR] at hu ⊢
      rw [hu, lowSy_ev H.low z h2]
    · split at h
      · exact wkSym_ok H h hu
      · cases h
  · exact wkSym_ok H h hu
  · cases h
theorem wkvs_ok : ∀ (vs vs' : List AV) (us : List Value), wkvs n gn tab vs vs' = true → @VRs V1 μ vs us → @VRs V2 (pickMu n gn μ) vs' us := by
  intro vs vs' us h hu
  cases vs <;> cases vs' <;> simp only [wkvs, Bool.and_eq_true] at h <;> try (cases h; done)
  · simpa only [VRs] using hu
  · rename_i v vs v' vs'
    simp only [VRs] at hu ⊢
    obtain ⟨u, us', q1, q2, q3⟩ := hu
    exact ⟨u, us', q1, wkv_ok v v' u h.1 q2, wkvs_ok vs vs' us' h.2 q3⟩
end
omit H in
theorem wkCells_len {g0 : Nat} : ∀ {cs cs' : List (AV × Nat)}, wkCells n gn tab g0 cs cs' = true → cs'.length ≤ cs.length
  | cs, [], _ => by simp
  | [], _ :: _, h => by simp [wkCells] at h
  | (v, s) :: cs, (v', s') :: cs', h => by
    simp only [wkCells, Bool.and_eq_true] at h
    have := wkCells_len h.2
    simp; omega
omit H in
theorem wkCells_get {g0 : Nat} : ∀ {cs cs' : List (AV × Nat)}, wkCells n gn tab g0 cs cs' = true → ∀ (i : Nat) v', cs'[i]? = some (v', 0) → ∃ v s, cs[i]? = some (v, s) ∧ s ≤ g0 ∧ wkv n gn tab v v' = true ∧ v'.one = true
  | cs, [], _, i, v', hi => by simp at hi
  | [], _ :: _, h, i, v', hi => by simp [wkCells] at h
  | (v, s) :: cs, (w', s') :: cs', h, i, v', hi => by
    simp only [wkCells, Bool.and_eq_true] at h
    cases i with
    | zero =>
      simp at hi
      obtain ⟨rfl, rfl⟩ := hi
      have h1 := h.1
      simp only [beq_dec, decide_true, cond_true, Bool.and_eq_true, Nat.ble_eq] at h1
      exact ⟨v, s, by simp, h1.1.1, h1.1.2, h1.2⟩
    | succ i => simpa using wkCells_get h.2 i v' (by simpa using hi)
theorem wkEnts_ok : ∀ {es es' : List (AV × AV × Nat)}, wkEnts n gn tab es es' = true → es'.length = es.length ∧ ∀ (i : Nat) e' (m : MapEntry), es'[i]? = some e' → ∃ e, es[i]? = some e ∧ (@EntR V1 μ e m → @EntR V2 (pickMu n gn μ) e' m)
  | [], [], _ => ⟨rfl, fun i e' m hi => by simp at hi⟩
  | [], _ :: _, h => by simp [wkEnts] at h
  | _ :: _, [], h => by simp [wkEnts] at h
  | (k, v, b) :: x, (k', v', b') :: y, h => by
    simp only [wkEnts, Bool.and_eq_true, Nat.beq_eq] at h
    obtain ⟨⟨⟨h1, h2⟩, rfl⟩, h4⟩ := h
    obtain ⟨q1, q2⟩ := wkEnts_ok h4
    refine ⟨by simp [q1], fun i e' m hi => ?_⟩
    cases i with
    | zero =>
      simp only [List.getElem?_cons_zero, Option.some.injEq] at hi
      subst hi
      exact ⟨(k, v, b), by simp, fun ⟨a, c, d⟩ => ⟨wkv_ok H k k' _ h1 a, wkv_ok H v v' _ h2 c, d⟩⟩
    | succ i => simpa using q2 i e' m (by simpa using hi)
theorem wkB_ok {g0 : Nat} {B B' : ABlk} (h : wkB n gn tab g0 B B' = true) {sz : Nat} {o : Obj} (hB : @BlkR V1 μ B g0 sz o) : @BlkR V2 (pickMu n gn μ) B' 0 sz o := by
  unfold wkB at h
  split at h
  · rename_i wr gen cells wr' gen' cells'
    simp only [Bool.and_eq_true, Bool.or_eq_true, Nat.beq_eq, Bool.not_eq_true'] at h
    obtain ⟨⟨⟨h1, rfl⟩, rfl⟩, h4⟩ := h
    obtain ⟨cs, e, fr, k1, k2, k3, k4, k5, k6⟩ := hB
    refine ⟨cs, e, fr, k1, k2, fun hw => k3 (by rcases h1 with h1 | h1; exact h1; rw [hw] at h1; cases h1), Nat.le_refl _, fun _ => Nat.le_trans (wkCells_len h4) (k5 rfl), fun i v s hi hs => ?_⟩
    have hs0 : s = 0 := by omega
    subst hs0
    obtain ⟨v0, s0, q1, q2, q3, q4⟩ := wkCells_get h4 i v hi
    obtain ⟨u, r1, r2, _⟩ := k6 i v0 s0 q1 q2
    exact ⟨u, r1, wkv_ok H _ _ _ q3 r2, q4⟩
  · rename_i es cl es' cl'
    simp only [Bool.and_eq_true, Nat.beq_eq] at h
    obtain ⟨⟨rfl, rfl⟩, h3⟩ := h
    obtain ⟨_, ms, k1, k2⟩ := hB
    obtain ⟨q1, q2⟩ := wkEnts_ok H h3 (n := n) (gn := gn) (μ := μ)
    refine ⟨rfl, ms, k1, by rw [q1]; exact k2.1, fun i e m h1 h2 => ?_⟩
    obtain ⟨e0, r1, r2⟩ := q2 i e m h1
    exact r2 (k2.2 i e0 m r1 h2)
  · cases h
omit H in
theorem mkH_n : ∀ (L : List (Nat × ABlk)) (n : Nat), (mkH L n).n = n
  | [], n => rfl
  | (b, B) :: L, n => by simp only [mkH, AHeap.n_set]; exact mkH_n L n
theorem wkH_get {A : AHeap} : ∀ {L : List (Nat × ABlk)}, wkH n gn tab A L = true → ∀ b B', (mkH L n).get b = some B' → ∃ B, A.get b = some B ∧ wkB n gn tab (genOf gn b) B B' = true
  | [], _, b, B', hg => by
    simp only [mkH, AHeap.get_def] at hg
    cases hb : Nat.blt b n <;> simp [hb] at hg
    cases hg
  | (b0, B0) :: L, h, b, B', hg => by
    simp only [wkH, Bool.and_eq_true, Nat.blt_eq] at h
    obtain ⟨⟨h1, h2⟩, h3⟩ := h
    simp only [mkH] at hg
    rw [AHeap.get_set _ _ _ _ (by rw [mkH_n]; exact h1)] at hg
    by_cases e : b = b0
    · subst e
      simp only [if_true, Option.some.injEq] at hg
      subst hg
      split at h2
      · rename_i B hB; exact ⟨B, hB, h2⟩
      · cases h2
    · rw [if_neg e] at hg
      exact wkH_get h3 b B' hg
theorem Rel.pick {A : AHeap} {w : World} (R : @Rel V1 A μ w) {L : List (Nat × ABlk)} (h : wkH n gn tab A L = true) : @Rel V2 (mkH L n) (pickMu n gn μ) w := by
  have hp : ∀ b g x, pickMu n gn μ b g = some x → g = 0 ∧ μ b (genOf gn b) = some x := fun b g x hx => by
    simp only [pickMu] at hx
    cases hg : (Nat.beq g 0 && Nat.blt b n) with
    | false => rw [hg] at hx; cases hx
    | true =>
      rw [hg] at hx
      simp only [Bool.and_eq_true, Nat.beq_eq] at hg
      refine ⟨hg.1, ?_⟩
      simpa only [cond_true] using hx
  refine ⟨fun b g c sz hx => @Rel.bound V1 A μ w R _ _ _ _ (hp _ _ _ hx).2, fun b g c sz b' g' sz' h1 h2 => @Rel.inj V1 A μ w R _ _ _ _ _ _ _ (hp _ _ _ h1).2 (hp _ _ _ h2).2, fun b B' hb g c sz hx => ?_⟩
  obtain ⟨rfl, hx2⟩ := hp _ _ _ hx
  obtain ⟨B, q1, q2⟩ := wkH_get H h b B' hb
  obtain ⟨o, r1, r2⟩ := @Rel.blk V1 A μ w R b B q1 _ c sz hx2
  exact ⟨o, r1, wkB_ok H q2 r2⟩
theorem TR.pick {ts T : Ts} {tmps : Array Value} (hT : @TR V1 μ ts tmps) (hn : ts.n = T.n) (h : wkT n gn tab ts T T.n = true) : @TR V2 (pickMu n gn μ) T tmps := by
  have key : ∀ k, wkT n gn tab ts T k = true → ∀ t, t < k → wkv n gn tab (ts.f t) (T.f t) = true := by
    intro k
    induction k with
    | zero => intro _ t ht; omega
    | succ k ih =>
      intro h t ht
      simp only [wkT, Bool.and_eq_true] at h
      by_cases e : t = k
      · subst e; exact h.1
      · exact ih h.2 t (by omega)
  refine ⟨by rw [hT.1, hn], fun t v hv => ?_⟩
  obtain ⟨h1, rfl⟩ := Ts.get_lt hv
  obtain ⟨u, q1, q2⟩ := hT.2 t (ts.f t) (Ts.get_of_lt (by omega))
  exact ⟨u, q1, wkv_ok H _ _ _ (key _ h t h1) q2⟩
end
end
end Go.Proofs.YthhhpaeheccelaaGreat
