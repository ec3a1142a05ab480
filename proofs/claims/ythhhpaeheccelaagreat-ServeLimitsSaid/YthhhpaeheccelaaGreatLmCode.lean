/- A function's code in pieces, each run by the abstract evaluator. -/
import Derived.Test.YthhhpaeheccelaaGreatLmPick
import Derived.LoopN
set_option linter.unusedVariables false
set_option linter.unusedSimpArgs false
set_option linter.unusedSectionVars false
namespace Go.Proofs.YthhhpaeheccelaaGreat
noncomputable section
open Go.AE Go.RowKit Go.IntWalk
/-- memory of before the law is as it was, and none of it is the heap's -/
structure Up (w0 w : World) (μ : Mu) : Prop where
  below : Below w0.heap.size w0 w
  over : ∀ b g c sz, μ b g = some (c, sz) → w0.heap.size ≤ c
theorem Up.ext {w0 w w' : World} {μ μ' : Mu} (h : Up w0 w μ) {A A' : AHeap} (X : Ext A A' μ μ' w w') : Up w0 w' μ' :=
  ⟨h.below.trans ⟨X.os, X.tape, X.output, X.size, fun k hk => X.frame k (Nat.lt_of_lt_of_le hk h.below.size) fun b g sz hb => by have := h.over _ _ _ _ hb; omega⟩,
    fun b g c sz hb => by
      rcases X.range b g c sz hb with ⟨g', h1⟩ | h1
      · exact h.over _ _ _ _ h1
      · have := h.below.size; omega⟩
theorem Up.pick {w0 w : World} {μ : Mu} (h : Up w0 w μ) (n : Nat) (gn : List (Nat × Nat)) : Up w0 w (pickMu n gn μ) := by
  refine ⟨h.below, fun b g c sz hb => ?_⟩
  simp only [pickMu] at hb
  cases hg : (Nat.beq g 0 && Nat.blt b n) with
  | false => rw [hg] at hb; cases hb
  | true =>
    rw [hg] at hb
    simp only [cond_true] at hb
    exact h.over _ _ _ _ hb
theorem Up.start (w : World) : Up w w μ0 := ⟨Below.refl _ _, fun b g c sz h => by cases h⟩
def Hi (n : Nat) (μ : Mu) : Prop := ∀ b g, n ≤ b → μ b g = none
theorem Hi.ext {w w' : World} {μ μ' : Mu} {A A' : AHeap} (h : Hi A.n μ) (X : Ext A A' μ μ' w w') : Hi A'.n μ' := fun b g hb => by
  rw [X.above b g hb]; exact h b g (Nat.le_trans X.n hb)
theorem Hi.pick (μ : Mu) (n : Nat) (gn : List (Nat × Nat)) : Hi n (pickMu n gn μ) := fun b g hb => by
  have : Nat.blt b n = false := by simp [blt_dec]; omega
  simp [pickMu, this]
theorem Hi.fresh {n m : Nat} {μ : Mu} (h : Hi n μ) : Fresh μ n m := fun b g h1 _ => h b g h1
section
variable [Val] {P : Program} {E : Env}
/-- the state between two pieces -/
structure St (w0 : World) (ts : Ts) (A : AHeap) (μ : Mu) (a : Act) (w : World) : Prop where
  tr : TR μ ts a.tmps
  rel : Rel A μ w
  j : Val.J μ w
  up : Up w0 w μ
  hi : Hi A.n μ
  defers : a.defers = []
theorem St.next {w0 : World} {ts ts' : Ts} {A A' : AHeap} {μ μ' : Mu} {a a' : Act} {w w' : World} (S : St w0 ts A μ a w) (t1 : TR μ' ts' a'.tmps) (t2 : Rel A' μ' w') (X : Ext A A' μ μ' w w') (t4 : a'.defers = a.defers) : St w0 ts' A' μ' a' w' :=
  ⟨t1, t2, Val.keep S.j X, S.up.ext X, S.hi.ext X, t4.trans S.defers⟩
def seqL : List Code → Code → Code
  | [], z => z
  | c :: cs, z => .seq c (seqL cs z)
def evList (E : Env) (call : ACall) (n : Nat) : List Code → Ts → AHeap → Option (Ts × AHeap)
  | [], ts, H => some (ts, H)
  | c :: cs, ts, H => (evCode E call n c ts H).bind fun s => match s.ex with
    | .normal => evList E call n cs s.ts s.H
    | _ => none
def evRounds (E : Env) (call : ACall) (n : Nat) (c : Code) : Nat → Ts → AHeap → Option (Ts × AHeap)
  | 0, ts, H => some (ts, H)
  | k + 1, ts, H => (evCode E call n c ts H).bind fun s => match s.ex with
    | .normal => evRounds E call n c k s.ts s.H
    | _ => none
variable (hE : EnvOK P E) (hm : P.follows .mixedOrders = true) {call : ACall} (hC : CallOK P E call)
include hE hm hC
theorem piece_sound {n : Nat} {c : Code} {ts : Ts} {A : AHeap} {s : ASt} (h : evCode E call n c ts A = some s) {w0 : World} {μ : Mu} {a : Act} {w : World} (S : St w0 ts A μ a w) {Q : Exit → Act → World → Prop}
    (hQ : ∀ a' w' μ', St w0 s.ts s.H μ' a' w' → Q (exOf s.ex) a' w') : c.wp P Q a w :=
  code_sound hE hC hm h S.rel S.j S.tr (Hi.fresh S.hi) fun a' w' μ' t1 t2 t3 t4 => hQ a' w' μ' (S.next t1 t2 t3 t4)
theorem seqL_sound {n : Nat} {z : Code} {Q : Exit → Act → World → Prop} {w0 : World} : ∀ {cs : List Code} {ts : Ts} {A : AHeap} {ts' : Ts} {A' : AHeap}, evList E call n cs ts A = some (ts', A') → ∀ {μ : Mu} {a : Act} {w : World}, St w0 ts A μ a w →
    (∀ a' w' μ', St w0 ts' A' μ' a' w' → z.wp P Q a' w') → (seqL cs z).wp P Q a w
  | [], ts, A, ts', A', h, μ, a, w, S, hz => by
    simp only [evList, Option.some.injEq, Prod.mk.injEq] at h
    obtain ⟨rfl, rfl⟩ := h
    exact hz a w μ S
  | c :: cs, ts, A, ts', A', h, μ, a, w, S, hz => by
    simp only [evList, Option.bind_eq_some_iff] at h
    obtain ⟨s, h1, h2⟩ := h
    refine wp_seq (piece_sound hE hm hC h1 S fun a1 w1 μ1 S1 => ?_)
    cases hex : s.ex with
    | normal =>
      rw [hex] at h2
      simp only [exOf, Exit.then]
      exact seqL_sound h2 S1 hz
    | exit id => rw [hex] at h2; cases h2
    | ret => rw [hex] at h2; cases h2
theorem rounds_sound {n : Nat} {c : Code} {Q : Exit → Act → World → Prop} {w0 : World} {m : Nat} : ∀ {k : Nat} {ts : Ts} {A : AHeap} {ts' : Ts} {A' : AHeap}, evRounds E call n c k ts A = some (ts', A') → ∀ {μ : Mu} {a : Act} {w : World}, St w0 ts A μ a w →
    (∀ a' w' μ', St w0 ts' A' μ' a' w' → Code.rounds P c Q m a' w') → Code.rounds P c Q (m + k) a w
  | 0, ts, A, ts', A', h, μ, a, w, S, hz => by
    simp only [evRounds, Option.some.injEq, Prod.mk.injEq] at h
    obtain ⟨rfl, rfl⟩ := h
    exact hz a w μ S
  | k + 1, ts, A, ts', A', h, μ, a, w, S, hz => by
    simp only [evRounds, Option.bind_eq_some_iff] at h
    obtain ⟨s, h1, h2⟩ := h
    show c.wp P (Exit.then (Code.rounds P c Q (m + k)) Q) a w
    refine piece_sound hE hm hC h1 S fun a1 w1 μ1 S1 => ?_
    cases hex : s.ex with
    | normal =>
      rw [hex] at h2
      simp only [exOf, Exit.then]
      exact rounds_sound h2 S1 hz
    | exit id => rw [hex] at h2; cases h2
    | ret => rw [hex] at h2; cases h2
/-- the end: the code returns -/
theorem last_sound {n : Nat} {c : Code} {ts : Ts} {A : AHeap} {s : ASt} (h : evCode E call n c ts A = some s) (hr : s.ex = .ret) {F : Func} {b : Bool} (hv : resVals E s.ts s.H F.results.toList = some [.bool b]) {w0 : World} {μ : Mu} {a : Act} {w : World} (S : St w0 ts A μ a w) :
    c.wp P (bodyPost P F fun e w' => e = .returned (.bool b) ∧ Below w0.heap.size w0 w') a w := by
  refine piece_sound hE hm hC h S fun a1 w1 μ1 S1 => ?_
  rw [hr]
  obtain ⟨u, e1, e2⟩ := results_sound hE S1.rel S1.tr hv
  simp only [resOf, VR] at e2
  subst e2
  exact ⟨S1.defers, _, e1, rfl, S1.up.below⟩
end
/-- another reading of the state -/
theorem St.pick {V1 V2 : Val} {tab : List (Nat × Sy)} (H : Read2 V1 V2 tab) {n : Nat} {gn : List (Nat × Nat)} {w0 : World} {ts T : Ts} {A : AHeap} {μ : Mu} {a : Act} {w : World} (S : @St V1 w0 ts A μ a w) {L : List (Nat × ABlk)}
    (h1 : wkH n gn tab A L = true) (hn : ts.n = T.n) (h2 : wkT n gn tab ts T T.n = true) (hJ : @Val.J V2 (pickMu n gn μ) w) : @St V2 w0 T (mkH L n) (pickMu n gn μ) a w :=
  @St.mk V2 _ _ _ _ _ _ (TR.pick H (@St.tr V1 _ _ _ _ _ _ S) hn h2) (Rel.pick H (@St.rel V1 _ _ _ _ _ _ S) h1) hJ (Up.pick (@St.up V1 _ _ _ _ _ _ S) n gn) (by rw [mkH_n]; exact Hi.pick μ n gn) (@St.defers V1 _ _ _ _ _ _ S)
end
end Go.Proofs.YthhhpaeheccelaaGreat
