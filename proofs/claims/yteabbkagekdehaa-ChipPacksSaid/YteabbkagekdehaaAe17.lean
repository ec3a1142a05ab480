/- The abstract evaluator, part 17: closed runs; runs off an empty memory; contracts. -/
import Derived.Test.YteabbkagekdehaaAe16
import Derived.Below
set_option linter.unusedVariables false
set_option linter.unusedSectionVars false
set_option linter.unusedSimpArgs false
namespace Go.AE
open Go.RowKit (Below)
/-- no unknowns -/
abbrev Val.plain : Val := { ρ := fun _ => 0, o := fun _ => .nilFunc, J := fun _ _ => True, keep := fun _ _ => trivial }
def noExt : FuncId → Option (List AV → AHeap → Option (AV × AHeap)) := fun _ => none
theorem noExt_ok [Val] {P : Program} {E : Env} : ExtOK P E noExt := ⟨(fun f g h => by cases h), (fun f g h => by cases h), (fun f g h => by cases h)⟩
def A0 : AHeap := ⟨.leaf, 0⟩
def μ0 : Mu := fun _ _ => none
theorem A0_get (b : Nat) : A0.get b = none := AHeap.get_none (Nat.zero_le _)
theorem Rel.empty [Val] (w : World) : Rel A0 μ0 w := ⟨(fun b g c sz h => by cases h), (fun b g c sz b' g' sz' h => by cases h), (fun b B h => by rw [A0_get] at h; cases h)⟩
theorem Ext.below {A' : AHeap} {μ' : Mu} {w w' : World} (X : Ext A0 A' μ0 μ' w w') : Below w.heap.size w w' :=
  ⟨X.os, X.tape, X.output, X.size, fun k hk => X.frame k hk fun b g sz h => by cases h⟩
theorem Rel.grow [Val] {A : AHeap} {μ : Mu} {w w' : World} (R : Rel A μ w) (B : Below w.heap.size w w') : Rel A μ w' :=
  ⟨fun b g c sz h => Nat.lt_of_lt_of_le (R.bound b g c sz h) B.size, R.inj, fun b x hb g c sz h => by
    obtain ⟨o, h1, h2⟩ := R.blk b x hb g c sz h
    exact ⟨o, by rw [B.block c (R.bound b g c sz h)]; exact h1, h2⟩⟩
theorem Ext.grow {A : AHeap} {μ : Mu} {w w' : World} (B : Below w.heap.size w w') : Ext A A μ μ w w' :=
  ⟨MuLe.refl _, fun _ _ _ => rfl, fun b g h k => by omega, Nat.le_refl _, B.os, B.tape, B.output, B.size, fun b g c sz h => .inl ⟨g, h⟩, fun _ _ h => h, fun c hc _ => B.block c hc⟩
/-- a call without arguments, run by itself -/
theorem closed_run {P : Program} (hm : P.follows .mixedOrders = true) {n : Nat} {f : FuncId} {b : Bool} {A' : AHeap} (h : evCall (envOf P) noExt n f [] A0 = some (.bool b, A')) (w : World) :
    Calls P f #[] w fun e w' => e = .returned (.bool b) ∧ Below w.heap.size w w' := by
  letI : Val := Val.plain
  refine ((evCall_ok (envOf_ok P) hm noExt_ok n).ok f [] A0 _ A' h μ0 w [] (Rel.empty w) trivial VRs.nil (fun _ _ _ _ => rfl)).mono ?_
  rintro e w' ⟨u, μ', rfl, hu, _, X⟩
  simp only [VR] at hu
  subst hu
  exact ⟨rfl, X.below⟩
/-- a call on one slice of which the run asks nothing -/
theorem opaque_run [Val] {P : Program} (hm : P.follows .mixedOrders = true) {F : List Fact} (hF : ∀ f ∈ F, f.holds Val.ρ) {ext : FuncId → Option (List AV → AHeap → Option (AV × AHeap))} (hX : ExtOK P ((envOf P).know F) ext)
    {n : Nat} {f : FuncId} {b : Bool} {A' : AHeap} (h : evCall ((envOf P).know F) ext n f [.opq 0] A0 = some (.bool b, A')) (w : World) (hJ : Val.J μ0 w) {a : Option Addr} {len cap : Nat} (ho : Val.o 0 = .slice a len cap) :
    Calls P f #[.slice a len cap] w fun e w' => e = .returned (.bool b) ∧ Below w.heap.size w w' := by
  refine ((evCall_ok (know_ok (envOf_ok P) hF) hm hX n).ok f [.opq 0] A0 _ A' h μ0 w [.slice a len cap] (Rel.empty w) hJ (VRs.cons (by simp only [VR]; exact ⟨ho.symm, a, len, cap, rfl⟩) VRs.nil) (fun _ _ _ _ => rfl)).mono ?_
  rintro e w' ⟨u, μ', rfl, hu, _, X⟩
  simp only [VR] at hu
  subst hu
  exact ⟨rfl, X.below⟩
def okT : Option (AV × AHeap) → Bool
  | some (.bool true, _) => true
  | _ => false
theorem okT_some {r : Option (AV × AHeap)} (h : okT r = true) : ∃ A', r = some (.bool true, A') := by
  unfold okT at h
  split at h
  · exact ⟨_, rfl⟩
  · cases h
/-- the same facts, the same heap: a contract of one function without arguments -/
theorem ext_closed [Val] {P : Program} {f : FuncId} {b : Bool} (hC : ∀ w, Calls P f #[] w fun e w' => e = .returned (.bool b) ∧ Below w.heap.size w w') {args : List AV} {A : AHeap} {v : AV} {A' : AHeap}
    (h : (match args with | [] => some (AV.bool b, A) | _ => none) = some (v, A')) {μ : Mu} {w : World} {us : List Value} (R : Rel A μ w) (hus : VRs μ args us) :
    Calls P f us.toArray w fun e w' => ∃ u μ', e = .returned u ∧ VR μ' v u ∧ Rel A' μ' w' ∧ Ext A A' μ μ' w w' := by
  cases args with
  | cons x xs => cases h
  | nil =>
    simp only [Option.some.injEq, Prod.mk.injEq] at h
    obtain ⟨rfl, rfl⟩ := h
    simp only [VRs] at hus
    subst hus
    refine (hC w).mono ?_
    rintro e w' ⟨rfl, B⟩
    exact ⟨_, μ, rfl, by simp only [VR], R.grow B, Ext.grow B⟩
end Go.AE
