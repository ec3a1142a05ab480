/- One instruction by itself: what formOf, unused and ranged say, and what the document's InstrFault says: checked by runs over unknown numbers. -/
import Derived.Test.YteabbkagekdehaaNeA
set_option linter.unusedVariables false
set_option linter.unusedSimpArgs false
set_option maxRecDepth 100000
namespace Go.Proofs.Yteabbkagekdehaa
open Go.AE Go.RowKit
def extI : FuncId → Option (List AV → AHeap → Option (AV × AHeap))
  | 96 => some extGet
  | _ => none
theorem extI_ok [Val] {F : List Fact} (hF : ∀ f ∈ F, f.holds Val.ρ) : ExtOK Try.prog ((envOf Try.prog).know F) extI := by
  have hf : ∀ f g, extI f = some g → (f = 96 ∧ g = extGet) := by
    intro f g h
    unfold extI at h
    split at h
    · cases h; exact ⟨rfl, rfl⟩
    · cases h
  refine ⟨fun f g h => ?_, fun f g h args A v A' h2 => ?_, fun f g h args A v A' h2 μ w us R hJ hus hfr => ?_⟩
  · obtain ⟨rfl, _⟩ := hf f g h; kernel_rfl
  · obtain ⟨rfl, rfl⟩ := hf f g h
    obtain ⟨_, _, _, _, _, _, _, rfl⟩ := extGet_inv h2; exact Nat.le_refl _
  · obtain ⟨rfl, rfl⟩ := hf f g h
    exact extGet_ok h2 R hus
/-- unknown numbers -/
abbrev valR (ρ : Nat → Int) : Val := { ρ := ρ, o := fun _ => .nilFunc, J := fun _ _ => True, keep := fun _ _ => trivial }
/-- numbers, truth values, texts -/
def scal : AV → Bool
  | .bool _ | .int _ _ | .sym _ _ | .str _ => true
  | _ => false
def flat : AV → Bool
  | .agg cs => cs.all scal
  | _ => false
def scV (ρ : Nat → Int) : AV → Value
  | .bool b => .bool b
  | .int k n => .int k n
  | .sym k z => .int k (z.ev ρ)
  | .str s => .string s
  | _ => .nilFunc
def flatV (ρ : Nat → Int) : AV → Value
  | .agg cs => .agg (cs.map (scV ρ)).toArray
  | _ => .nilFunc
theorem scal_ok {ρ : Nat → Int} {μ : Mu} {v : AV} {u : Value} (h : scal v = true) : letI := valR ρ; VR μ v u ↔ u = scV ρ v := by
  letI := valR ρ
  cases v <;> simp only [scal, Bool.false_eq_true] at h <;> simp only [VR, scV] <;> rfl
theorem scals_ok {ρ : Nat → Int} {μ : Mu} : ∀ {vs : List AV} {us : List Value}, vs.all scal = true → (letI := valR ρ; VRs μ vs us ↔ us = vs.map (scV ρ))
  | [], us, h => by letI := valR ρ; simp only [VRs, List.map_nil]
  | v :: vs, us, h => by
    letI := valR ρ
    simp only [List.all_cons, Bool.and_eq_true] at h
    simp only [VRs, List.map_cons]
    constructor
    · rintro ⟨u, us', rfl, h1, h2⟩
      rw [(scal_ok h.1).1 h1, (scals_ok h.2).1 h2]
    · rintro rfl
      exact ⟨_, _, rfl, (scal_ok h.1).2 rfl, (scals_ok h.2).2 rfl⟩
theorem flat_ok {ρ : Nat → Int} {μ : Mu} {v : AV} {u : Value} (h : flat v = true) : letI := valR ρ; VR μ v u ↔ u = flatV ρ v := by
  letI := valR ρ
  cases v <;> simp only [flat, Bool.false_eq_true] at h
  case agg cs =>
    simp only [VR, flatV]
    constructor
    · rintro ⟨us, h1, rfl⟩
      rw [(scals_ok h).1 h1]
    · rintro rfl
      exact ⟨_, (scals_ok h).2 rfl, rfl⟩
/-- a call whose answer is true or false, or a number, and that leaves all memory -/
def Says (f : FuncId) (us : List Value) (v : Value) : Prop := ∀ w, Calls Try.prog f us.toArray w fun e w' => e = .returned v ∧ Below w.heap.size w w'
theorem says_of {ρ : Nat → Int} {F : List Fact} (hF : ∀ f ∈ F, f.holds ρ) {n : Nat} {f : FuncId} {args : List AV} {v : AV} {A' : AHeap} (h : evCall ((envOf Try.prog).know F) extI n f args A0 = some (v, A'))
    {us : List Value} (hus : letI := valR ρ; VRs μ0 args us) {val : Value} (hv : ∀ μ u, (letI := valR ρ; VR μ v u) → u = val) : Says f us val := by
  letI := valR ρ
  intro w
  refine ((evCall_ok (know_ok (envOf_ok Try.prog) hF) hmixed (extI_ok hF) n).ok f args A0 _ A' h μ0 w us (Rel.empty w) trivial hus (fun _ _ _ _ => rfl)).mono ?_
  rintro e w' ⟨u, μ', rfl, hu, _, X⟩
  rw [hv _ _ hu]
  exact ⟨rfl, X.below⟩
/-! ### What the error must be -/
structure Spec where
  zero : List Sy
  rng : List (Sy × Sy)
  bad : Bool
def Spec.ev (s : Spec) (ρ : Nat → Int) : Int :=
  if s.zero.any fun z => !decide (z.ev ρ = 0) then 3 else if s.rng.any fun p => !decide (p.1.ev ρ ≤ p.2.ev ρ) then 9 else if s.bad then 9 else 0
/-- some (is one not so), by what is known -/
def any3 {α : Type} (f : α → Option Bool) : List α → Option Bool
  | [] => some false
  | x :: l => match f x with
    | some false => some true
    | some true => any3 f l
    | none => match any3 f l with
      | some true => some true
      | _ => none
theorem any3_ok {α : Type} {f : α → Option Bool} {g : α → Bool} (h : ∀ x b, f x = some b → g x = b) : ∀ (l : List α) b, any3 f l = some b → (l.any fun x => !g x) = b
  | [], b, hb => by simp [any3] at hb; simp [← hb]
  | x :: l, b, hb => by
    simp only [any3] at hb
    simp only [List.any_cons]
    split at hb
    · rename_i hx; rw [h x _ hx]; simpa using hb
    · rename_i hx; rw [h x _ hx, any3_ok h l b hb]; rfl
    · split at hb
      · rename_i h1; cases hb; rw [any3_ok h l _ h1]; simp
      · cases hb
def Spec.run (s : Spec) (F : List Fact) : Option Int :=
  match any3 (fun z => eqF F z (.lit 0)) s.zero with
  | some true => some 3
  | some false => match any3 (fun p => leF F p.1 p.2) s.rng with
    | some true => some 9
    | some false => some (if s.bad then 9 else 0)
    | none => none
  | none => none
theorem Spec.run_ok {s : Spec} {F : List Fact} {ρ : Nat → Int} (hF : ∀ f ∈ F, f.holds ρ) {e : Int} (h : s.run F = some e) : s.ev ρ = e := by
  have h1 := any3_ok (f := fun z => eqF F z (.lit 0)) (g := fun z => decide (z.ev ρ = 0)) (fun z b hb => eqF_ok hF (b := .lit 0) hb) s.zero
  have h2 := any3_ok (f := fun p : Sy × Sy => leF F p.1 p.2) (g := fun p => decide (p.1.ev ρ ≤ p.2.ev ρ)) (fun z b hb => leF_ok hF hb) s.rng
  unfold Spec.run at h
  unfold Spec.ev
  split at h
  · rename_i ha; cases h; rw [h1 _ ha]; rfl
  · rename_i ha
    rw [h1 _ ha]
    simp only [Bool.false_eq_true, if_false]
    split at h
    · rename_i hb; cases h; rw [h2 _ hb]; rfl
    · rename_i hb; cases h; rw [h2 _ hb]; rfl
    · cases h
  · cases h
def Fact.neg : Fact → Fact
  | .le a b r => .le a b (!r)
  | .eq a b r => .eq a b (!r)
theorem Fact.neg_ok (f : Fact) (ρ : Nat → Int) : f.holds ρ ∨ (Fact.neg f).holds ρ :=
  match f with
  | .le a b r => by
    simp only [Fact.holds, Fact.neg]
    cases r <;> cases decide (a.ev ρ ≤ b.ev ρ) <;> simp
  | .eq a b r => by
    simp only [Fact.holds, Fact.neg]
    cases r <;> cases decide (a.ev ρ = b.ev ρ) <;> simp
def chain (leaf : List Fact → Bool) : List Fact → List Fact → Bool
  | [], F => leaf F
  | f :: fs, F => (leaf (Fact.neg f :: F)) && chain leaf fs (f :: F)
theorem chain_ok {leaf : List Fact → Bool} {ρ : Nat → Int} : ∀ (fs F : List Fact), chain leaf fs F = true → (∀ f ∈ F, f.holds ρ) → ∃ F', leaf F' = true ∧ ∀ f ∈ F', f.holds ρ
  | [], F, h, hF => ⟨F, h, hF⟩
  | f :: fs, F, h, hF => by
    simp only [chain, Bool.and_eq_true] at h
    rcases Fact.neg_ok f ρ with h1 | h1
    · exact chain_ok fs _ h.2 (by simpa using ⟨h1, hF⟩)
    · exact ⟨_, h.1, by simpa using ⟨h1, hF⟩⟩
/-! ### The runs -/
noncomputable def E1 (F : List Fact) : Env := (envOf Try.prog).know F
def eqI (a : Option Int) (b : Option Int) : Bool := match a, b with
  | some x, some y => decide (x = y)
  | _, _ => false
/-- a form: a text, six numbers and two truth values -/
def isI : AV → Bool
  | .int .i64 _ | .sym .i64 _ => true
  | _ => false
def form9 : AV → Bool
  | .agg [.str _, .bool _, d, a, b, c, n, m, .bool _] => isI d && isI a && isI b && isI c && isI n && isI m
  | _ => false
def FormV (u : Value) : Prop := ∃ (s : ByteArray) (k : Bool) (d a b c n m : Int) (p : Bool), u = .agg #[.string s, .bool k, .int .i64 d, .int .i64 a, .int .i64 b, .int .i64 c, .int .i64 n, .int .i64 m, .bool p]
theorem isI_ok {ρ : Nat → Int} {x : AV} (h : isI x = true) : scal x = true ∧ ∃ z, scV ρ x = .int .i64 z := by
  unfold isI at h
  split at h
  · exact ⟨rfl, _, rfl⟩
  · exact ⟨rfl, _, rfl⟩
  · cases h
theorem form9_ok {ρ : Nat → Int} {f : AV} (h : form9 f = true) : flat f = true ∧ FormV (flatV ρ f) := by
  unfold form9 at h
  split at h
  · rename_i s k d a b c n m p
    simp only [Bool.and_eq_true] at h
    obtain ⟨⟨⟨⟨⟨h1, h2⟩, h3⟩, h4⟩, h5⟩, h6⟩ := h
    obtain ⟨a1, z1, b1⟩ := isI_ok (ρ := ρ) h1
    obtain ⟨a2, z2, b2⟩ := isI_ok (ρ := ρ) h2
    obtain ⟨a3, z3, b3⟩ := isI_ok (ρ := ρ) h3
    obtain ⟨a4, z4, b4⟩ := isI_ok (ρ := ρ) h4
    obtain ⟨a5, z5, b5⟩ := isI_ok (ρ := ρ) h5
    obtain ⟨a6, z6, b6⟩ := isI_ok (ρ := ρ) h6
    refine ⟨?_, s, k, z1, z2, z3, z4, z5, z6, p, ?_⟩
    · simp only [flat, List.all_cons, List.all_nil, a1, a2, a3, a4, a5, a6, Bool.and_true]
      rfl
    · simp only [flatV, List.map_cons, List.map_nil, b1, b2, b3, b4, b5, b6]
      rfl
  · cases h
/-- the code: its error and the form -/
noncomputable def codeRun (F : List Fact) (m x : AV) : Option Int :=
  (evCall (E1 F) extI 60 44 [x] A0).bind fun p => match p.1 with
  | .tup [f, .bool b] => match form9 f, b with
    | true, false => some 4
    | true, true => (evCall (E1 F) extI 60 45 [f, x] A0).bind fun q => match q.1 with
      | .bool true => some 3
      | .bool false => (evCall (E1 F) extI 60 46 [m, x, f] A0).bind fun r => match r.1 with
        | .bool true => some 0
        | .bool false => some 9
        | _ => none
      | _ => none
    | _, _ => none
  | _ => none
noncomputable def refRun (F : List Fact) (m x : AV) : Option Int :=
  (evCall (E1 F) extI 60 78 [m, x] A0).bind fun p => match p.1 with
  | .int .i64 e => some e
  | _ => none
def v (i : Nat) : AV := .sym .i64 (.var i)
def mAV : AV := .agg [v 0, v 1, v 2, v 3, v 4]
/-- what the three functions of the code say of an instruction, as one error -/
def CodeOK (m x : Value) (e : Int) : Prop := ∃ fv b1, FormV fv ∧ Says 44 [x] (.tuple #[fv, .bool b1]) ∧ (b1 = false ∧ e = 4 ∨ b1 = true ∧ ∃ b2, Says 45 [fv, x] (.bool b2) ∧ (b2 = true ∧ e = 3 ∨ b2 = false ∧ ∃ b3, Says 46 [m, x, fv] (.bool b3) ∧ (b3 = true ∧ e = 0 ∨ b3 = false ∧ e = 9)))
theorem codeRun_ok {ρ : Nat → Int} {F : List Fact} (hF : ∀ f ∈ F, f.holds ρ) {m x : AV} {e : Int} (hm : flat m = true) (hx : flat x = true) (h : codeRun F m x = some e) : CodeOK (flatV ρ m) (flatV ρ x) e := by
  letI := valR ρ
  have vr : ∀ a, flat a = true → VR μ0 a (flatV ρ a) := fun a ha => (flat_ok (ρ := ρ) (μ := μ0) ha).2 rfl
  have vb : ∀ (b : Bool) μ u, VR μ (.bool b) u → u = .bool b := fun b μ u hu => by simpa only [VR] using hu
  simp only [codeRun, Option.bind_eq_some_iff] at h
  obtain ⟨⟨v1, A1⟩, h1, h2⟩ := h
  split at h2
  · rename_i f b hv
    simp only at hv
    subst hv
    by_cases hf9 : form9 f = true
    · have hf := (form9_ok (ρ := ρ) hf9).1
      have g1 := says_of hF h1 (us := [flatV ρ x]) (VRs.cons (vr x hx) VRs.nil) (val := .tuple #[flatV ρ f, .bool b]) (fun μ u hu => by
        simp only [VR] at hu
        obtain ⟨xs, hxs, rfl⟩ := hu
        simp only [VRs] at hxs
        obtain ⟨u1, us1, rfl, hu1, u2, us2, rfl, hu2, rfl⟩ := hxs
        rw [(flat_ok (ρ := ρ) hf).1 hu1, vb b _ _ hu2])
      refine ⟨flatV ρ f, b, (form9_ok hf9).2, g1, ?_⟩
      rw [hf9] at h2
      cases b
      · simp only [Option.some.injEq] at h2; exact .inl ⟨rfl, h2.symm⟩
      · simp only [Option.bind_eq_some_iff] at h2
        obtain ⟨⟨v2, A2⟩, h3, h4⟩ := h2
        refine .inr ⟨rfl, ?_⟩
        split at h4
        · rename_i hv; simp only at hv; subst hv
          cases h4
          exact ⟨true, says_of hF h3 (us := [flatV ρ f, flatV ρ x]) (VRs.cons (vr f hf) (VRs.cons (vr x hx) VRs.nil)) (vb true), .inl ⟨rfl, rfl⟩⟩
        · rename_i hv; simp only at hv; subst hv
          simp only [Option.bind_eq_some_iff] at h4
          obtain ⟨⟨v3, A3⟩, h5, h6⟩ := h4
          refine ⟨false, says_of hF h3 (us := [flatV ρ f, flatV ρ x]) (VRs.cons (vr f hf) (VRs.cons (vr x hx) VRs.nil)) (vb false), .inr ⟨rfl, ?_⟩⟩
          split at h6
          · rename_i hv; simp only at hv; subst hv
            cases h6
            exact ⟨true, says_of hF h5 (us := [flatV ρ m, flatV ρ x, flatV ρ f]) (VRs.cons (vr m hm) (VRs.cons (vr x hx) (VRs.cons (vr f hf) VRs.nil))) (vb true), .inl ⟨rfl, rfl⟩⟩
          · rename_i hv; simp only at hv; subst hv
            cases h6
            exact ⟨false, says_of hF h5 (us := [flatV ρ m, flatV ρ x, flatV ρ f]) (VRs.cons (vr m hm) (VRs.cons (vr x hx) (VRs.cons (vr f hf) VRs.nil))) (vb false), .inr ⟨rfl, rfl⟩⟩
          · cases h6
        · cases h4
    · simp only [Bool.not_eq_true] at hf9
      rw [hf9] at h2
      cases b <;> cases h2
  · cases h2
theorem refRun_ok {ρ : Nat → Int} {F : List Fact} (hF : ∀ f ∈ F, f.holds ρ) {m x : AV} {e : Int} (hm : flat m = true) (hx : flat x = true) (h : refRun F m x = some e) : Says 78 [flatV ρ m, flatV ρ x] (.int .i64 e) := by
  letI := valR ρ
  have vr : ∀ a, flat a = true → VR μ0 a (flatV ρ a) := fun a ha => (flat_ok (ρ := ρ) (μ := μ0) ha).2 rfl
  simp only [refRun, Option.bind_eq_some_iff] at h
  obtain ⟨⟨v1, A1⟩, h1, h2⟩ := h
  split at h2
  · rename_i e' hv
    simp only at hv
    subst hv
    cases h2
    exact says_of hF h1 (us := [flatV ρ m, flatV ρ x]) (VRs.cons (vr m hm) (VRs.cons (vr x hx) VRs.nil)) (fun μ u hu => by simpa only [VR] using hu)
  · cases h2
noncomputable def leafC (x : AV) (s : Spec) (F : List Fact) : Bool := eqI (codeRun F mAV x) (s.run F)
noncomputable def leafR (x : AV) (s : Spec) (F : List Fact) : Bool := eqI (refRun F mAV x) (s.run F)
/-- code and document agree -/
def InstrOK (m x : Value) : Prop := ∃ e, CodeOK m x e ∧ Says 78 [m, x] (.int .i64 e)
theorem eqI_some {a b : Option Int} (h : eqI a b = true) : ∃ e, a = some e ∧ b = some e := by
  unfold eqI at h
  split at h
  · simp only [decide_eq_true_eq] at h; subst h; exact ⟨_, rfl, rfl⟩
  · cases h
theorem cls {ρ : Nat → Int} {F : List Fact} (hF : ∀ f ∈ F, f.holds ρ) {x : AV} (hx : flat x = true) {s : Spec} {ac ar : List Fact} (hc : chain (leafC x s) ac F = true) (hr : chain (leafR x s) ar F = true) : InstrOK (flatV ρ mAV) (flatV ρ x) := by
  obtain ⟨F1, h1, g1⟩ := chain_ok _ _ hc hF
  obtain ⟨F2, h2, g2⟩ := chain_ok _ _ hr hF
  obtain ⟨e1, a1, b1⟩ := eqI_some h1
  obtain ⟨e2, a2, b2⟩ := eqI_some h2
  have c1 := codeRun_ok g1 (by rfl) hx a1
  have c2 := refRun_ok g2 (by rfl) hx a2
  have d1 := Spec.run_ok g1 b1
  have d2 := Spec.run_ok g2 b2
  exact ⟨s.ev ρ, by rw [d1]; exact c1, by rw [d2]; exact c2⟩
/-- no such kind -/
noncomputable def leafK (x : AV) (F : List Fact) : Bool := eqI (codeRun F mAV x) (some 4) && eqI (refRun F mAV x) (some 4)
theorem clsK {ρ : Nat → Int} {F : List Fact} (hF : ∀ f ∈ F, f.holds ρ) {x : AV} (hx : flat x = true) (hc : leafK x F = true) : InstrOK (flatV ρ mAV) (flatV ρ x) := by
  simp only [leafK, Bool.and_eq_true] at hc
  obtain ⟨e1, a1, b1⟩ := eqI_some hc.1
  obtain ⟨e2, a2, b2⟩ := eqI_some hc.2
  cases b1
  cases b2
  exact ⟨4, codeRun_ok hF (by rfl) hx a1, refRun_ok hF (by rfl) hx a2⟩
/-- shorthands -/
def eq0 (i : Nat) : Fact := .eq (.var i) (.lit 0) true
def lo (n : Int) (i : Nat) : Fact := .le (.lit n) (.var i) true
def hi (i : Nat) (n : Int) : Fact := .le (.var i) (.lit n) true
def hiv (i j : Nat) : Fact := .le (.var i) (.var j) true
def hip (i j : Nat) : Fact := .le (.var i) (.bin .sub .i64 (.var j) (.lit 1)) true
def xAV (a b : AV) : AV := .agg [a, b, v 7, v 8, v 9, v 10, v 11, v 12, v 13]
/-- a list of facts '≤', as pairs -/
def pairs : List Fact → List (Sy × Sy)
  | [] => []
  | .le a b _ :: l => (a, b) :: pairs l
  | _ :: l => pairs l
end Go.Proofs.Yteabbkagekdehaa
