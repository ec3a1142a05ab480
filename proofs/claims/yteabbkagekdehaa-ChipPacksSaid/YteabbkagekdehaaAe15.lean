/- The abstract evaluator, part 15: the tables of a program. -/
import Derived.Test.YteabbkagekdehaaAe14
set_option linter.unusedVariables false
set_option linter.unusedSectionVars false
set_option linter.unusedSimpArgs false
namespace Go.AE
variable [Val]
def descAgg : TypeDesc → Bool
  | .struct _ | .array _ _ => true
  | _ => false
def zeroOf (ag : Bool) (z : Value) : Option (List AV) :=
  match ag with
  | true => match z with
    | .agg cs => ofVs cs.toList
    | _ => none
  | false => (ofV1 z).bind fun v => some [v]
def tyOf (P : Program) (t : TypeId) : Option ATy :=
  (P.underlying t).bind fun d => (P.info? t).bind fun i =>
    some ⟨d, i.size, i.bytes, i.zero.bind (zeroOf (descAgg d)), !P.stoodInHeld t && !P.eqGuardType P.depth t⟩
def fnOf (P : Program) (f : FuncId) : Option Func :=
  (P.funcs[f]?).bind fun F => bif decide (F.name ≠ "runtime.NumGoroutine") && F.body.isSome then some F else none
def envOf (P : Program) : Env := ⟨tyOf P, fnOf P, fun _ => none, fun _ _ => none, fun _ _ => none, fun _ => none⟩
theorem ofV1_cells {z : Value} {v : AV} (h : ofV1 z = some v) : z.cells = #[z] := by
  unfold ofV1 at h
  split at h <;> first | rfl | cases h
theorem envOf_ok (P : Program) : EnvOK P (envOf P) where
  ty t a h := by
    simp only [envOf, tyOf, Option.bind_eq_some_iff, Option.some.injEq] at h
    obtain ⟨d, h1, i, h2, rfl⟩ := h
    refine ⟨h1, i, h2, rfl, rfl, fun zs hz => ?_, fun hp => ?_⟩
    · simp only [Option.bind_eq_some_iff] at hz
      obtain ⟨z, h3, h4⟩ := hz
      have hag : ∀ s y zz pl, (ATy.mk d s y zz pl).isAgg = descAgg d := fun s y zz pl => by simp only [ATy.isAgg]; cases d <;> rfl
      refine ⟨z, h3, ?_⟩
      rw [hag]
      cases hd : descAgg d with
      | true =>
        rw [hd] at h4
        unfold zeroOf at h4
        simp only at h4
        split at h4
        · exact ⟨by simpa [Value.cells] using h4, fun _ => ⟨_, rfl⟩, (fun h => by cases h)⟩
        · cases h4
      | false =>
        rw [hd] at h4
        simp only [zeroOf, Option.bind_eq_some_iff, Option.some.injEq] at h4
        obtain ⟨v, h5, rfl⟩ := h4
        refine ⟨by rw [ofV1_cells h5]; simp [ofVs, h5], (fun h => by cases h), fun _ => ⟨v, rfl, h5⟩⟩
    · simpa using hp
  fn f F h := by
    simp only [envOf, fnOf, Option.bind_eq_some_iff] at h
    obtain ⟨F', h1, h2⟩ := h
    cases hc : (decide (F'.name ≠ "runtime.NumGoroutine") && F'.body.isSome) with
    | false => rw [hc] at h2; cases h2
    | true =>
      rw [hc] at h2
      simp only [cond_true, Option.some.injEq] at h2
      subst h2
      simp only [Bool.and_eq_true, decide_eq_true_eq] at hc
      exact ⟨h1, hc.1, hc.2⟩
  glob g b h := by cases h
  le a b r h := by cases h
  eq a b r h := by cases h
  val a n h := by cases h
end Go.AE
