/- The abstract evaluator, part 9: a region in the text's order is right. -/
import Derived.Test.YteabbkagekdehaaAe8
set_option linter.unusedVariables false
set_option linter.unusedSectionVars false
set_option linter.unusedSimpArgs false
namespace Go.AE
variable [Val]
def Fresh (μ : Mu) (lo hi : Nat) : Prop := ∀ b g, lo ≤ b → b < hi → μ b g = none
/-- what is known of calls -/
structure CallOK (P : Program) (E : Env) (call : ACall) : Prop where
  fn : ∀ f args A v A', call f args A = some (v, A') → (E.fn f).isSome = true
  n : ∀ f args A v A', call f args A = some (v, A') → A.n ≤ A'.n
  ok : ∀ f args A v A', call f args A = some (v, A') → ∀ μ w us, Rel A μ w → Val.J μ w → VRs μ args us → Fresh μ A.n A'.n →
    Calls P f us.toArray w fun e w' => ∃ u μ', e = .returned u ∧ VR μ' v u ∧ Rel A' μ' w' ∧ Ext A A' μ μ' w w'

section
variable {A : AHeap}
theorem aWrite_n {b g off : Nat} {vs : List AV} {A' : AHeap} (h : aWrite A b g off vs = some A') : A'.n = A.n := by
  simp only [aWrite, Option.bind_eq_some_iff] at h
  obtain ⟨⟨wr, gen, cells⟩, _, h⟩ := h
  cases hc : (wr && Nat.beq g gen && vs.all AV.one) with
  | false => simp [hc] at h
  | true =>
    simp only [hc, cond_true, Option.bind_eq_some_iff, Option.some.injEq] at h
    obtain ⟨cs, _, rfl⟩ := h
    rfl
theorem aAppendTo_n {by_ es m : Nat} {s v : AV} {news : List AV} {A' : AHeap} (h : aAppendTo A by_ es s m news = some (v, A')) : A.n ≤ A'.n := by
  unfold aAppendTo at h
  split at h
  · cases hm : Nat.beq m 0 <;> simp only [hm, cond_true, cond_false, Option.some.injEq, Prod.mk.injEq] at h
    · obtain ⟨_, rfl⟩ := h; simp
    · obtain ⟨_, rfl⟩ := h; exact Nat.le_refl _
  · rename_i b g off len lo ex es'
    cases h1 : Nat.beq es es' with
    | false => simp [h1] at h
    | true =>
      simp only [h1, cond_true] at h
      cases h2 : Nat.ble (len + m) lo with
      | true =>
        simp only [h2, cond_true, Option.bind_eq_some_iff, Option.some.injEq, Prod.mk.injEq] at h
        obtain ⟨A1, h3, _, rfl⟩ := h
        cases hm : Nat.beq m 0 <;> simp only [hm, cond_true, cond_false, Option.some.injEq] at h3
        · rw [aWrite_n h3]; exact Nat.le_refl _
        · subst h3; exact Nat.le_refl _
      | false =>
        simp only [h2, cond_false] at h
        cases hx : ex with
        | true =>
          simp only [hx, cond_true, Option.bind_eq_some_iff, Option.some.injEq, Prod.mk.injEq] at h
          obtain ⟨_, _, _, rfl⟩ := h
          simp
        | false =>
          simp only [hx, cond_false, Option.bind_eq_some_iff] at h
          obtain ⟨⟨wr, gen, cells⟩, _, h⟩ := h
          cases hc : (wr && Nat.beq off 0) with
          | false => simp [hc] at h
          | true =>
            simp only [hc, cond_true, Option.bind_eq_some_iff, Option.some.injEq, Prod.mk.injEq] at h
            obtain ⟨_, _, _, rfl⟩ := h
            simp
  · cases h
theorem aEff_n {E : Env} {ts : Ts} {op : Op} {v : AV} {A' : AHeap} (h : aEff E ts A op = some (.val v A')) : A.n ≤ A'.n := by
  cases op <;> simp only [aEff] at h <;> try (cases h; done)
  case store t x y =>
    simp only [Option.bind_eq_some_iff, outH, Option.some.injEq, AOut.val.injEq] at h
    obtain ⟨p, h1, q, h2, A1, h3, _, rfl⟩ := h
    unfold aStore at h3
    split at h3
    · simp only [Option.bind_eq_some_iff] at h3
      obtain ⟨a, _, h3⟩ := h3
      cases hc : Nat.beq q.cells.length a.size with
      | false => simp [hc] at h3
      | true => simp only [hc, cond_true] at h3; rw [aWrite_n h3]; exact Nat.le_refl _
    · cases h3
  case mapUpdate t m k x =>
    simp only [Option.bind_eq_some_iff, outH, Option.some.injEq, AOut.val.injEq] at h
    obtain ⟨p, h1, q, h2, r, h3, A1, h4, _, rfl⟩ := h
    simp only [aMapUpdate, Option.bind_eq_some_iff] at h4
    obtain ⟨a, _, h4⟩ := h4
    split at h4
    · rename_i kt _ b _
      cases hk : aKeyOK E kt q with
      | false => simp [hk] at h4
      | true =>
        simp only [hk, cond_true, Option.bind_eq_some_iff] at h4
        obtain ⟨⟨es, cl⟩, _, r', _, h4⟩ := h4
        cases r' <;> simp only [Option.some.injEq] at h4 <;> (subst h4; simp)
    · cases h4
  case insert t m k x =>
    simp only [Option.bind_eq_some_iff, outH, Option.some.injEq, AOut.val.injEq] at h
    obtain ⟨p, h1, q, h2, r, h3, A1, h4, _, rfl⟩ := h
    simp only [aMapUpdate, Option.bind_eq_some_iff] at h4
    obtain ⟨a, _, h4⟩ := h4
    split at h4
    · rename_i kt _ b _
      cases hk : aKeyOK E kt q with
      | false => simp [hk] at h4
      | true =>
        simp only [hk, cond_true, Option.bind_eq_some_iff] at h4
        obtain ⟨⟨es, cl⟩, _, r', _, h4⟩ := h4
        cases r' <;> simp only [Option.some.injEq] at h4 <;> (subst h4; simp)
    · cases h4
  case mapEntry t m k =>
    simp only [Option.bind_eq_some_iff, outVH, Option.some.injEq, AOut.val.injEq] at h
    obtain ⟨p, h1, q, h2, ⟨v1, A1⟩, h4, _, rfl⟩ := h
    simp only [aMapEntry, Option.bind_eq_some_iff] at h4
    obtain ⟨a, _, h4⟩ := h4
    split at h4
    · rename_i kt et b _
      cases hk : aKeyOK E kt q with
      | false => simp [hk] at h4
      | true =>
        simp only [hk, cond_true, Option.bind_eq_some_iff] at h4
        obtain ⟨⟨es, cl⟩, _, r', _, h4⟩ := h4
        cases r' with
        | none =>
          simp only [Option.bind_eq_some_iff, Option.some.injEq, Prod.mk.injEq] at h4
          obtain ⟨_, _, _, _, _, rfl⟩ := h4
          simp
        | some r' => simp only [Option.some.injEq, Prod.mk.injEq] at h4; obtain ⟨_, rfl⟩ := h4; simp
    · cases h4
  case convert s d x =>
    simp only [Option.bind_eq_some_iff, outVH, Option.some.injEq, AOut.val.injEq] at h
    obtain ⟨p, h1, ⟨v1, A1⟩, h3, _, rfl⟩ := h
    unfold aMark at h3
    split at h3
    · cases hsd : Nat.beq s d with
      | false => simp [hsd] at h3
      | true =>
        simp only [hsd, cond_true, Option.bind_eq_some_iff] at h3
        obtain ⟨a, _, h3⟩ := h3
        split at h3
        · simp only [Option.bind_eq_some_iff] at h3
          obtain ⟨ae, _, h3⟩ := h3
          split at h3
          · simp only [Option.bind_eq_some_iff] at h3
            obtain ⟨⟨wr, gen, cells⟩, _, h3⟩ := h3
            cases wr with
            | false => simp at h3
            | true => simp only [cond_true, Option.some.injEq, Prod.mk.injEq] at h3; obtain ⟨_, rfl⟩ := h3; simp
          · cases h3
        · cases h3
    · simp only [Option.bind_eq_some_iff, Option.some.injEq, Prod.mk.injEq] at h3
      obtain ⟨_, _, _, rfl⟩ := h3
      exact Nat.le_refl _
  case call c =>
    obtain ⟨callee, args, argTypes⟩ := c
    cases callee <;> simp only at h <;> try (cases h; done)
    case value f =>
      simp only [Option.bind_eq_some_iff] at h
      obtain ⟨f', h1, vs, h2, h3⟩ := h
      unfold aEnter at h3
      split at h3 <;> cases h3
    case builtin b =>
      simp only [Option.bind_eq_some_iff] at h
      obtain ⟨vs, h1, h2⟩ := h
      unfold aEffBuiltin at h2
      split at h2
      · rename_i t xt s x
        simp only [Option.bind_eq_some_iff, outVH, Option.some.injEq, AOut.val.injEq] at h2
        obtain ⟨⟨v1, A1⟩, h3, _, rfl⟩ := h2
        simp only [aAppend, Option.bind_eq_some_iff] at h3
        obtain ⟨a, _, h3⟩ := h3
        split at h3
        · simp only [Option.bind_eq_some_iff] at h3
          obtain ⟨e, _, ax, _, z, _, h3⟩ := h3
          cases hc : (Nat.blt 0 e.size && Nat.beq z.length e.size && z.all AV.one) with
          | false => simp [hc] at h3
          | true =>
            simp only [hc, cond_true, Option.bind_eq_some_iff] at h3
            obtain ⟨⟨m, news⟩, _, len, _, h3⟩ := h3
            cases hd : (Nat.ble ((len + m) * e.bytes) 140737488355328 && Nat.ble (len + m) 9223372036854775807 && news.all AV.one) with
            | false => simp [hd] at h3
            | true => simp only [hd, cond_true] at h3; exact aAppendTo_n h3
        · cases h3
      · rename_i t tl d x
        simp only [Option.bind_eq_some_iff, outVH, Option.some.injEq, AOut.val.injEq] at h2
        obtain ⟨⟨v1, A1⟩, h3, _, rfl⟩ := h2
        simp only [aCopy, Option.bind_eq_some_iff] at h3
        obtain ⟨a, _, h3⟩ := h3
        split at h3
        · simp only [Option.bind_eq_some_iff] at h3
          obtain ⟨e, _, h3⟩ := h3
          split at h3
          · simp only [Option.bind_eq_some_iff, Option.some.injEq, Prod.mk.injEq] at h3
            obtain ⟨_, _, _, rfl⟩ := h3
            exact Nat.le_refl _
          · rename_i b g off len lo ex es
            cases hc : Nat.beq es e.size with
            | false => simp [hc] at h3
            | true =>
              simp only [hc, cond_true, Option.bind_eq_some_iff] at h3
              obtain ⟨⟨m, vs'⟩, _, h3⟩ := h3
              cases h0 : Nat.beq (min m len) 0 with
              | true => simp only [h0, cond_true, Option.some.injEq, Prod.mk.injEq] at h3; obtain ⟨_, rfl⟩ := h3; exact Nat.le_refl _
              | false =>
                simp only [h0, cond_false, Option.bind_eq_some_iff, Option.some.injEq, Prod.mk.injEq] at h3
                obtain ⟨A2, h4, _, rfl⟩ := h3
                rw [aWrite_n h4]; exact Nat.le_refl _
          · cases h3
        · cases h3
      · rename_i t tl x
        simp only [Option.bind_eq_some_iff, outH, Option.some.injEq, AOut.val.injEq] at h2
        obtain ⟨A1, h3, _, rfl⟩ := h2
        unfold aClear at h3
        split at h3
        · simp only [Option.bind_eq_some_iff, Option.some.injEq] at h3
          obtain ⟨_, _, rfl⟩ := h3; exact Nat.le_refl _
        · rename_i b g off len lo ex es
          cases hc : Nat.beq len 0 with
          | true => simp only [hc, cond_true, Option.bind_eq_some_iff, Option.some.injEq] at h3; obtain ⟨_, _, rfl⟩ := h3; exact Nat.le_refl _
          | false =>
            simp only [hc, cond_false, Option.bind_eq_some_iff] at h3
            obtain ⟨a, _, h3⟩ := h3
            split at h3
            · simp only [Option.bind_eq_some_iff] at h3
              obtain ⟨e, _, z, _, h3⟩ := h3
              cases hd : (Nat.beq e.size es && Nat.beq z.length es && z.all AV.one) with
              | false => simp [hd] at h3
              | true => simp only [hd, cond_true] at h3; rw [aWrite_n h3]; exact Nat.le_refl _
            · cases h3
        · cases h3
      · rename_i t tl m k _
        simp only [Option.bind_eq_some_iff, outH, Option.some.injEq, AOut.val.injEq] at h2
        obtain ⟨A1, h3, _, rfl⟩ := h2
        simp only [aDelete, Option.bind_eq_some_iff] at h3
        obtain ⟨a, _, h3⟩ := h3
        split at h3
        · rename_i kt _ _
          cases hk : aKeyOK E kt k with
          | false => simp [hk] at h3
          | true =>
            simp only [hk, cond_true] at h3
            split at h3
            · cases h3; exact Nat.le_refl _
            · simp only [Option.bind_eq_some_iff] at h3
              obtain ⟨⟨es, cl⟩, _, r', _, h3⟩ := h3
              cases r' <;> simp only [Option.some.injEq] at h3 <;> (subst h3; simp)
            · cases h3
        · cases h3
      · cases h2
end

section
variable {P : Program} {E : Env} (hE : EnvOK P E) {call : ACall} (hC : CallOK P E call)
theorem Fresh.sub {μ : Mu} {lo hi lo' hi' : Nat} (h : Fresh μ lo hi) (h1 : lo ≤ lo') (h2 : hi' ≤ hi) : Fresh μ lo' hi' := fun b g a c => h b g (by omega) (by omega)
include hC in
theorem stepOp_n {ts : Ts} {A : AHeap} {op : Op} {v : AV} {A' : AHeap} (h : stepOp E call ts A op = some (v, A')) : A.n ≤ A'.n := by
  unfold stepOp at h
  split at h
  · simp only [stepPass, Option.bind_eq_some_iff, Option.some.injEq, Prod.mk.injEq] at h
    obtain ⟨_, _, _, rfl⟩ := h; exact Nat.le_refl _
  · simp only [stepNew, Option.bind_eq_some_iff, Option.some.injEq, Prod.mk.injEq] at h
    obtain ⟨_, _, _, rfl⟩ := h; simp
  · simp only [stepEff, Option.bind_eq_some_iff] at h
    obtain ⟨out, h1, h2⟩ := h
    cases out with
    | val v1 A1 => simp only [Option.some.injEq, Prod.mk.injEq] at h2; obtain ⟨_, rfl⟩ := h2; exact aEff_n h1
    | enter f args => exact hC.n _ _ _ _ _ h2
include hE hC in
/-- one operation: whatever stands behind it, if it holds of all that the operation may leave -/
theorem stepOp_sound {A : AHeap} {μ : Mu} {w : World} (R : Rel A μ w) (hJ : Val.J μ w) {ts : Ts} {a : Act} (T : TR μ ts a.tmps) {o : Oper} {v : AV} {A' : AHeap} (h : stepOp E call ts A o.op = some (v, A')) (hfr : Fresh μ A.n A'.n)
    {K : Act → World → Prop} {Q : Exit → Act → World → Prop} (hK : ∀ u w' μ', VR μ' v u → Rel A' μ' w' → Ext A A' μ μ' w w' → K (a.put o.dst u) w') : o.wp P a w K Q := by
  unfold Oper.wp
  unfold stepOp at h
  split at h
  · rename_i hk
    simp only [stepPass, Option.bind_eq_some_iff, Option.some.injEq, Prod.mk.injEq] at h
    obtain ⟨v', h1, rfl, rfl⟩ := h
    obtain ⟨u, e1, e2⟩ := pass_sound hE R h1 T hk
    rw [e1]
    exact hK u w μ e2 R (Ext.refl _ _ _)
  · simp only [stepNew, Option.bind_eq_some_iff, Option.some.injEq, Prod.mk.injEq] at h
    obtain ⟨⟨B, mk⟩, h1, rfl, rfl⟩ := h
    obtain ⟨ob, u, e1, e2, e3⟩ := new_sound hE (w := w) h1 T
    have hn : ∀ g, μ A.n g = none := fun g => hfr _ g (Nat.le_refl _) (by simp)
    rw [e1]
    exact hK u _ _ (e3 _ A.n (upd_same _ _ _ _)) (Rel.push R hn e2) (Ext.push hn)
  · simp only [stepEff, Option.bind_eq_some_iff] at h
    obtain ⟨out, h1, h2⟩ := h
    cases out with
    | val v1 A1 =>
      simp only [Option.some.injEq, Prod.mk.injEq] at h2
      obtain ⟨rfl, rfl⟩ := h2
      obtain ⟨nx, w', μ', e1, e2, e3, e4⟩ := eff_sound hE R h1 T hfr
      rw [e1]
      rcases e2 with ⟨u, rfl, hu⟩ | ⟨rfl, rfl⟩
      · exact hK u w' μ' hu e3 e4
      · exact hK undef w' μ' (by simp only [AV.undef, VR, VRs]; exact ⟨[], rfl, rfl⟩) e3 e4
    | enter f args =>
      obtain ⟨F, hF⟩ := Option.isSome_iff_exists.1 (hC.fn _ _ _ _ _ h2)
      obtain ⟨us, e1, e2⟩ := enter_sound hE (w := w) h1 T hF
      rw [e1]
      refine (hC.ok _ _ _ _ _ h2 μ w us R hJ e2 hfr).mono ?_
      rintro e w' ⟨u, μ', rfl, hu, hR, hX⟩
      exact hK u w' μ' hu hR hX
theorem VR_undef (μ : Mu) : VR μ .undef undef := by simp only [AV.undef, VR, VRs]; exact ⟨[], rfl, rfl⟩
theorem TR.put {μ : Mu} {ts : Ts} {a : Act} (T : TR μ ts a.tmps) {v : AV} {u : Value} (h : VR μ v u) (d : Option Tmp) : TR μ (putA ts d v) (a.put d u).tmps := by
  cases d with
  | none => exact T
  | some d =>
    obtain ⟨T1, T2⟩ := T
    refine ⟨by simp [putA, Act.put, T1], fun t v' ht => ?_⟩
    simp only [putA, Act.put, Ts.get_set, Array.getElem?_setIfInBounds] at ht ⊢
    by_cases hd : d = t
    · subst hd
      simp only [if_true] at ht ⊢
      by_cases hl : d < ts.n
      · simp only [hl, if_true, Option.some.injEq] at ht
        subst ht
        exact ⟨u, by simp [T1, hl], h⟩
      · simp [hl] at ht
    · rw [if_neg hd] at ht ⊢
      exact T2 t v' ht
theorem TR.mono {μ μ' : Mu} (h : MuLe μ μ') {ts : Ts} {tmps : Array Value} (T : TR μ ts tmps) : TR μ' ts tmps := ⟨T.1, fun t v ht => let ⟨u, a, b⟩ := T.2 t v ht; ⟨u, a, VR.mono h _ _ b⟩⟩
theorem TR.size {μ : Mu} {ts : Ts} {tmps : Array Value} (T : TR μ ts tmps) : tmps.size = ts.n := T.1
theorem wantA_eq {μ : Mu} {ts : Ts} {a : Act} (T : TR μ ts a.tmps) (ops : Array Oper) (o : Oper) : Region.wanted o (yielded ops a.tmps) = wantA ops ts o := by
  unfold Region.wanted wantA
  cases hg : o.guard with
  | none => rfl
  | some gw =>
    obtain ⟨j, want⟩ := gw
    simp only [yielded, guardTmp]
    cases ht : (ops[j]?).bind (·.dst) with
    | none => rfl
    | some t =>
      simp only [Option.bind_some]
      cases hv : ts.get t with
      | none =>
        have : a.tmps[t]? = none := by rw [Array.getElem?_eq_none_iff, T.size]; exact Ts.get_none hv
        rw [this]; rfl
      | some v =>
        obtain ⟨u, h1, h2⟩ := T.2 t v hv
        rw [h1]
        cases v <;> simp only [VR] at h2
        case bool b => subst h2; cases b <;> cases want <;> rfl
        all_goals first
          | (subst h2; rfl)
          | (obtain ⟨c, sz, _, rfl⟩ := h2; rfl)
          | (obtain ⟨c, sz, _, _, rfl⟩ := h2; rfl)
          | (obtain ⟨_, _, _, _, rfl⟩ := h2; rfl)
          | (obtain ⟨c, sz, cap, off', _, rfl, _⟩ := h2; rfl)
          | (obtain ⟨fs, cs, _, _, rfl⟩ := h2; rfl)
          | (obtain ⟨x, _, rfl⟩ := h2; rfl)
include hC in
theorem runOps_n {ops : Array Oper} : ∀ {l : List Oper} {ts : Ts} {A : AHeap} {ts' : Ts} {A' : AHeap}, runOps E call ops l ts A = some (ts', A') → A.n ≤ A'.n
  | [], ts, A, ts', A', h => by simp only [runOps, Option.some.injEq, Prod.mk.injEq] at h; obtain ⟨_, rfl⟩ := h; exact Nat.le_refl _
  | o :: l, ts, A, ts', A', h => by
    simp only [runOps] at h
    split at h
    · simp only [Option.bind_eq_some_iff] at h
      obtain ⟨⟨v, A1⟩, h1, h2⟩ := h
      exact Nat.le_trans (stepOp_n hC h1) (runOps_n h2)
    · exact runOps_n h
include hE hC in
theorem runOps_sound {ops : Array Oper} {Q : Exit → Act → World → Prop} : ∀ {l : List Oper} {k : Nat} {ts : Ts} {A : AHeap} {ts' : Ts} {A' : AHeap}, runOps E call ops l ts A = some (ts', A') → (∀ j, l[j]? = ops[k + j]?) →
    ∀ {μ : Mu} {w : World} {a : Act}, Rel A μ w → Val.J μ w → TR μ ts a.tmps → Fresh μ A.n A'.n →
    (∀ a' w' μ', TR μ' ts' a'.tmps → Rel A' μ' w' → Ext A A' μ μ' w w' → a'.defers = a.defers → Q .normal a' w') → wpOps P ops Q (List.range' k l.length) a w
  | [], k, ts, A, ts', A', h, hl, μ, w, a, R, hJ, T, hfr, hQ => by
    simp only [runOps, Option.some.injEq, Prod.mk.injEq] at h
    obtain ⟨rfl, rfl⟩ := h
    exact hQ a w μ T R (Ext.refl _ _ _) rfl
  | o :: l, k, ts, A, ts', A', h, hl, μ, w, a, R, hJ, T, hfr, hQ => by
    have h0 : ops[k]? = some o := by simpa using (hl 0).symm
    have hl' : ∀ j, l[j]? = ops[k + 1 + j]? := fun j => by have := hl (j + 1); simpa [Nat.add_assoc, Nat.add_comm 1 j] using this
    simp only [runOps] at h
    simp only [List.length_cons, List.range'_succ, wpOps, h0]
    rw [wantA_eq T]
    split at h
    · rename_i hw
      rw [hw]
      simp only [if_true]
      simp only [Option.bind_eq_some_iff] at h
      obtain ⟨⟨v, A1⟩, h1, h2⟩ := h
      have n1 : A.n ≤ A1.n := stepOp_n hC h1
      have n2 : A1.n ≤ A'.n := runOps_n hC h2
      refine .inl (stepOp_sound hE hC R hJ T h1 (hfr.sub (Nat.le_refl _) n2) fun u w' μ' hu hR hX => ?_)
      refine runOps_sound h2 hl' hR (Val.keep hJ hX) ((T.mono hX.mono).put hu o.dst) (fun b g (b1 : A1.n ≤ b) b2 => ?_) fun a' w'' μ'' t1 t2 t3 t4 => hQ a' w'' μ'' t1 t2 (hX.trans t3) ?_
      · rw [hX.above b g b1]; exact hfr b g (by omega) b2
      · rw [t4]; cases o.dst <;> rfl
    · rename_i hw
      rw [hw]
      simp only [Bool.false_eq_true, if_false]
      refine runOps_sound h hl' R hJ (T.put (VR_undef μ) o.dst) hfr fun a' w' μ' t1 t2 t3 t4 => hQ a' w' μ' t1 t2 t3 ?_
      rw [t4]; cases o.dst <;> rfl
end
end Go.AE
