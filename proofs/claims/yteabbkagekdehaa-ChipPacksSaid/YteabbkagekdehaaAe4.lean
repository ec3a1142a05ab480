/- The abstract evaluator, part 4: every operation that only reads is right. -/
import Derived.Test.YteabbkagekdehaaAe3
set_option linter.unusedVariables false
set_option linter.unusedSectionVars false
set_option linter.unusedSimpArgs false
namespace Go.AE
variable [Val]
section
variable {μ : Mu}
theorem VR.inv_nilIface {x : AV} (h : VR μ x .nilIface) : x = .nilIface := by cases x <;> simp [VR] at h ⊢
theorem VR.inv_agg {x : AV} {cs : Array Value} (h : VR μ x (.agg cs)) : ∃ xs, x = .agg xs ∧ VRs μ xs cs.toList := by
  cases x <;> simp [VR] at h ⊢
  obtain ⟨xs, h1, h2⟩ := h
  subst h2
  simpa using h1
theorem VR.inv_int {x : AV} {k : IntKind} {n : Int} (h : VR μ x (.int k n)) (hs : isSym x = false) : x = .int k n := by
  cases x <;> simp [VR, isSym] at h hs ⊢
  exact ⟨h.1.symm, h.2.symm⟩
theorem VR.inv_string {x : AV} {s : ByteArray} (h : VR μ x (.string s)) : x = .str s := by
  cases x <;> simp [VR] at h ⊢
  exact h.symm
theorem VR.inv_bool {x : AV} {s : Bool} (h : VR μ x (.bool s)) : x = .bool s := by
  cases x <;> simp [VR] at h ⊢
  exact h.symm
theorem VR.inv_float {x : AV} {k : FloatKind} {n : Nat} (h : VR μ x (.float k n)) : False := by cases x <;> simp [VR] at h
theorem VR.inv_complex {x : AV} {k : FloatKind} {n m : Nat} (h : VR μ x (.complex k n m)) : False := by cases x <;> simp [VR] at h
end
section
variable {P : Program} {E : Env} (hE : EnvOK P E) {A : AHeap} {μ : Mu} {w : World} (R : Rel A μ w)
theorem guard_plain {t : TypeId} {op : BinOp} {o1 o2 : Operand} {u1 u2 : Value} (h1 : ¬ (u1 = .nilIface ∧ u2 = .nilIface)) (h2 : ¬ ((∃ a, u1 = .agg a) ∧ ∃ a, u2 = .agg a)) : (eqGuard op t o1 o2 u1 u2).run P w = .ok () w := by
  cases op <;> try rfl
  all_goals
    cases u1 <;> cases u2 <;> first
      | rfl
      | exact absurd ⟨rfl, rfl⟩ h1
      | exact absurd ⟨⟨_, rfl⟩, _, rfl⟩ h2
theorem guard_noteq {t : TypeId} {op : BinOp} {o1 o2 : Operand} {u1 u2 : Value} (h1 : op ≠ .eql) (h2 : op ≠ .neq) : (eqGuard op t o1 o2 u1 u2).run P w = .ok () w := by
  unfold eqGuard
  cases op <;> first | rfl | exact absurd rfl h1 | exact absurd rfl h2
theorem binOp_eql_gen {t : TypeId} {u1 u2 : Value} (h1 : ¬ ((∃ k n, u1 = .int k n) ∧ ∃ k n, u2 = .int k n)) (h2 : ¬ ((∃ n, u1 = .string n) ∧ ∃ n, u2 = .string n)) (h3 : ∀ k n, u1 ≠ .float k n) (h4 : ∀ k n m, u1 ≠ .complex k n m) :
    binOp .eql t u1 u2 = (do pure (.bool (← Op.equal t u1 u2))) ∧ binOp .neq t u1 u2 = (do pure (.bool (!(← Op.equal t u1 u2)))) := by
  cases u1 <;> cases u2 <;> first
    | exact ⟨rfl, rfl⟩
    | exact absurd ⟨⟨_, _, rfl⟩, _, _, rfl⟩ h1
    | exact absurd ⟨⟨_, rfl⟩, _, rfl⟩ h2
    | exact absurd rfl (h3 _ _)
    | exact absurd rfl (h4 _ _ _)
include hE R in
theorem bin_sound {op : BinOp} {t : TypeId} {x y v : AV} (h : aBin E A op t x y = some v) {u1 u2 : Value} (h1 : VR μ x u1) (h2 : VR μ y u2) (o1 o2 : Operand) :
    ∃ u, (eqGuard op t o1 o2 u1 u2).run P w = .ok () w ∧ (binOp op t u1 u2).run P w = .ok u w ∧ VR μ v u := by
  have num : ∀ {op : BinOp} {k k' : IntKind} {a b : Int}, (eqGuard op t o1 o2 (.int k a) (.int k' b)).run P w = .ok () w :=
    fun {op k k' a b} => guard_plain (fun h => by cases h.1) (fun h => by obtain ⟨⟨_, h⟩, _⟩ := h; cases h)
  unfold aBin at h
  cases hss : (isSym x || isSym y) with
  | true =>
    rw [hss] at h
    simp only [cond_true, Option.bind_eq_some_iff] at h
    obtain ⟨⟨k, a⟩, e1, ⟨k', b⟩, e2, h⟩ := h
    split at h
    · rename_i hk
      simp only at hk
      subst hk
      have q1 := toSy_VR h1 e1
      have q2 := toSy_VR h2 e2
      subst q1; subst q2
      obtain ⟨u, e3, e4⟩ := symBin_sound (w := w) (P := P) hE h t μ
      exact ⟨u, num, e3, e4⟩
    · cases h
  | false =>
  rw [hss] at h
  simp only [cond_false] at h
  simp only [Bool.or_eq_false_iff] at hss
  obtain ⟨hsx, hsy⟩ := hss
  have key : ∀ {r : Bool}, aEq E A 20 t x y = some r → aGuard E t x y = true → ¬ ((∃ k a, x = .int k a) ∧ ∃ k b, y = .int k b) → ¬ ((∃ a, x = .str a) ∧ ∃ b, y = .str b) →
      (∀ op, (eqGuard op t o1 o2 u1 u2).run P w = .ok () w) ∧ (binOp .eql t u1 u2).run P w = .ok (.bool r) w ∧ (binOp .neq t u1 u2).run P w = .ok (.bool !r) w := by
    intro r hr hg hn1 hn2
    have e : (Op.equal t u1 u2).run P w = .ok r w := eq_sound hE R 20 t x y r hr u1 u2 h1 h2 10000 (by omega)
    obtain ⟨b1, b2⟩ := binOp_eql_gen (t := t) (u1 := u1) (u2 := u2)
      (fun ⟨⟨k, n, hu⟩, k', n', hu'⟩ => by subst hu; subst hu'; exact hn1 ⟨⟨k, n, h1.inv_int hsx⟩, k', n', h2.inv_int hsy⟩)
      (fun ⟨⟨n, hu⟩, n', hu'⟩ => by subst hu; subst hu'; exact hn2 ⟨⟨n, h1.inv_string⟩, n', h2.inv_string⟩)
      (fun k n hu => by subst hu; exact h1.inv_float) (fun k n m hu => by subst hu; exact h1.inv_complex)
    refine ⟨fun op => ?_, by rw [b1]; simp [e], by rw [b2]; simp [e]⟩
    by_cases ha : (∃ a, u1 = .agg a) ∧ ∃ a, u2 = .agg a
    · obtain ⟨⟨a1, rfl⟩, a2, rfl⟩ := ha
      obtain ⟨xs, rfl, _⟩ := h1.inv_agg
      obtain ⟨ys, rfl, _⟩ := h2.inv_agg
      simp only [aGuard] at hg
      split at hg
      · rename_i a ha
        obtain ⟨_, i, _, _, _, _, hpl⟩ := hE.ty t a ha
        exact run_eqGuard_agg w op t o1 o2 _ _ ((hpl hg).2)
      · cases hg
    · refine guard_plain (fun ⟨e1, e2⟩ => ?_) ha
      subst e1; subst e2
      rw [h1.inv_nilIface, h2.inv_nilIface] at hg
      cases hg
  split at h
  · rename_i r hs
    unfold aBinS at hs
    split at hs
    · rename_i k1 a1 k2 b1
      simp only [Option.some.injEq] at hs
      subst hs
      simp only [VR] at h1 h2
      subst h1; subst h2
      obtain ⟨u, e1, e2⟩ := shift_sound (w := w) (P := P) h k2 μ
      exact ⟨u, num, e1, e2⟩
    · rename_i k1 a1 k2 b1
      simp only [Option.some.injEq] at hs
      subst hs
      simp only [VR] at h1 h2
      subst h1; subst h2
      obtain ⟨u, e1, e2⟩ := shift_sound (w := w) (P := P) h k2 μ
      exact ⟨u, num, e1, e2⟩
    · simp only [Option.some.injEq] at hs
      subst hs
      split at h
      · rename_i hk
        subst hk
        simp only [VR] at h1 h2
        subst h1; subst h2
        obtain ⟨u, e1, e2⟩ := intBin_sound (w := w) (P := P) h t μ
        exact ⟨u, num, e1, e2⟩
      · cases h
    · simp only [Option.some.injEq] at hs
      subst hs
      simp only [VR] at h1 h2
      subst h1; subst h2
      obtain ⟨u, e1, e2⟩ := strBin_sound (w := w) (P := P) h t μ
      exact ⟨u, guard_plain (fun h => by cases h.1) (fun h => by obtain ⟨⟨_, h⟩, _⟩ := h; cases h), e1, e2⟩
    · cases hs
  · rename_i hs
    have hn1 : ¬ ((∃ k a, x = .int k a) ∧ ∃ k b, y = .int k b) := fun ⟨⟨k, a, e1⟩, k', b, e2⟩ => by
      subst e1; subst e2
      cases op <;> simp [aBinS] at hs
    have hn2 : ¬ ((∃ a, x = .str a) ∧ ∃ b, y = .str b) := fun ⟨⟨a, e1⟩, b, e2⟩ => by
      subst e1; subst e2
      cases op <;> simp [aBinS] at hs
    unfold aBinE at h
    split at h
    · cases hg : aGuard E t x y with
      | false => simp [hg] at h
      | true =>
        simp only [hg, cond_true, Option.bind_eq_some_iff, Option.some.injEq] at h
        obtain ⟨r, hr, rfl⟩ := h
        obtain ⟨k1, k2, k3⟩ := key hr hg hn1 hn2
        exact ⟨_, k1 _, k2, by simp only [VR]⟩
    · cases hg : aGuard E t x y with
      | false => simp [hg] at h
      | true =>
        simp only [hg, cond_true, Option.bind_eq_some_iff, Option.some.injEq] at h
        obtain ⟨r, hr, rfl⟩ := h
        obtain ⟨k1, k2, k3⟩ := key hr hg hn1 hn2
        exact ⟨_, k1 _, k3, by simp only [VR]⟩
    · cases h
theorem un_sound {op : UnOp} {x v : AV} (h : aUn op x = some v) {u : Value} (h1 : VR μ x u) : ∃ y, (Op.unary op u).run P w = .ok y w ∧ VR μ v y := by
  unfold aUn at h
  split at h
  · simp only [VR] at h1; subst h1
    simp only [aIntBin, Option.some.injEq] at h
    subst h
    simp only [VR, exists_eq_right]; rfl
  · simp only [VR] at h1; subst h1
    simp only [aIntBin, Option.some.injEq] at h
    subst h
    simp only [VR, exists_eq_right]; rfl
  · simp only [VR] at h1; subst h1; cases h; simp only [VR, exists_eq_right]; rfl
  · simp only [VR] at h1; subst h1
    simp only [Option.some.injEq] at h
    subst h
    simp only [VR, exists_eq_right, Sy.ev, binVal, aIntBin]; rfl
  · cases h
include hE in
theorem convert_sound {s d : TypeId} {x v : AV} (h : aConvert E s d x = some v) {u : Value} (h1 : VR μ x u) : ∃ y, (convert s d u).run P w = .ok y w ∧ VR μ v y := by
  simp only [aConvert, Option.bind_eq_some_iff] at h
  obtain ⟨as, has, ad, had, h⟩ := h
  have e1 := (hE.ty _ _ has).1
  have e2 := (hE.ty _ _ had).1
  split at h
  · rename_i hd1 hd2
    simp only [VR] at h1; subst h1; cases h
    simp only [VR, exists_eq_right]
    simp only [convert, Sem.run_bind, run_underlying e1, run_underlying e2, Result.andThen_ok, hd1, hd2]
    rfl
  · rename_i hd1 hd2
    simp only [VR] at h1; subst h1; cases h
    simp only [VR, exists_eq_right, Sy.ev]
    simp only [convert, Sem.run_bind, run_underlying e1, run_underlying e2, Result.andThen_ok, hd1, hd2]
    rfl
  · rename_i hd1 hd2
    simp only [VR] at h1; subst h1; cases h
    simp only [VR, exists_eq_right]
    simp only [convert, Sem.run_bind, run_underlying e1, run_underlying e2, Result.andThen_ok, hd1, hd2]
    rfl
  · cases h

/-! ### Slices -/
theorem bound_sound {x : Option AV} {y : Nat} {i d : Nat} (h : aSlBound x d y = some i) {u : Option Value} (hu : ∀ v, x = some v → ∃ z, u = some z ∧ VR μ v z) (hn : x = none → u = none) (code : BoundsCode) (y' : Nat) (hy : y ≤ y') :
    (∃ z, u = some z ∧ (Instr.sliceBound z y' code).run P w = .ok i w ∧ i ≤ y) ∨ (u = none ∧ i = d) := by
  cases x with
  | none => simp only [aSlBound, Option.some.injEq] at h; exact .inr ⟨hn rfl, h.symm⟩
  | some v =>
    obtain ⟨z, rfl, hz⟩ := hu v rfl
    cases v <;> simp only [aSlBound] at h <;> try (cases h; done)
    rename_i k n
    simp only [VR] at hz
    subst hz
    by_cases hb : 0 ≤ n ∧ n ≤ (y : Int)
    · simp only [hb.1, hb.2, decide_true, Bool.and_self, cond_true, Option.some.injEq] at h
      subst h
      have : n ≤ (y' : Int) := by omega
      exact .inl ⟨_, rfl, by simp [Instr.sliceBound, asIntOf, hb.1, this], by omega⟩
    · exfalso
      have : (decide (0 ≤ n) && decide (n ≤ (y : Int))) = false := by simp only [Bool.and_eq_false_iff, decide_eq_false_iff_not]; omega
      rw [this] at h
      cases h
def OptR (μ : Mu) (x : Option AV) (u : Option Value) : Prop := (∀ v, x = some v → ∃ z, u = some z ∧ VR μ v z) ∧ (x = none → u = none)
theorem OptR.of {E : Env} (hE : EnvOK P E) {ts : Ts} {a : Act} (T : TR μ ts a.tmps) {o : Option Operand} {x : Option AV} (h : evalM E ts o = some x) : OptR μ x (o.map a.eval) := by
  cases o with
  | none => simp only [evalM, Option.some.injEq] at h; subst h; exact ⟨by simp, by simp⟩
  | some y =>
    simp only [evalM, Option.bind_eq_some_iff] at h
    obtain ⟨v, h1, h2⟩ := h
    cases h2
    exact ⟨fun v' hv => by cases hv; exact ⟨_, rfl, evalO_VR hE T h1⟩, by simp⟩
def sbM (isSl : Bool) (cap : Nat) : Option Value → Sem Nat
  | some v => Instr.sliceBound v cap (if isSl then .slice3Acap else .slice3Alen)
  | none => pure cap
def sbH (isSl : Bool) (len m : Nat) : Option Value → Option Value → Sem Nat
  | some v, some _ => Instr.sliceBound v m .slice3B
  | some v, none => Instr.sliceBound v m (if isSl then .sliceAcap else .sliceAlen)
  | none, none => pure len
  | none, some _ => stuck "Slice: max without high"
def sbL (mx : Bool) (h : Nat) : Option Value → Sem Nat
  | some v => Instr.sliceBound v h (if mx then .slice3C else .sliceB)
  | none => pure 0
theorem sliceBounds_eq (isSl : Bool) (len cap : Nat) (lo hi mx : Option Value) : Instr.sliceBounds isSl len cap lo hi mx = (sbM isSl cap mx >>= fun m => sbH isSl len m hi mx >>= fun h => sbL mx.isSome h lo >>= fun l => pure (l, h, m)) := by
  cases lo <;> cases hi <;> cases mx <;> rfl
/-- the three bounds of a slice expression; the true capacity may be larger than what is known of it -/
theorem bounds_sound {lo hi mx : Option AV} {ulo uhi umx : Option Value} (hlo : OptR μ lo ulo) (hhi : OptR μ hi uhi) (hmx : OptR μ mx umx) {len cap cap' l h m : Nat} (hcap : cap ≤ cap')
    (e1 : aSlBound mx cap cap = some m) (e2 : aSlBound hi len m = some h) (e3 : aSlBound lo 0 h = some l) (hlen : len ≤ cap) (isSl : Bool) (hh : hi = none → mx = none) :
    ∃ m', (Instr.sliceBounds isSl len cap' ulo uhi umx).run P w = .ok (l, h, m') w ∧ m ≤ m' ∧ (mx.isSome = true → m' = m) ∧ (mx = none → m' = cap' ∧ m = cap) ∧ (l ≤ h) ∧ (h ≤ m) ∧ m' ≤ cap' := by
  have hm : ∃ m', (sbM isSl cap' umx).run P w = .ok m' w ∧ m ≤ m' ∧ (mx.isSome = true → m' = m) ∧ (mx = none → m' = cap' ∧ m = cap) ∧ m' ≤ cap' := by
    rcases bound_sound (P := P) (w := w) e1 hmx.1 hmx.2 (if isSl then .slice3Acap else .slice3Alen) cap' hcap with ⟨z, rfl, r, hle⟩ | ⟨rfl, rfl⟩
    · refine ⟨m, r, Nat.le_refl _, fun _ => rfl, fun hn => ?_, by omega⟩
      have := hmx.2 hn
      cases this
    · have hn : mx = none := by
        cases mx with
        | none => rfl
        | some v => obtain ⟨z, hz, _⟩ := hmx.1 v rfl; cases hz
      refine ⟨cap', rfl, hcap, ?_, fun _ => ⟨rfl, rfl⟩, Nat.le_refl _⟩
      intro hs
      rw [hn] at hs
      cases hs
  obtain ⟨m', r1, hmm, hs1, hs2, hs3⟩ := hm
  have hlm : len ≤ m ∨ hi.isSome = true := by
    cases hi with
    | some v => exact .inr rfl
    | none => exact .inl (by have := hs2 (hh rfl); omega)
  have hh2 : (sbH isSl len m' uhi umx).run P w = .ok h w ∧ h ≤ m := by
    cases hi with
    | none =>
      have hu := hhi.2 rfl
      have hx : umx = none := hmx.2 (hh rfl)
      subst hu; subst hx
      simp only [aSlBound, Option.some.injEq] at e2
      subst e2
      exact ⟨rfl, by rcases hlm with h | h; exact h; cases h⟩
    | some v =>
      obtain ⟨z, rfl, hz⟩ := hhi.1 v rfl
      cases umx with
      | none =>
        rcases bound_sound (P := P) (w := w) e2 hhi.1 hhi.2 (if isSl then .sliceAcap else .sliceAlen) m' hmm with ⟨z', h1, r, hle⟩ | ⟨h1, _⟩
        · cases h1; exact ⟨r, hle⟩
        · cases h1
      | some q =>
        rcases bound_sound (P := P) (w := w) e2 hhi.1 hhi.2 .slice3B m' hmm with ⟨z', h1, r, hle⟩ | ⟨h1, _⟩
        · cases h1; exact ⟨r, hle⟩
        · cases h1
  have hl2 : (sbL umx.isSome h ulo).run P w = .ok l w ∧ l ≤ h := by
    rcases bound_sound (P := P) (w := w) e3 hlo.1 hlo.2 (if umx.isSome then .slice3C else .sliceB) h (Nat.le_refl _) with ⟨z, rfl, r, hle⟩ | ⟨rfl, rfl⟩
    · exact ⟨r, hle⟩
    · exact ⟨rfl, Nat.zero_le _⟩
  refine ⟨m', ?_, hmm, hs1, hs2, hl2.2, hh2.2, hs3⟩
  obtain ⟨hh2, -⟩ := hh2
  obtain ⟨hl2, -⟩ := hl2
  rw [sliceBounds_eq]
  simp only [Sem.run_bind, r1, Result.andThen_ok, hh2, hl2, Sem.run_pure]

include hE in
theorem slice_sound {t : TypeId} {x v : AV} {lo hi mx : Option AV} (h : aSlice E t x lo hi mx = some v) {u : Value} (hu : VR μ x u) {ulo uhi umx : Option Value} (hlo : OptR μ lo ulo) (hhi : OptR μ hi uhi) (hmx : OptR μ mx umx)
    (hh : hi = none → mx = none) : ∃ y, (Instr.sliceAt t u ulo uhi umx).run P w = .ok y w ∧ VR μ v y := by
  simp only [aSlice, Option.bind_eq_some_iff] at h
  obtain ⟨a, ha, h⟩ := h
  have hund := (hE.ty _ _ ha).1
  split at h
  · rename_i s hd
    simp only [VR] at hu; subst hu
    split at h
    · simp only [Option.bind_eq_some_iff] at h
      obtain ⟨hb, e2, lb, e3, h⟩ := h
      cases h
      obtain ⟨m', r, _, _, _, _⟩ := bounds_sound (P := P) (w := w) hlo hhi hmx (cap := s.size) (cap' := s.size) (len := s.size) (Nat.le_refl _) rfl e2 e3 (Nat.le_refl _) false hh
      have hm0 := hmx.2 rfl
      subst hm0
      simp only [VR, exists_eq_right]
      simp only [Instr.sliceAt, Instr.slice, Sem.run_bind, run_underlying hund, hd, Result.andThen_ok, r]
      simp [r]
    · cases h
  · rename_i elem b g off len lo' ex es hd
    simp only [VR] at hu
    obtain ⟨c, sz, cap, off', hm, rfl, q1, q2, q3, q4, q5⟩ := hu
    simp only [Option.bind_eq_some_iff, beq_dec] at h
    obtain ⟨e, he, h⟩ := h
    by_cases hes : e.size = es
    · simp only [hes, decide_true, cond_true, Option.bind_eq_some_iff] at h
      obtain ⟨m, e1, hb, e2, lb, e3, h⟩ := h
      cases h
      obtain ⟨m', r, p1, p2, p3, p4, p5, p6⟩ := bounds_sound (P := P) (w := w) hlo hhi hmx (cap := lo') (cap' := cap) (len := len) q2 e1 e2 e3 q1 true hh
      refine ⟨.slice (if m' = lb then some ⟨c, off', none⟩ else some ⟨c, off' + lb * es, none⟩) (hb - lb) (m' - lb), ?_, ?_⟩
      · simp only [Instr.sliceAt, Instr.slice, Sem.run_bind, run_underlying hund, hd, Result.andThen_ok, r, run_szo hE w he, hes, Sem.run_pure, Option.map_some, Addr.add_lit]
      · simp only [VR]
        refine ⟨c, sz, m' - lb, if m' = lb then off' else off' + lb * es, hm, by split <;> rfl, by omega, by omega, ?_, ?_, by omega⟩
        · intro hx
          simp only [Bool.or_eq_true] at hx
          rcases hx with hx | hx
          · cases hmxx : mx with
            | none => obtain ⟨a1, a2⟩ := p3 hmxx; have := q3 hx; omega
            | some z => have := p2 (by simp [hmxx]); omega
          · have := p2 hx; omega
        · intro hc
          have hne : m' ≠ lb := by omega
          rw [if_neg hne]
          obtain ⟨b1, b2⟩ := q4 (by omega)
          refine ⟨by rw [b1], fun hx => ?_⟩
          simp only [Bool.or_eq_false_iff] at hx
          have b3 := b2 hx.1
          have : lb * es + (m' - lb) * es = m' * es := by rw [← Nat.add_mul]; congr 1; omega
          have : m' * es ≤ cap * es := Nat.mul_le_mul_right _ p6
          omega
    · simp [hes] at h
  · rename_i elem hd
    simp only [VR] at hu; subst hu
    simp only [Option.bind_eq_some_iff] at h
    obtain ⟨e, he, m, e1, hb, e2, lb, e3, h⟩ := h
    cases h
    obtain ⟨m', r, p1, p2, p3, p4, p5, p6⟩ := bounds_sound (P := P) (w := w) hlo hhi hmx (cap := 0) (cap' := 0) (len := 0) (Nat.le_refl _) e1 e2 e3 (Nat.le_refl _) true hh
    obtain rfl : m' = 0 := by omega
    obtain rfl : m = 0 := by omega
    obtain rfl : hb = 0 := by omega
    obtain rfl : lb = 0 := by omega
    simp only [VR, exists_eq_right]
    simp only [Instr.sliceAt, Instr.slice, Sem.run_bind, run_underlying hund, hd, Result.andThen_ok, r, run_szo hE w he, Sem.run_pure]
    rfl
  · rename_i n elem b g off hd
    simp only [VR] at hu
    obtain ⟨c, sz, hm, rfl⟩ := hu
    simp only [Option.bind_eq_some_iff, ble_dec] at h
    obtain ⟨e, he, h⟩ := h
    by_cases hn : n ≤ 9223372036854775807
    case neg => simp [hn] at h
    simp only [hn, decide_true, cond_true, Option.bind_eq_some_iff] at h
    obtain ⟨m, e1, hb, e2, lb, e3, h⟩ := h
    cases h
    obtain ⟨m', r, p1, p2, p3, p4, p5, p6⟩ := bounds_sound (P := P) (w := w) hlo hhi hmx (cap := n) (cap' := n) (len := n) (Nat.le_refl _) e1 e2 e3 (Nat.le_refl _) false hh
    have hmm : m' = m := by
      cases hmxx : mx with
      | none => obtain ⟨a1, a2⟩ := p3 hmxx; omega
      | some z => exact p2 (by simp [hmxx])
    subst hmm
    refine ⟨.slice (some (if m' = lb then ⟨c, off, none⟩ else ⟨c, off + lb * e.size, none⟩)) (hb - lb) (m' - lb), ?_, ?_⟩
    · simp only [Instr.sliceAt, Instr.sureAddr, Sem.run_bind, run_underlying hund, hd, Result.andThen_ok, r, run_szo hE w he, Sem.run_pure, Addr.add_lit]
    · simp only [VR]
      refine ⟨c, sz, m' - lb, if m' = lb then off else off + lb * e.size, hm, by split <;> rfl, by omega, by omega, fun _ => rfl, fun hc => ?_, ?_⟩
      · rw [if_neg (by omega)]
        exact ⟨rfl, fun hx => by cases hx⟩
      · simp only [maxLen]; omega
  · cases h

/-! ### Addresses, fields, elements -/
include hE in
theorem fieldAddr_sound {s : TypeId} {x v : AV} {f : Nat} (h : aFieldAddr E s x f = some v) {u : Value} (hu : VR μ x u) : ∃ y, (Instr.fieldAt s u f).run P w = .ok y w ∧ VR μ v y := by
  simp only [aFieldAddr, Option.bind_eq_some_iff] at h
  obtain ⟨a, ha, h⟩ := h
  have hund := (hE.ty _ _ ha).1
  split at h
  · rename_i fields b g off hd
    simp only [VR] at hu
    obtain ⟨c, sz, hm, rfl⟩ := hu
    simp only [Option.bind_eq_some_iff, beq_dec] at h
    obtain ⟨fd, hf, e, he, h⟩ := h
    by_cases hz : e.size = 0
    · simp [hz] at h
    · simp only [hz, decide_false, cond_false, Option.some.injEq] at h
      subst h
      refine ⟨.pointer (some ⟨c, off + fd.offset, none⟩), ?_, by simp only [VR]; exact ⟨c, sz, hm, rfl⟩⟩
      simp [Instr.fieldAt, run_underlying hund, hd, hf, Instr.sureAddr, fieldPlace, run_szo hE w he, hz, Addr.add_lit]
  · cases h
include hE in
theorem field_sound {s : TypeId} {x v : AV} {f : Nat} (h : aField E s x f = some v) {u : Value} (hu : VR μ x u) : ∃ y, (Instr.field s u f).run P w = .ok y w ∧ VR μ v y := by
  simp only [aField, Option.bind_eq_some_iff] at h
  obtain ⟨a, ha, h⟩ := h
  have hund := (hE.ty _ _ ha).1
  split at h
  · rename_i fields cs hd
    simp only [VR] at hu
    obtain ⟨xs, k, rfl⟩ := hu
    simp only [Option.bind_eq_some_iff] at h
    obtain ⟨fd, hf, h⟩ := h
    obtain ⟨y, h1, h2⟩ := part_sound hE (w := w) h k
    exact ⟨y, by simp [Instr.field, run_underlying hund, hd, hf, asAgg, h1], h2⟩
  · cases h
theorem and_dec {p q : Prop} [Decidable p] [Decidable q] : (decide p && decide q) = decide (p ∧ q) := by simp
include hE in
theorem indexAddr_sound {t : TypeId} {x i v : AV} (h : aIndexAddr E t x i = some v) {u j : Value} (hu : VR μ x u) (hj : VR μ i j) : ∃ y, (Instr.indexAt t u j).run P w = .ok y w ∧ VR μ v y := by
  unfold aIndexAddr at h
  split at h
  case h_3 => cases h
  case h_2 =>
    rename_i k z
    simp only [VR] at hj; subst hj
    simp only [Option.bind_eq_some_iff] at h
    obtain ⟨a, ha, h⟩ := h
    have hund := (hE.ty _ _ ha).1
    split at h
    · rename_i elem b g off len lo ex es hd
      simp only [VR] at hu
      obtain ⟨c, sz, cap, off', hm, rfl, q1, q2, q3, q4, q5⟩ := hu
      simp only [Option.bind_eq_some_iff] at h
      obtain ⟨e, he, h⟩ := h
      split at h
      · rename_i e1 e2 e3
        cases h
        have z1 : 0 ≤ z.ev Val.ρ := of_decide_eq_true (hE.le _ _ _ e1)
        have z2 : ¬ (len : Int) ≤ z.ev Val.ρ := of_decide_eq_false (hE.le _ _ _ e2)
        have e3 : e.size = es := by simpa using e3
        have hlen : z.ev Val.ρ < (len : Int) := by omega
        obtain ⟨rfl, _⟩ := q4 (by omega)
        refine ⟨.pointer (some ⟨c, off' + (z.ev Val.ρ).toNat * es, none⟩), ?_, by simp only [VR]; exact ⟨c, sz, hm, ⟨z1, hlen⟩, rfl⟩⟩
        simp [Instr.indexAt, asIntOf, run_underlying hund, hd, z1, hlen, e3, run_szo hE w he, Addr.add_lit]
      · cases h
    · cases h
  rename_i k n
  simp only [VR] at hj; subst hj
  simp only [Option.bind_eq_some_iff] at h
  obtain ⟨a, ha, h⟩ := h
  have hund := (hE.ty _ _ ha).1
  split at h
  · rename_i len elem b g off hd
    simp only [VR] at hu
    obtain ⟨c, sz, hm, rfl⟩ := hu
    simp only [Option.bind_eq_some_iff, and_dec] at h
    obtain ⟨e, he, h⟩ := h
    by_cases hb : 0 ≤ n ∧ n < (len : Int)
    · simp only [hb, and_self, decide_true, cond_true, Option.some.injEq] at h
      subst h
      refine ⟨.pointer (some ⟨c, off + n.toNat * e.size, none⟩), ?_, by simp only [VR]; exact ⟨c, sz, hm, rfl⟩⟩
      simp [Instr.indexAt, asIntOf, run_underlying hund, hd, Instr.sureAddr, hb, run_szo hE w he, Addr.add_lit]
    · simp [hb] at h
  · rename_i elem b g off len lo ex es hd
    simp only [VR] at hu
    obtain ⟨c, sz, cap, off', hm, rfl, q1, q2, q3, q4, q5⟩ := hu
    simp only [Option.bind_eq_some_iff, and_dec, beq_dec] at h
    obtain ⟨e, he, h⟩ := h
    by_cases hb : (0 ≤ n ∧ n < (len : Int)) ∧ e.size = es
    · simp only [hb, and_self, decide_true, cond_true, Option.some.injEq] at h
      subst h
      obtain ⟨rfl, _⟩ := q4 (by omega)
      refine ⟨.pointer (some ⟨c, off' + n.toNat * es, none⟩), ?_, by simp only [VR]; exact ⟨c, sz, hm, rfl⟩⟩
      simp [Instr.indexAt, asIntOf, run_underlying hund, hd, hb, run_szo hE w he, Addr.add_lit]
    · simp [hb] at h
  · cases h
include hE in
theorem index_sound {t : TypeId} {x i v : AV} (h : aIndex E t x i = some v) {u j : Value} (hu : VR μ x u) (hj : VR μ i j) : ∃ y, (Instr.index t u j).run P w = .ok y w ∧ VR μ v y := by
  unfold aIndex at h
  split at h
  case h_2 => cases h
  rename_i k n
  simp only [VR] at hj; subst hj
  simp only [Option.bind_eq_some_iff] at h
  obtain ⟨a, ha, h⟩ := h
  have hund := (hE.ty _ _ ha).1
  split at h
  · rename_i len elem cs hd
    simp only [VR] at hu
    obtain ⟨xs, k, rfl⟩ := hu
    simp only [Option.bind_eq_some_iff, and_dec] at h
    obtain ⟨e, he, h⟩ := h
    by_cases hb : 0 ≤ n ∧ n < (len : Int)
    · simp only [hb, and_self, decide_true, cond_true] at h
      obtain ⟨y, h1, h2⟩ := part_sound hE (w := w) h k
      refine ⟨y, ?_, h2⟩
      simp [Instr.index, asIntOf, run_underlying hund, hd, hb, run_szo hE w he, h1]
    · simp [hb] at h
  · rename_i s hd
    simp only [VR] at hu; subst hu
    split at h
    · rename_i h0
      simp only [Option.bind_eq_some_iff, Option.some.injEq] at h
      obtain ⟨c, h1, h2⟩ := h
      subst h2
      simp only [VR, exists_eq_right]
      simp [Instr.index, asIntOf, run_underlying hund, hd, h0, h1]
    · cases h
  · cases h
theorem extract_sound {x v : AV} {i : Nat} (h : aExtract x i = some v) {u : Value} (hu : VR μ x u) : ∃ y, (Instr.extract u i).run P w = .ok y w ∧ VR μ v y := by
  unfold aExtract at h
  split at h
  · simp only [VR] at hu
    obtain ⟨xs, k, rfl⟩ := hu
    obtain ⟨y, h1, h2⟩ := k.get h
    exact ⟨y, by simp [Instr.extract, h1], h2⟩
  · cases h
include hE in
theorem mkIface_sound {t : TypeId} {x v : AV} (h : aMkIface E t x = some v) {u : Value} (hu : VR μ x u) : ∃ y, (Instr.makeInterface t u).run P w = .ok y w ∧ VR μ v y := by
  simp only [aMkIface, Option.bind_eq_some_iff] at h
  obtain ⟨a, ha, h⟩ := h
  have hund := (hE.ty _ _ ha).1
  split at h
  · cases h
  · rename_i hn
    cases h
    refine ⟨.iface t u, ?_, by simp only [VR]; exact ⟨u, hu, rfl⟩⟩
    simp only [Instr.makeInterface, Sem.run_bind, run_underlying hund, Result.andThen_ok]
    cases hd : a.desc <;> first | rfl | exact (hn _ hd).elim

/-! ### Maps -/
theorem sameNow_sound {k k' : AV} {r : Bool} (h : aScalarEq k k' = some r) {u u' : Value} (hu : VR μ k u) (hu' : VR μ k' u') {d : TypeDesc} (hd : keyKind d k = true) : Instr.sameNow d u u' = some r := by
  cases k <;> cases k' <;> simp only [aScalarEq] at h <;> try (cases h; done)
  all_goals (simp only [VR] at hu hu'; subst hu; subst hu'; cases d <;> simp [keyKind] at hd)
  · cases h; rfl
  · split at h
    · rename_i hk; subst hk; cases h; simp [Instr.sameNow]
    · cases h
  · cases h
    simp only [Instr.sameNow]
theorem findNow_sound {k : AV} {u : Value} (hu : VR μ k u) {d : TypeDesc} (hd : keyKind d k = true) :
    ∀ {es : List (AV × AV × Nat)} {ms : List MapEntry} {i : Nat} {r : Option (Nat × AV × Nat)}, aFind k es i = some r → EntsR μ es ms →
      ∃ r', Instr.findNow d u ms i = some r' ∧ (r = none → r' = none) ∧ (∀ j v s, r = some (j, v, s) → ∃ y k0, r' = some (j, y) ∧ VR μ v y ∧ i ≤ j ∧ es[j - i]? = some (k0, v, s) ∧ aScalarEq k k0 = some true)
  | [], [], i, r, h, _ => by simp only [aFind, Option.some.injEq] at h; subst h; exact ⟨none, rfl, by simp, by simp⟩
  | [], _ :: _, _, _, _, he => by have := he.1; simp at this
  | _ :: _, [], _, _, _, he => by have := he.1; simp at this
  | (k', v, s) :: es, m :: ms, i, r, h, he => by
    obtain ⟨e1, e2, e3⟩ := he.2 0 (k', v, s) m (by simp) (by simp)
    simp only at e1 e2 e3
    simp only [aFind, Option.bind_eq_some_iff] at h
    obtain ⟨q, h1, h2⟩ := h
    have hs := sameNow_sound h1 hu e1 hd
    simp only [Instr.findNow, hs]
    cases q with
    | true =>
      simp only [cond_true, Option.some.injEq] at h2
      subst h2
      exact ⟨_, rfl, by simp, fun j v' s' hj => by cases hj; exact ⟨_, k', rfl, e2, Nat.le_refl _, by simp, h1⟩⟩
    | false =>
      simp only [cond_false] at h2
      obtain ⟨r', h3, h4, h5⟩ := findNow_sound hu hd h2 (ms := ms) ⟨by have := he.1; simpa using this, fun j e m' a b => he.2 (j + 1) e m' (by simpa using a) (by simpa using b)⟩
      refine ⟨r', h3, h4, fun j v' s' hj => ?_⟩
      obtain ⟨y, k0, a1, a2, a3, a4, a5⟩ := h5 j v' s' hj
      refine ⟨y, k0, a1, a2, by omega, ?_, a5⟩
      have : j - i = (j - (i + 1)) + 1 := by omega
      rw [this]
      simpa using a4
theorem checkKey_plain {t : TypeId} {d : TypeDesc} (hund : P.underlying t = some d) {k : AV} (hd : keyKind d k = true) {u : Value} (hu : VR μ k u) (em : Bool) (n : Nat) : (Instr.checkKey em (n + 1) t u).run P w = .ok () w := by
  simp only [Instr.checkKey, Sem.run_bind, run_underlying hund, Result.andThen_ok]
  cases d <;> cases k <;> simp [keyKind] at hd <;> (simp only [VR] at hu; subst hu; rfl)
include hE in
theorem key_sound {t : TypeId} {k : AV} (h : aKeyOK E t k = true) {u : Value} (hu : VR μ k u) : ∃ a, E.ty t = some a ∧ keyKind a.desc k = true ∧ ∀ em, (Instr.checkKey em 10000 t u).run P w = .ok () w := by
  unfold aKeyOK at h
  split at h
  · rename_i a ha
    exact ⟨a, ha, h, fun em => checkKey_plain (hE.ty _ _ ha).1 h hu em 9999⟩
  · cases h
include R in
theorem map_sound {b : Nat} {es : List (AV × AV × Nat)} {clock : Nat} (h : aMap A b = some (es, clock)) {g c sz : Nat} (hm : μ b g = some (c, sz)) : ∃ ms, w.heap[c]? = some (.map ms clock) ∧ EntsR μ es ms.toList := by
  unfold aMap at h
  split at h
  · rename_i es' clock' hg
    cases h
    obtain ⟨o, h1, _, ms, h2, h3⟩ := R.blk b _ hg g c sz hm
    subst h2
    exact ⟨ms, h1, h3⟩
  · cases h
theorem run_getObj_map {c : Nat} {ms : Array MapEntry} {clock : Nat} (h : w.heap[c]? = some (.map ms clock)) : (getObj c).run P w = .ok (.map ms clock) w := by simp [getObj, Sem.run, h]
def lookTail (kt et : TypeId) (j : Value) (ok : Bool) (es : Array MapEntry) : Sem Value := do
  Instr.checkKey es.isEmpty 10000 kt j
  let (v, ok') ← match ← Instr.findKey kt j es.toList with
    | some (_, v) => pure (v, true)
    | none => pure (← zeroValue et, false)
  pure (if ok then .tuple #[v, .bool ok'] else v)
theorem lookup_nil {t kt et : TypeId} {j : Value} {ok : Bool} (h : P.underlying t = some (.map kt et)) : (Instr.lookup t (.map none) j ok).run P w = (lookTail kt et j ok #[]).run P w := by
  simp only [Instr.lookup, lookTail, Sem.run_bind, run_underlying h, Result.andThen_ok]
  rfl
theorem lookup_some {t kt et : TypeId} {j : Value} {ok : Bool} (h : P.underlying t = some (.map kt et)) {c : Nat} {ms : Array MapEntry} {clock : Nat} (hc : w.heap[c]? = some (.map ms clock)) :
    (Instr.lookup t (.map (some c)) j ok).run P w = (lookTail kt et j ok ms).run P w := by
  simp only [Instr.lookup, lookTail, Sem.run_bind, run_underlying h, Result.andThen_ok, run_getObj_map hc]
  rfl
include hE in
theorem zeroV_sound {t : TypeId} {e : ATy} (he : E.ty t = some e) {v : AV} (hv : aZeroV e = some v) (μ : Mu) : ∃ zv, (zeroValue t).run P w = .ok zv w ∧ VR μ v zv := by
  simp only [aZeroV, Option.bind_eq_some_iff] at hv
  obtain ⟨z, hz, hv⟩ := hv
  obtain ⟨zv, z1, z2, z3⟩ := run_zero hE w he hz μ
  refine ⟨zv, z1, ?_⟩
  cases hag : e.isAgg with
  | true => simp [hag] at hv z3; subst hv; exact z3
  | false =>
    simp only [hag, cond_false] at hv z3
    cases z with
    | nil => simp at hv
    | cons a l => simp at hv z3; subst hv; exact z3
include hE in
theorem lookTail_sound {kt et : TypeId} {k v : AV} {ok : Bool} {es : List (AV × AV × Nat)} {r : Option (Nat × AV × Nat)} (hk : aKeyOK E kt k = true) (h2 : aFind k es 0 = some r)
    (h3 : lookRes E et ok r = some v)
    {j : Value} (hj : VR μ k j) {ms : Array MapEntry} (hent : EntsR μ es ms.toList) : ∃ y, (lookTail kt et j ok ms).run P w = .ok y w ∧ VR μ v y := by
  obtain ⟨ak, hak, hmd, hck⟩ := key_sound hE (w := w) hk hj
  obtain ⟨r', e1, e2, e3⟩ := findNow_sound hj hmd h2 hent
  have hfind : (Instr.findKey kt j ms.toList).run P w = .ok r' w := by
    simp only [Instr.findKey, Sem.run_bind, run_underlying (hE.ty _ _ hak).1, Result.andThen_ok, e1]
    rfl
  simp only [lookTail, Sem.run_bind, hck, Result.andThen_ok, hfind]
  cases r with
  | some p =>
    obtain ⟨i, v', s⟩ := p
    obtain ⟨y, k0, rfl, hy, _⟩ := e3 i v' s rfl
    simp only [lookRes, Option.some.injEq] at h3
    subst h3
    cases ok with
    | true => exact ⟨_, rfl, by simp only [cond_true, VR, VRs]; exact ⟨_, ⟨_, _, rfl, hy, _, _, rfl, rfl, rfl⟩, rfl⟩⟩
    | false => exact ⟨_, rfl, hy⟩
  | none =>
    rw [e2 rfl]
    simp only [lookRes, Option.bind_eq_some_iff] at h3
    obtain ⟨e, he, v', hv', h4⟩ := h3
    obtain ⟨zv, z1, hv⟩ := zeroV_sound hE (w := w) he hv' μ
    simp only [Sem.run_bind, z1, Result.andThen_ok, Sem.run_pure]
    simp only [Option.some.injEq] at h4
    subst h4
    cases ok with
    | true => exact ⟨_, rfl, by simp only [cond_true, VR, VRs]; exact ⟨_, ⟨_, _, rfl, hv, _, _, rfl, rfl, rfl⟩, rfl⟩⟩
    | false => exact ⟨_, rfl, hv⟩
include hE R in
theorem lookup_sound {t : TypeId} {x k v : AV} {ok : Bool} (h : aLookup E A t x k ok = some v) {u j : Value} (hu : VR μ x u) (hj : VR μ k j) : ∃ y, (Instr.lookup t u j ok).run P w = .ok y w ∧ VR μ v y := by
  simp only [aLookup, Option.bind_eq_some_iff] at h
  obtain ⟨a, ha, h⟩ := h
  have hund := (hE.ty _ _ ha).1
  split at h
  case h_2 => cases h
  rename_i kt et hd
  rw [hd] at hund
  cases hk : aKeyOK E kt k with
  | false => simp [hk] at h
  | true =>
    simp only [hk, cond_true, Option.bind_eq_some_iff] at h
    obtain ⟨es, h1, r, h2, h3⟩ := h
    cases x <;> simp only [aEnts] at h1 <;> try (cases h1; done)
    case nilMap =>
      simp only [VR] at hu; subst hu; cases h1
      rw [lookup_nil hund]
      exact lookTail_sound hE hk h2 h3 hj (by simp [EntsR])
    case map b =>
      simp only [VR] at hu
      obtain ⟨c, sz, hm, rfl⟩ := hu
      simp only [Option.bind_eq_some_iff] at h1
      obtain ⟨⟨es', clock⟩, e1, e2⟩ := h1
      cases e2
      obtain ⟨ms, e3, e4⟩ := map_sound R e1 hm
      rw [lookup_some hund e3]
      exact lookTail_sound hE hk h2 h3 hj e4

/-! ### Builtins -/
include hE R in
theorem len_sound {t : TypeId} {x v : AV} (h : aLen E A t x = some v) {u : Value} (hu : VR μ x u) (ts : List TypeId) (us : List Value) (ty : TypeId) :
    ∃ y, (Builtin.len_ (t :: ts).toArray ty (u :: us).toArray).run P w = .ok y w ∧ VR μ v y := by
  simp only [aLen, Option.bind_eq_some_iff] at h
  obtain ⟨a, ha, h⟩ := h
  have hund := (hE.ty _ _ ha).1
  split at h
  · rename_i hd; rw [hd] at hund; simp only [VR] at hu; subst hu; cases h; simp only [VR, exists_eq_right]; simp [Builtin.len_, run_underlying hund, goInt]
  · rename_i hd; rw [hd] at hund; cases h; simp only [VR, exists_eq_right]
    simp only [Builtin.len_, List.getElem?_toArray, List.getElem?_cons_zero, Sem.run_bind, run_underlying hund, Result.andThen_ok]
    cases u <;> rfl
  · rename_i hd; rw [hd] at hund
    simp only [Option.bind_eq_some_iff] at h
    obtain ⟨e, he, h⟩ := h
    have hund2 := (hE.ty _ _ he).1
    split at h
    · rename_i hd2; rw [hd2] at hund2; cases h; simp only [VR, exists_eq_right]
      simp only [Builtin.len_, List.getElem?_toArray, List.getElem?_cons_zero, Sem.run_bind, run_underlying hund, Result.andThen_ok]
      cases u <;> simp only [run_underlying hund2, Sem.run_bind, Result.andThen_ok, Sem.run_pure, goInt]
    · cases h
  · rename_i hd; rw [hd] at hund; simp only [VR] at hu; obtain ⟨_, _, _, _, _, rfl, _⟩ := hu; cases h; simp only [VR, exists_eq_right]; simp [Builtin.len_, run_underlying hund, goInt]
  · rename_i hd; rw [hd] at hund; simp only [VR] at hu; subst hu; cases h; simp only [VR, exists_eq_right]; simp [Builtin.len_, run_underlying hund, goInt]
  · rename_i hd; rw [hd] at hund; simp only [VR] at hu; subst hu; cases h; simp only [VR, exists_eq_right]; simp [Builtin.len_, run_underlying hund, goInt]
  · rename_i hd; rw [hd] at hund; simp only [VR] at hu
    obtain ⟨c, sz, hm, rfl⟩ := hu
    simp only [Option.bind_eq_some_iff] at h
    obtain ⟨⟨es, clock⟩, e1, e2⟩ := h
    obtain ⟨ms, e3, e4⟩ := map_sound R e1 hm
    cases e2
    simp only [VR, exists_eq_right]
    have := e4.1
    simp at this
    simp [Builtin.len_, run_underlying hund, run_getObj_map e3, goInt, this]
  · cases h
include hE in
theorem cap_sound {t : TypeId} {x v : AV} (h : aCap E t x = some v) {u : Value} (hu : VR μ x u) (ts : List TypeId) (us : List Value) (ty : TypeId) :
    ∃ y, (Builtin.cap_ (t :: ts).toArray ty (u :: us).toArray).run P w = .ok y w ∧ VR μ v y := by
  simp only [aCap, Option.bind_eq_some_iff] at h
  obtain ⟨a, ha, h⟩ := h
  have hund := (hE.ty _ _ ha).1
  split at h
  · rename_i hd; rw [hd] at hund; simp only [VR] at hu; obtain ⟨_, _, cap, _, _, rfl, _, _, hx, _⟩ := hu; cases h; simp only [VR, exists_eq_right]; simp [Builtin.cap_, run_underlying hund, goInt]; have := hx trivial; omega
  · rename_i hd; rw [hd] at hund; simp only [VR] at hu; subst hu; cases h; simp only [VR, exists_eq_right]; simp [Builtin.cap_, run_underlying hund, goInt]
  · rename_i hd; rw [hd] at hund; cases h; simp only [VR, exists_eq_right]
    simp only [Builtin.cap_, List.getElem?_toArray, List.getElem?_cons_zero, Sem.run_bind, run_underlying hund, Result.andThen_ok]
    cases u <;> rfl
  · cases h
include hE in
theorem minmax_sound (mx : Bool) : ∀ {xs : List AV} {x v : AV}, aMinMax E mx x xs = some v → ∀ {u : Value} {us : List Value}, VR μ x u → VRs μ xs us → ∃ y, (us.foldlM (if mx then Builtin.max2 else Builtin.min2) u).run P w = .ok y w ∧ VR μ v y
  | [], x, v, h, u, us, hu, hus => by
    simp only [VRs] at hus; subst hus
    cases x <;> simp only [aMinMax] at h <;> try (cases h; done)
    · cases h; exact ⟨u, rfl, hu⟩
    · cases h; exact ⟨u, rfl, hu⟩
  | z :: xs, x, v, h, u, us, hu, hus => by
    simp only [VRs] at hus
    obtain ⟨u', us', rfl, h1, h2⟩ := hus
    have gen : ∀ {k k' : IntKind} {a b : Sy}, toSy x = some (k, a) → toSy z = some (k', b) → k = k' → (bif mx then E.le b a else E.le a b).bind (fun c => aMinMax E mx (bif c then x else z) xs) = some v →
        ∃ y, ((u' :: us').foldlM (if mx then Builtin.max2 else Builtin.min2) u).run P w = .ok y w ∧ VR μ v y := by
      intro k k' a b e1 e2 hk hh
      subst hk
      have q1 := toSy_VR hu e1
      have q2 := toSy_VR h1 e2
      simp only [Option.bind_eq_some_iff] at hh
      obtain ⟨c, hc, hh⟩ := hh
      obtain ⟨y, e3, e4⟩ := minmax_sound mx hh (u := bif c then u else u') (by cases c; exact h1; exact hu) h2
      refine ⟨y, ?_, e4⟩
      rw [List.foldlM_cons]
      simp only [Sem.run_bind]
      subst q1; subst q2
      cases mx
      · simp only [cond_false] at hc
        have := hE.le _ _ _ hc
        cases c
        · simp at this
          simpa [Builtin.min2, this] using e3
        · simp at this
          have h3 : ¬ (b.ev Val.ρ < a.ev Val.ρ) := by omega
          simpa [Builtin.min2, h3] using e3
      · simp only [cond_true] at hc
        have := hE.le _ _ _ hc
        cases c
        · simp at this
          simpa [Builtin.max2, this] using e3
        · simp at this
          have h3 : ¬ (b.ev Val.ρ > a.ev Val.ρ) := by omega
          simpa [Builtin.max2, h3] using e3
    unfold aMinMax at h
    split at h
    · rename_i hx; cases hx
    · rename_i hx; cases hx
    · rename_i k a k' b r hx
      cases hx
      split at h
      · rename_i hk
        subst hk
        simp only [VR] at hu h1; subst hu; subst h1
        obtain ⟨y, e1, e2⟩ := minmax_sound mx h (u := .int k (if mx then (if b > a then b else a) else (if b < a then b else a))) (by simp only [VR]) h2
        refine ⟨y, ?_, e2⟩
        rw [List.foldlM_cons]
        simp only [Sem.run_bind]
        cases mx
        · simpa [Builtin.min2] using e1
        · simpa [Builtin.max2] using e1
      · cases h
    · rename_i hx
      cases hx
      simp only [Option.bind_eq_some_iff] at h
      obtain ⟨⟨k, a⟩, e1, ⟨k', b⟩, e2, h⟩ := h
      split at h
      · rename_i hk
        exact gen e1 e2 hk h
      · cases h
    · cases h

/-- EVERY OPERATION THAT ONLY READS. -/
theorem pass_kind {op : Op} (h : opKind op = .pass) : ∀ cs b, op ≠ .select cs b := by intro cs b e; subst e; cases h
include hE R in
theorem pass_sound {o : Oper} {ts : Ts} {v : AV} (h : aPass E ts A o.op = some v) {a : Act} (T : TR μ ts a.tmps) (hk : opKind o.op = .pass) :
    ∃ u, (execOp a.eval o).run P w = .ok (.value u) w ∧ VR μ v u := by
  obtain ⟨dst, op, type, pos, after, guard⟩ := o
  simp only at h hk
  cases op <;> try (cases hk; done)
  case move x => exact ⟨_, rfl, evalO_VR hE T h⟩
  case assign x => exact ⟨_, rfl, evalO_VR hE T h⟩
  case pick c x y =>
    simp only [aPass, Option.bind_eq_some_iff] at h
    obtain ⟨cv, h1, xv, h2, yv, h3, h4⟩ := h
    have r1 := evalO_VR hE T h1
    unfold aPick at h4
    split at h4
    · simp only [VR] at r1
      cases h4
      rename_i b
      refine ⟨if b then a.eval x else a.eval y, by simp [execOp, r1, asBool], ?_⟩
      cases b
      · exact evalO_VR hE T h3
      · exact evalO_VR hE T h2
    · cases h4
  case build t ps =>
    simp only [aPass, Option.bind_eq_some_iff] at h
    obtain ⟨vs, h1, h2⟩ := h
    obtain ⟨l, k⟩ := evalPs_VR T hE h1
    obtain ⟨u, e1, e2⟩ := build_sound hE (w := w) h2 l k
    refine ⟨u, ?_, e2⟩
    have : (Array.map (fun (x : Nat × Operand) => match x with | (i, x) => (i, a.eval x)) ps) = (List.map (fun p => (p.1, a.eval p.2)) ps.toList).toArray := by
      apply Array.ext'
      simp
    simp only [execOp, Sem.run_bind]
    rw [this, e1]
    rfl
  case load t x =>
    simp only [aPass, Option.bind_eq_some_iff] at h
    obtain ⟨p, h1, h2⟩ := h
    obtain ⟨u, e1, e2⟩ := load_sound hE R h2 (evalO_VR hE T h1)
    exact ⟨u, by simp [execOp, e1], e2⟩
  case nilCheck x =>
    simp only [aPass, Option.bind_eq_some_iff] at h
    obtain ⟨p, h1, h2⟩ := h
    have r1 := evalO_VR hE T h1
    unfold aNilCheck at h2
    split at h2
    · cases h2
      simp only [VR] at r1
      obtain ⟨c, sz, hm, e⟩ := r1
      exact ⟨_, by simp only [execOp, e]; rfl, by simp only [VR]; exact ⟨c, sz, hm, rfl⟩⟩
    · cases h2
      have r2 := r1
      simp only [VR] at r1
      obtain ⟨fs, cs, _, _, e⟩ := r1
      rw [e] at r2
      exact ⟨_, by simp only [execOp, e]; rfl, r2⟩
    · cases h2
      simp only [VR] at r1
      obtain ⟨c, sz, hm, e⟩ := r1
      exact ⟨_, by simp only [execOp, e]; rfl, by simp only [VR]; exact ⟨c, sz, hm, rfl⟩⟩
    · cases h2
  case binOp op t x y yt =>
    simp only [aPass, Option.bind_eq_some_iff] at h
    obtain ⟨xv, h1, yv, h2, h3⟩ := h
    obtain ⟨u, e1, e2, e3⟩ := bin_sound hE R h3 (evalO_VR hE T h1) (evalO_VR hE T h2) x y
    exact ⟨u, by simp [execOp, e1, e2], e3⟩
  case unOp op t x =>
    simp only [aPass, Option.bind_eq_some_iff] at h
    obtain ⟨p, h1, h2⟩ := h
    obtain ⟨u, e1, e2⟩ := un_sound (P := P) (w := w) h2 (evalO_VR hE T h1)
    exact ⟨u, by simp [execOp, e1], e2⟩
  case convert s d x =>
    simp only [aPass, Option.bind_eq_some_iff] at h
    obtain ⟨p, h1, h2⟩ := h
    obtain ⟨u, e1, e2⟩ := convert_sound hE (w := w) h2 (evalO_VR hE T h1)
    exact ⟨u, by simp [execOp, e1], e2⟩
  case makeInterface t x =>
    simp only [aPass, Option.bind_eq_some_iff] at h
    obtain ⟨p, h1, h2⟩ := h
    obtain ⟨u, e1, e2⟩ := mkIface_sound hE (w := w) h2 (evalO_VR hE T h1)
    exact ⟨u, by simp [execOp, e1], e2⟩
  case makeFunc fn first captured =>
    cases fn <;> simp only [aPass] at h <;> try (cases h; done)
    simp only [Option.bind_eq_some_iff, Option.some.injEq] at h
    obtain ⟨p, h1, q, h2, h3⟩ := h
    subst h3
    have r1 := evalOs_VRs hE T h1
    have r2 := evalOs_VRs hE T h2
    refine ⟨_, rfl, ?_⟩
    simp only [VR]
    exact ⟨_, _, r1, r2, by congr 1 <;> (apply Array.ext'; simp)⟩
  case slice t x lo hi mx =>
    have hmx : ¬ (hi = none ∧ ∃ m, mx = some m) := fun ⟨h1, m, h2⟩ => by subst h1; subst h2; simp [aPass] at h
    have hmx' : (hi.isNone && mx.isSome) = false := by
      cases hi <;> cases mx <;> first | rfl | exact absurd ⟨rfl, _, rfl⟩ hmx
    simp only [aPass, hmx', cond_false, Option.bind_eq_some_iff] at h
    obtain ⟨xv, h1, lov, h2, hiv, h3, mxv, h4, h5⟩ := h
    obtain ⟨u, e1, e2⟩ := slice_sound hE (w := w) h5 (evalO_VR hE T h1) (OptR.of hE T h2) (OptR.of hE T h3) (OptR.of hE T h4) (fun hn => by
      cases hi with
      | some y => simp only [evalM, Option.bind_eq_some_iff] at h3; obtain ⟨_, _, h6⟩ := h3; rw [hn] at h6; cases h6
      | none =>
        cases mx with
        | none => simp only [evalM, Option.some.injEq] at h4; exact h4.symm
        | some m => exact absurd ⟨rfl, m, rfl⟩ hmx)
    exact ⟨u, by simp [execOp, e1], e2⟩
  case fieldAddr s x f =>
    simp only [aPass, Option.bind_eq_some_iff] at h
    obtain ⟨p, h1, h2⟩ := h
    obtain ⟨u, e1, e2⟩ := fieldAddr_sound hE (w := w) h2 (evalO_VR hE T h1)
    exact ⟨u, by simp [execOp, e1], e2⟩
  case field s x f =>
    simp only [aPass, Option.bind_eq_some_iff] at h
    obtain ⟨p, h1, h2⟩ := h
    obtain ⟨u, e1, e2⟩ := field_sound hE (w := w) h2 (evalO_VR hE T h1)
    exact ⟨u, by simp [execOp, e1], e2⟩
  case indexAddr t x i =>
    simp only [aPass, Option.bind_eq_some_iff] at h
    obtain ⟨p, h1, q, h2, h3⟩ := h
    obtain ⟨u, e1, e2⟩ := indexAddr_sound hE (w := w) h3 (evalO_VR hE T h1) (evalO_VR hE T h2)
    exact ⟨u, by simp [execOp, e1], e2⟩
  case index t x i =>
    simp only [aPass, Option.bind_eq_some_iff] at h
    obtain ⟨p, h1, q, h2, h3⟩ := h
    obtain ⟨u, e1, e2⟩ := index_sound hE (w := w) h3 (evalO_VR hE T h1) (evalO_VR hE T h2)
    exact ⟨u, by simp [execOp, e1], e2⟩
  case lookup t x i ok =>
    simp only [aPass, Option.bind_eq_some_iff] at h
    obtain ⟨p, h1, q, h2, h3⟩ := h
    obtain ⟨u, e1, e2⟩ := lookup_sound hE R h3 (evalO_VR hE T h1) (evalO_VR hE T h2)
    exact ⟨u, by simp [execOp, e1], e2⟩
  case extract x i =>
    simp only [aPass, Option.bind_eq_some_iff] at h
    obtain ⟨p, h1, h2⟩ := h
    obtain ⟨u, e1, e2⟩ := extract_sound (P := P) (w := w) h2 (evalO_VR hE T h1)
    exact ⟨u, by simp [execOp, e1], e2⟩
  case call c =>
    obtain ⟨callee, args, argTypes⟩ := c
    cases callee <;> try (cases hk; done)
    rename_i b
    simp only [aPass, Option.bind_eq_some_iff] at h
    obtain ⟨vs, h1, h2⟩ := h
    have r := evalOs_VRs hE T h1
    have ea : args.map a.eval = (args.toList.map a.eval).toArray := by apply Array.ext'; simp
    have et : argTypes = argTypes.toList.toArray := by simp
    generalize args.toList.map a.eval = us at r ea
    generalize argTypes.toList = tl at h2 et
    subst et
    cases b <;> try (cases hk; done)
    case len =>
      cases tl <;> cases vs <;> simp only [aPassBuiltin] at h2 <;> try (cases h2; done)
      rename_i t tl x vs
      simp only [VRs] at r
      obtain ⟨u, us', rfl, r1, r2⟩ := r
      obtain ⟨y, e1, e2⟩ := len_sound hE R h2 r1 tl us' type
      exact ⟨y, by simp only [execOp, resolve, ea, Sem.run_bind, Sem.run_pure, Result.andThen_ok, invoke, builtin, e1], e2⟩
    case cap =>
      cases tl <;> cases vs <;> simp only [aPassBuiltin] at h2 <;> try (cases h2; done)
      rename_i t tl x vs
      simp only [VRs] at r
      obtain ⟨u, us', rfl, r1, r2⟩ := r
      obtain ⟨y, e1, e2⟩ := cap_sound hE (w := w) h2 r1 tl us' type
      exact ⟨y, by simp only [execOp, resolve, ea, Sem.run_bind, Sem.run_pure, Result.andThen_ok, invoke, builtin, e1], e2⟩
    case max =>
      cases vs <;> simp only [aPassBuiltin] at h2 <;> try (cases h2; done)
      rename_i x vs
      simp only [VRs] at r
      obtain ⟨u, us', rfl, r1, r2⟩ := r
      obtain ⟨y, e1, e2⟩ := minmax_sound (P := P) (w := w) hE true h2 r1 r2
      exact ⟨y, by simp only [execOp, resolve, ea, Sem.run_bind, Sem.run_pure, Result.andThen_ok, invoke, builtin, Builtin.max_, if_true] at e1 ⊢; simp only [e1, Result.andThen_ok, Sem.run_pure], e2⟩
    case min =>
      cases vs <;> simp only [aPassBuiltin] at h2 <;> try (cases h2; done)
      rename_i x vs
      simp only [VRs] at r
      obtain ⟨u, us', rfl, r1, r2⟩ := r
      obtain ⟨y, e1, e2⟩ := minmax_sound (P := P) (w := w) hE false h2 r1 r2
      exact ⟨y, by simp only [execOp, resolve, ea, Sem.run_bind, Sem.run_pure, Result.andThen_ok, invoke, builtin, Builtin.min_, if_false, Bool.false_eq_true] at e1 ⊢; simp only [e1, Result.andThen_ok, Sem.run_pure], e2⟩
end
end Go.AE
