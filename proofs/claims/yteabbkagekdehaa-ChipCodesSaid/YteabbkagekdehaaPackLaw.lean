/- Banks for sizes: counts of pairs, assignments that fit. Plain lists and numbers; no program in sight. -/
namespace Go.PackLaw
abbrev Pr := Nat × Nat
def hi (x : Pr) : Nat := max x.1 x.2
def lo (x : Pr) : Nat := min x.1 x.2
def M (PP : List Pr) (i k : Nat) : Nat := (PP.filter fun x => decide (hi x = i) && decide (lo x = k)).length
def confTo (PP : List Pr) (N : Nat → Nat) (i : Nat) : Nat := (PP.filter fun x => decide (hi x < i) && decide (N x.1 = N x.2)).length
def confIn (PP : List Pr) (N : Nat → Nat) (i k : Nat) : Nat := (PP.filter fun x => decide (hi x = i) && (decide (lo x < k) && decide (N x.1 = N x.2))).length
theorem count_add {α : Type} (p q r : α → Bool) : ∀ (l : List α), (∀ x ∈ l, (p x = true → q x = false ∧ r x = true) ∧ (q x = true → p x = false ∧ r x = true) ∧ (r x = true → p x = true ∨ q x = true)) → (l.filter r).length = (l.filter p).length + (l.filter q).length
  | [], _ => rfl
  | x :: l, h => by
    have ih := count_add p q r l fun y hy => h y (by simp [hy])
    obtain ⟨h1, h2, h3⟩ := h x (by simp)
    cases hp : p x with
    | true =>
      obtain ⟨a, b⟩ := h1 hp
      simp only [List.filter_cons, hp, a, b, if_true, Bool.false_eq_true, if_false, List.length_cons, ih]; omega
    | false =>
      cases hq : q x with
      | true =>
        obtain ⟨a, b⟩ := h2 hq
        simp only [List.filter_cons, hp, hq, b, if_true, Bool.false_eq_true, if_false, List.length_cons, ih]; omega
      | false =>
        have hr : r x = false := by
          cases hr : r x with
          | false => rfl
          | true => rcases h3 hr with h | h <;> simp_all
        simp only [List.filter_cons, hp, hq, hr, Bool.false_eq_true, if_false, ih]
theorem filter_none {α : Type} (p : α → Bool) (l : List α) (h : ∀ x ∈ l, p x = false) : (l.filter p).length = 0 := by
  rw [List.length_eq_zero_iff, List.filter_eq_nil_iff]
  intro x hx; rw [h x hx]; simp
theorem confIn_zero (PP : List Pr) (N : Nat → Nat) (i : Nat) : confIn PP N i 0 = 0 := filter_none _ _ fun x _ => by simp
theorem confTo_zero (PP : List Pr) (N : Nat → Nat) : confTo PP N 0 = 0 := filter_none _ _ fun x _ => by simp
theorem hilo {x : Pr} {i k : Nat} (h1 : hi x = i) (h2 : lo x = k) : (x.1 = i ∧ x.2 = k) ∨ (x.1 = k ∧ x.2 = i) := by
  unfold hi at h1; unfold lo at h2; omega
theorem confIn_yes {PP : List Pr} {N : Nat → Nat} {i k : Nat} (h : N i = N k) : confIn PP N i (k + 1) = confIn PP N i k + M PP i k := by
  refine count_add _ _ _ PP fun x _ => ⟨fun hp => ?_, fun hq => ?_, fun hr => ?_⟩
  · simp only [Bool.and_eq_true, decide_eq_true_eq, Bool.and_eq_false_iff, decide_eq_false_iff_not] at hp ⊢
    exact ⟨.inr (by omega), hp.1, by omega, hp.2.2⟩
  · simp only [Bool.and_eq_true, decide_eq_true_eq, Bool.and_eq_false_iff, decide_eq_false_iff_not] at hq ⊢
    refine ⟨.inr (.inl (by omega)), hq.1, by omega, ?_⟩
    rcases hilo hq.1 hq.2 with ⟨a, b⟩ | ⟨a, b⟩ <;> rw [a, b]
    · exact h
    · exact h.symm
  · simp only [Bool.and_eq_true, decide_eq_true_eq] at hr ⊢
    by_cases e : lo x < k
    · exact .inl ⟨hr.1, e, hr.2.2⟩
    · exact .inr ⟨hr.1, by omega⟩
theorem confIn_no {PP : List Pr} {N : Nat → Nat} {i k : Nat} (h : N i ≠ N k) : confIn PP N i (k + 1) = confIn PP N i k := by
  unfold confIn
  congr 1
  refine List.filter_congr fun x _ => ?_
  by_cases e : hi x = i
  · by_cases e2 : lo x = k
    · have hne : ¬ N x.1 = N x.2 := by
        rcases hilo e e2 with ⟨a, b⟩ | ⟨a, b⟩ <;> rw [a, b]
        · exact h
        · exact fun e => h e.symm
      simp [hne]
    · have : (lo x < k + 1) = (lo x < k) := by rw [eq_iff_iff]; omega
      simp [this]
  · simp [e]
theorem confTo_succ {PP : List Pr} (hp : ∀ x ∈ PP, x.1 ≠ x.2) (N : Nat → Nat) (i : Nat) : confTo PP N (i + 1) = confTo PP N i + confIn PP N i i := by
  refine count_add _ _ _ PP fun x hx => ⟨fun hp => ?_, fun hq => ?_, fun hr => ?_⟩
  · simp only [Bool.and_eq_true, decide_eq_true_eq, Bool.and_eq_false_iff, decide_eq_false_iff_not] at hp ⊢
    exact ⟨.inl (by omega), by omega, hp.2⟩
  · simp only [Bool.and_eq_true, decide_eq_true_eq, Bool.and_eq_false_iff, decide_eq_false_iff_not] at hq ⊢
    exact ⟨.inl (by omega), by omega, hq.2.2⟩
  · simp only [Bool.and_eq_true, decide_eq_true_eq] at hr ⊢
    by_cases e : hi x < i
    · exact .inl ⟨e, hr.2⟩
    · have := hp x hx
      exact .inr ⟨by omega, by unfold hi lo at *; omega, hr.2⟩
/-- the pairs together in an assignment -/
def tog (PP : List Pr) (N : Nat → Nat) : Nat := (PP.filter fun x => decide (N x.1 = N x.2)).length
theorem confTo_all {PP : List Pr} {n : Nat} (h : ∀ x ∈ PP, hi x < n) (N : Nat → Nat) : confTo PP N n = tog PP N := by
  unfold confTo tog
  congr 1
  exact List.filter_congr fun x hx => by simp [h x hx]
theorem filter_mono {α : Type} (p q : α → Bool) (l : List α) (h : ∀ x ∈ l, p x = true → q x = true) : (l.filter p).length ≤ (l.filter q).length := by
  induction l with
  | nil => exact Nat.le_refl _
  | cons x l ih =>
    have ih := ih fun y hy => h y (by simp [hy])
    cases hp : p x with
    | true => simp only [List.filter_cons, hp, h x (by simp) hp, if_true, List.length_cons]; omega
    | false =>
      cases hq : q x <;> simp only [List.filter_cons, hp, hq, Bool.false_eq_true, if_false, if_true, List.length_cons] <;> omega
theorem confTo_le {PP : List Pr} {N N' : Nat → Nat} {i : Nat} (h : ∀ t, t < i → N t = N' t) : confTo PP N i ≤ tog PP N' := by
  refine filter_mono _ _ _ fun x _ hx => ?_
  simp only [Bool.and_eq_true, decide_eq_true_eq] at hx ⊢
  unfold hi at hx
  rw [← h x.1 (by omega), ← h x.2 (by omega)]
  exact hx.2
theorem tog_le (PP : List Pr) (N : Nat → Nat) : tog PP N ≤ PP.length := List.length_filter_le _ _
theorem confTo_le' (PP : List Pr) (N : Nat → Nat) (i : Nat) : confTo PP N i ≤ PP.length := List.length_filter_le _ _
theorem confIn_le (PP : List Pr) (N : Nat → Nat) (i k : Nat) : confIn PP N i k ≤ PP.length := List.length_filter_le _ _
theorem M_le (PP : List Pr) (i k : Nat) : M PP i k ≤ PP.length := List.length_filter_le _ _
def up (f : Nat → Int) (i : Nat) (x : Int) : Nat → Int := fun t => if t = i then x else f t
/-- the rest of an assignment fits -/
def Feas (S : Nat → Int) (C : Int) (K : Nat) : Nat → (Nat → Int) → List Nat → Prop
  | _, _, [] => True
  | i, U, b :: A => b < K ∧ U b + S i ≤ C ∧ Feas S C K (i + 1) (up U b (U b + S i)) A
theorem Feas.congr {S : Nat → Int} {C : Int} {K : Nat} : ∀ {A : List Nat} {i : Nat} {U U' : Nat → Int}, (∀ t, t < K → U t = U' t) → Feas S C K i U A → Feas S C K i U' A
  | [], _, _, _, _, _ => trivial
  | b :: A, i, U, U', h, ⟨h1, h2, h3⟩ => ⟨h1, by rw [← h b h1]; exact h2, Feas.congr (fun t ht => by unfold up; by_cases e : t = b <;> simp [e, h b h1, h t ht]) h3⟩
def asn (N : List Nat) : Nat → Nat := fun t => N.getD t 0
/-- what a search behind some first banks comes to -/
structure Res (PP : List Pr) (S : Nat → Int) (C : Int) (K n : Nat) (N : List Nat) (U : Nat → Int) (B : Nat) (l l' : Int) (b b' : List Nat) : Prop where
  low : ∀ A, A.length + N.length = n → Feas S C K N.length U A → (∀ c, A.head? = some c → c < B) → 0 ≤ l' ∧ l' ≤ (tog PP (asn (N ++ A)) : Int)
  le : 0 ≤ l → 0 ≤ l' ∧ l' ≤ l
  neg : -1 ≤ l'
  same : (l' = l ∧ b' = b) ∨ ∃ A, A.length + N.length = n ∧ Feas S C K N.length U A ∧ l' = (tog PP (asn (N ++ A)) : Int) ∧ b' = N ++ A
theorem Res.stop {PP : List Pr} {S : Nat → Int} {C : Int} {K n : Nat} {N : List Nat} {U : Nat → Int} {B : Nat} {l : Int} {b : List Nat} (h0 : 0 ≤ l) (h : l ≤ (confTo PP (asn N) N.length : Int)) : Res PP S C K n N U B l l b b := by
  refine ⟨fun A _ _ _ => ⟨h0, ?_⟩, fun h => ⟨h, Int.le_refl _⟩, by omega, .inl ⟨rfl, rfl⟩⟩
  have := confTo_le (PP := PP) (N := asn N) (N' := asn (N ++ A)) (i := N.length) fun t ht => by simp [asn, List.getD, List.getElem?_append_left ht]
  omega
theorem Res.start {PP : List Pr} {S : Nat → Int} {C : Int} {K n : Nat} {N : List Nat} {U : Nat → Int} {l : Int} {b : List Nat} (hl : -1 ≤ l) (h : N.length < n) : Res PP S C K n N U 0 l l b b :=
  ⟨fun A h1 _ h2 => by
    cases A with
    | nil => simp at h1; omega
    | cons c A => have := h2 c rfl; omega, fun h => ⟨h, Int.le_refl _⟩, hl, .inl ⟨rfl, rfl⟩⟩
theorem Res.over {PP : List Pr} {S : Nat → Int} {C : Int} {K n : Nat} {N : List Nat} {U : Nat → Int} {B : Nat} {l l' : Int} {b b' : List Nat} (R : Res PP S C K n N U B l l' b b') (h : C < U B + S N.length) : Res PP S C K n N U (B + 1) l l' b b' :=
  ⟨fun A h1 h2 h3 => R.low A h1 h2 fun c hc => by
    have := h3 c hc
    cases A with
    | nil => cases hc
    | cons d A =>
      simp only [List.head?_cons, Option.some.injEq] at hc
      subst hc
      obtain ⟨_, q, _⟩ := h2
      by_cases e : d = B
      · subst e; omega
      · omega, R.le, R.neg, R.same⟩
theorem Res.next {PP : List Pr} {S : Nat → Int} {C : Int} {K n : Nat} {N : List Nat} {U U' : Nat → Int} {B : Nat} {l l' l2 : Int} {b b' b2 : List Nat} (R : Res PP S C K n N U B l l' b b') (hB : B < K) (h : U B + S N.length ≤ C)
    (hU : ∀ t, t < K → U' t = up U B (U B + S N.length) t) (R2 : Res PP S C K n (N ++ [B]) U' K l' l2 b' b2) : Res PP S C K n N U (B + 1) l l2 b b2 := by
  have hlen : (N ++ [B]).length = N.length + 1 := by simp
  refine ⟨fun A h1 h2 h3 => ?_, fun h0 => ?_, R2.neg, ?_⟩
  · cases A with
    | nil =>
      have := R.low [] h1 h2 (by simp)
      have h4 := R2.le this.1
      exact ⟨h4.1, Int.le_trans h4.2 this.2⟩
    | cons d A =>
      by_cases e : d = B
      · subst e
        obtain ⟨_, _, q⟩ := h2
        have := R2.low A (by rw [hlen]; simp at h1; omega) (by rw [hlen]; exact q.congr fun t ht => (hU t ht).symm) (fun c hc => by
          cases A with
          | nil => cases hc
          | cons f A => simp only [List.head?_cons, Option.some.injEq] at hc; subst hc; exact q.1)
        simpa using this
      · have h4 := R.low (d :: A) h1 h2 fun c hc => by have := h3 c hc; simp only [List.head?_cons, Option.some.injEq] at hc; omega
        have h5 := R2.le h4.1
        exact ⟨h5.1, Int.le_trans h5.2 h4.2⟩
  · have h4 := R.le h0
    have h5 := R2.le h4.1
    exact ⟨h5.1, Int.le_trans h5.2 h4.2⟩
  · rcases R2.same with ⟨e1, e2⟩ | ⟨A, h1, h2, h3, h4⟩
    · rw [e1, e2]; exact R.same
    · refine .inr ⟨B :: A, by rw [hlen] at h1; simp; omega, ⟨hB, h, ?_⟩, by simpa using h3, by simpa using h4⟩
      rw [hlen] at h2
      exact h2.congr hU
theorem Res.full {PP : List Pr} {S : Nat → Int} {C : Int} {K n : Nat} {N : List Nat} {U : Nat → Int} {l l' : Int} {b b' : List Nat} (R : Res PP S C K n N U K l l' b b') : ∀ B, Res PP S C K n N U B l l' b b' := fun B =>
  ⟨fun A h1 h2 _ => R.low A h1 h2 fun c hc => by
    cases A with
    | nil => cases hc
    | cons d A => simp only [List.head?_cons, Option.some.injEq] at hc; subst hc; exact h2.1, R.le, R.neg, R.same⟩
theorem Res.done {PP : List Pr} {S : Nat → Int} {C : Int} {K n : Nat} {N : List Nat} {U : Nat → Int} {B : Nat} {l : Int} {b : List Nat} (hn : N.length = n) (hl : l < 0 ∨ (tog PP (asn N) : Int) < l) : Res PP S C K n N U B l (tog PP (asn N)) b N := by
  refine ⟨fun A h _ _ => ?_, fun h => ⟨by omega, by omega⟩, by omega, .inr ⟨[], by simpa using hn, trivial, by simp, by simp⟩⟩
  have : A = [] := List.eq_nil_of_length_eq_zero (by omega)
  subst this
  simp only [List.append_nil]
  exact ⟨by omega, Int.le_refl _⟩
end Go.PackLaw
