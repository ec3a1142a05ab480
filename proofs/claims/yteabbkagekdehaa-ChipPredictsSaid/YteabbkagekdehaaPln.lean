/- Colours handed out in the order of beginnings, each the least that is free: they part whatever meets, and there are as few as the greatest crowd. Plain lists and numbers; no program in sight. -/
section
namespace Go.Greedy
theorem length_le_of_sub {α : Type} [DecidableEq α] : ∀ {l m : List α}, l.Nodup → (∀ x ∈ l, x ∈ m) → l.length ≤ m.length
  | [], _, _, _ => Nat.zero_le _
  | x :: l, m, hn, hs => by
    have hx : x ∈ m := hs x (by simp)
    rw [List.nodup_cons] at hn
    have h := length_le_of_sub (l := l) (m := m.erase x) hn.2 fun y hy => by
      have hne : y ≠ x := fun e => hn.1 (e ▸ hy)
      exact (List.mem_erase_of_ne hne).2 (hs y (by simp [hy]))
    rw [List.length_erase_of_mem hx] at h
    have := List.length_pos_of_mem hx
    simp only [List.length_cons]
    omega
/-- in a list of those done, the last first -/
inductive Good (F T : Nat → Int) (out : Nat → Nat) : List Nat → Prop
  | nil : Good F T out []
  | cons {i : Nat} {l : List Nat} (h : Good F T out l) (apart : ∀ j ∈ l, F i ≤ T j → out j ≠ out i) (least : ∀ c, c < out i → ∃ j ∈ l, out j = c ∧ F i ≤ T j) (first : ∀ j ∈ l, F j ≤ F i) : Good F T out (i :: l)
/-- how many of the first n hold the beginning of a -/
def cnt (F T : Nat → Int) (n a : Nat) : Nat := ((List.range n).filter fun b => decide (F b ≤ F a) && decide (F a ≤ T b)).length
/-- what the crowd is -/
structure Crowd (F T : Nat → Int) (n crowd : Nat) : Prop where
  le : ∀ a, a < n → cnt F T n a ≤ crowd
  hit : crowd = 0 ∨ ∃ a, a < n ∧ crowd = cnt F T n a
theorem taken {F T : Nat → Int} {out : Nat → Nat} {n i m : Nat} {l : List Nat} (hl : l.Nodup) (hi : i ∉ l) (hin : i < n) (hsub : ∀ j ∈ l, j < n) (hv : F i ≤ T i) (hfirst : ∀ j ∈ l, F j ≤ F i)
    (h : ∀ c, c < m → ∃ j ∈ l, out j = c ∧ F i ≤ T j) : m < cnt F T n i := by
  have h1 : m ≤ (l.filter fun j => decide (F i ≤ T j)).length := by
    have := length_le_of_sub (l := List.range m) (m := (l.filter fun j => decide (F i ≤ T j)).map out) List.nodup_range fun c hc => by
      obtain ⟨j, hj, e, ht⟩ := h c (List.mem_range.1 hc)
      exact List.mem_map.2 ⟨j, List.mem_filter.2 ⟨hj, by simpa using ht⟩, e⟩
    simpa using this
  have h2 : (i :: l.filter fun j => decide (F i ≤ T j)).length ≤ cnt F T n i := by
    refine length_le_of_sub (List.nodup_cons.2 ⟨fun hm => hi (List.mem_filter.1 hm).1, hl.filter _⟩) fun x hx => ?_
    rcases List.mem_cons.1 hx with rfl | hx
    · exact List.mem_filter.2 ⟨List.mem_range.2 hin, by simp [hv]⟩
    · obtain ⟨hx, ht⟩ := List.mem_filter.1 hx
      exact List.mem_filter.2 ⟨List.mem_range.2 (hsub x hx), by simp only [Bool.and_eq_true, decide_eq_true_eq] at ht ⊢; exact ⟨hfirst x hx, ht⟩⟩
  simp only [List.length_cons] at h2
  omega
theorem Good.lt {F T : Nat → Int} {out : Nat → Nat} {n : Nat} (hv : ∀ i, i < n → F i ≤ T i) : ∀ {l : List Nat}, Good F T out l → l.Nodup → (∀ j ∈ l, j < n) → ∀ i ∈ l, out i < cnt F T n i
  | _, .nil, _, _, i, hi => by cases hi
  | _, .cons (i := i0) (l := l) h ha hl hf, hn, hs, i, hi => by
    rw [List.nodup_cons] at hn
    rcases List.mem_cons.1 hi with rfl | hi
    · exact taken hn.2 hn.1 (hs _ (by simp)) (fun j hj => hs j (by simp [hj])) (hv _ (hs _ (by simp))) hf hl
    · exact Good.lt hv h hn.2 (fun j hj => hs j (by simp [hj])) i hi
theorem Good.apart {F T : Nat → Int} {out : Nat → Nat} : ∀ {l : List Nat}, Good F T out l → ∀ i ∈ l, ∀ j ∈ l, i ≠ j → F i ≤ T j → F j ≤ T i → out i ≠ out j
  | _, .nil, i, hi, _, _, _, _, _ => by cases hi
  | _, .cons (i := i0) (l := l) h ha hl hf, i, hi, j, hj, hne, h1, h2 => by
    rcases List.mem_cons.1 hi with e1 | hi'
    · rcases List.mem_cons.1 hj with e2 | hj'
      · exact absurd (e1.trans e2.symm) hne
      · subst e1; exact fun e => ha j hj' h1 e.symm
    · rcases List.mem_cons.1 hj with e2 | hj'
      · subst e2; exact ha i hi' h2
      · exact Good.apart h i hi' j hj' hne h1 h2
theorem Good.crowd {F T : Nat → Int} {out : Nat → Nat} {n crowd count : Nat} {l : List Nat} (h : Good F T out l) (hl : ∀ i, i < n → i ∈ l) (hc : Crowd F T n crowd) (hlt : ∀ i, i < n → out i < count) : crowd ≤ count := by
  rcases hc.hit with h0 | ⟨a, ha, rfl⟩
  · omega
  · unfold cnt
    have := length_le_of_sub (l := ((List.range n).filter fun b => decide (F b ≤ F a) && decide (F a ≤ T b)).map out) (m := List.range count) ?_ ?_
    · simpa using this
    · refine List.pairwise_map.2 (List.Pairwise.imp_of_mem ?_ (List.nodup_range.filter _))
      intro x y hx hy hne
      simp only [List.mem_filter, List.mem_range, Bool.and_eq_true, decide_eq_true_eq] at hx hy
      exact h.apart x (hl x hx.1) y (hl y hy.1) hne (by omega) (by omega)
    · intro c hc
      obtain ⟨b, hb, rfl⟩ := List.mem_map.1 hc
      simp only [List.mem_filter, List.mem_range] at hb
      exact List.mem_range.2 (hlt b hb.1)
theorem Good.congr {F T : Nat → Int} {out out' : Nat → Nat} : ∀ {l : List Nat}, Good F T out l → (∀ j ∈ l, out j = out' j) → Good F T out' l
  | _, .nil, _ => .nil
  | _, .cons (i := i0) (l := l) h ha hl hf, he => by
    have e0 : out i0 = out' i0 := he i0 (by simp)
    have el : ∀ j ∈ l, out j = out' j := fun j hj => he j (by simp [hj])
    refine .cons (Good.congr h el) (fun j hj ht => ?_) (fun c hc => ?_) hf
    · rw [← e0, ← el j hj]; exact ha j hj ht
    · obtain ⟨j, hj, h1, h2⟩ := hl c (by rw [e0]; exact hc)
      exact ⟨j, hj, by rw [← el j hj]; exact h1, h2⟩
theorem take_next {σ : List Nat} {k : Nat} (h : k < σ.length) : σ.take (k + 1) = σ.take k ++ [σ.getD k 0] := by
  rw [List.take_add_one]
  simp [List.getD, h]
theorem notin_take {σ : List Nat} {k : Nat} (hn : σ.Nodup) (h : k < σ.length) : σ.getD k 0 ∉ σ.take k := by
  have h1 : (σ.take (k + 1)).Nodup := hn.sublist (List.take_sublist _ _)
  rw [take_next h, List.nodup_append] at h1
  intro hm
  exact h1.2.2 _ hm _ (by simp) rfl
theorem first_take {σ : List Nat} {k : Nat} {R : Nat → Nat → Prop} (hn : σ.Pairwise R) (h : k < σ.length) : ∀ j ∈ σ.take k, R j (σ.getD k 0) := by
  have h1 : (σ.take (k + 1)).Pairwise R := hn.sublist (List.take_sublist _ _)
  rw [take_next h, List.pairwise_append] at h1
  exact fun j hj => h1.2.2 j hj _ (by simp)
theorem mem_take_of {σ : List Nat} {k t : Nat} (ht : t < k) (h : k ≤ σ.length) : σ.getD t 0 ∈ σ.take k := by
  have h1 : t < σ.length := by omega
  have e : σ.getD t 0 = σ[t] := by simp [List.getD, h1]
  rw [e]
  exact List.mem_take_iff_getElem.2 ⟨t, by omega, rfl⟩
theorem of_mem_take {σ : List Nat} {k j : Nat} (hj : j ∈ σ.take k) : ∃ t, t < k ∧ t < σ.length ∧ σ.getD t 0 = j := by
  obtain ⟨t, h1, rfl⟩ := List.mem_take_iff_getElem.1 hj
  have h2 : t < σ.length := by omega
  exact ⟨t, by omega, h2, by simp [List.getD, h2]⟩
/-- one step of the colouring -/
theorem good_step {F T : Nat → Int} {out : Nat → Nat} {σ : List Nat} {k c : Nat} (hn : σ.Nodup) (hp : σ.Pairwise fun a b => F a ≤ F b) (h : k < σ.length) (hg : Good F T out (σ.take k).reverse)
    (least : ∀ c', c' < c → ∃ j ∈ (σ.take k).reverse, out j = c' ∧ F (σ.getD k 0) ≤ T j) (free : ∀ t, t < k → ¬ (out (σ.getD t 0) = c ∧ F (σ.getD k 0) ≤ T (σ.getD t 0))) :
    Good F T (fun t => if t = σ.getD k 0 then c else out t) (σ.take (k + 1)).reverse := by
  have hni := notin_take hn h
  have hne : ∀ j ∈ (σ.take k).reverse, ¬ j = σ.getD k 0 := fun j hj e => hni (by rw [← e]; simpa using hj)
  rw [take_next h, List.reverse_append]
  simp only [List.reverse_cons, List.reverse_nil, List.nil_append, List.singleton_append]
  refine .cons (hg.congr fun j hj => by rw [if_neg (hne j hj)]) (fun j hj ht => ?_) (fun c' hc' => ?_) (fun j hj => ?_)
  · rw [if_neg (hne j hj), if_pos rfl]
    obtain ⟨t, h1, _, rfl⟩ := of_mem_take (List.mem_reverse.1 hj)
    exact fun e => free t h1 ⟨e, ht⟩
  · rw [if_pos rfl] at hc'
    obtain ⟨j, hj, h1, h2⟩ := least c' hc'
    exact ⟨j, hj, by rw [if_neg (hne j hj)]; exact h1, h2⟩
  · exact first_take hp h j (List.mem_reverse.1 hj)
/-- what has been tried is below the crowd at that place -/
theorem tried {F T : Nat → Int} {out : Nat → Nat} {n : Nat} {σ : List Nat} {k c : Nat} (hperm : σ.Perm (List.range n)) (hp : σ.Pairwise fun a b => F a ≤ F b) (h : k < n) (hv : ∀ j, j < n → F j ≤ T j)
    (least : ∀ c', c' < c → ∃ j ∈ (σ.take k).reverse, out j = c' ∧ F (σ.getD k 0) ≤ T j) : σ.getD k 0 < n ∧ c < cnt F T n (σ.getD k 0) := by
  have hlen : σ.length = n := by simpa using hperm.length_eq
  have hn : σ.Nodup := hperm.nodup_iff.2 List.nodup_range
  have hk : k < σ.length := by omega
  have hin : σ.getD k 0 < n := by
    have : σ.getD k 0 ∈ σ := by simp [List.getD, hk]
    exact List.mem_range.1 (hperm.mem_iff.1 this)
  refine ⟨hin, taken (l := (σ.take k).reverse) (out := out) ?_ ?_ hin ?_ (hv _ hin) ?_ least⟩
  · rw [List.Nodup, List.pairwise_reverse]
    exact (hn.sublist (List.take_sublist _ _)).imp fun h e => h e.symm
  · intro hm; exact notin_take hn hk (List.mem_reverse.1 hm)
  · intro j hj
    exact List.mem_range.1 (hperm.mem_iff.1 (List.mem_of_mem_take (List.mem_reverse.1 hj)))
  · intro j hj
    exact first_take hp hk j (List.mem_reverse.1 hj)
end Go.Greedy
end
section
/- Banks for sizes: counts of pairs, assignments that fit. Plain lists and numbers; no program in sight. -/
namespace Go.PackLaw
abbrev Pr := Nat × Nat
def hi (x : Pr) : Nat := max x.1 x.2
def lo (x : Pr) : Nat := min x.1 x.2
def M (PP : List Pr) (i k : Nat) : Nat := (PP.filter fun x => decide (hi x = i) && decide (lo x = k)).length
def confTo (PP : List Pr) (N : Nat → Nat) (i : Nat) : Nat := (PP.filter fun x => decide (hi x < i) && decide (N x.1 = N x.2)).length
def confIn (PP : List Pr) (N : Nat → Nat) (i k : Nat) : Nat := (PP.filter fun x => decide (hi x = i) && (decide (lo x < k) && decide (N x.1 = N x.2))).length
theorem count_add {α : Type} (p q r : α → Bool) : ∀ (l : List α), (∀ x ∈ l, (p x = true → q x = false ∧ r x = true) ∧ (q x = true → p x = false ∧ r x = true) ∧ (r x = true → p x = true ∨ q x = true)) → (l.filter r).length = (l.filter p).length + (l.filter q).length
  | [], _ => rfl
  | x :: l, h => by
    have ih := count_add p q r l fun y hy => h y (by simp [hy])
    obtain ⟨h1, h2, h3⟩ := h x (by simp)
    cases hp : p x with
    | true =>
      obtain ⟨a, b⟩ := h1 hp
      simp only [List.filter_cons, hp, a, b, if_true, Bool.false_eq_true, if_false, List.length_cons, ih]; omega
    | false =>
      cases hq : q x with
      | true =>
        obtain ⟨a, b⟩ := h2 hq
        simp only [List.filter_cons, hp, hq, b, if_true, Bool.false_eq_true, if_false, List.length_cons, ih]; omega
      | false =>
        have hr : r x = false := by
          cases hr : r x with
          | false => rfl
          | true => rcases h3 hr with h | h <;> simp_all
        simp only [List.filter_cons, hp, hq, hr, Bool.false_eq_true, if_false, ih]
theorem filter_none {α : Type} (p : α → Bool) (l : List α) (h : ∀ x ∈ l, p x = false) : (l.filter p).length = 0 := by
  rw [List.length_eq_zero_iff, List.filter_eq_nil_iff]
  intro x hx; rw [h x hx]; simp
theorem confIn_zero (PP : List Pr) (N : Nat → Nat) (i : Nat) : confIn PP N i 0 = 0 := filter_none _ _ fun x _ => by simp
theorem confTo_zero (PP : List Pr) (N : Nat → Nat) : confTo PP N 0 = 0 := filter_none _ _ fun x _ => by simp
theorem hilo {x : Pr} {i k : Nat} (h1 : hi x = i) (h2 : lo x = k) : (x.1 = i ∧ x.2 = k) ∨ (x.1 = k ∧ x.2 = i) := by
  unfold hi at h1; unfold lo at h2; omega
theorem confIn_yes {PP : List Pr} {N : Nat → Nat} {i k : Nat} (h : N i = N k) : confIn PP N i (k + 1) = confIn PP N i k + M PP i k := by
  refine count_add _ _ _ PP fun x _ => ⟨fun hp => ?_, fun hq => ?_, fun hr => ?_⟩
  · simp only [Bool.and_eq_true, decide_eq_true_eq, Bool.and_eq_false_iff, decide_eq_false_iff_not] at hp ⊢
    exact ⟨.inr (by omega), hp.1, by omega, hp.2.2⟩
  · simp only [Bool.and_eq_true, decide_eq_true_eq, Bool.and_eq_false_iff, decide_eq_false_iff_not] at hq ⊢
    refine ⟨.inr (.inl (by omega)), hq.1, by omega, ?_⟩
    rcases hilo hq.1 hq.2 with ⟨a, b⟩ | ⟨a, b⟩ <;> rw [a, b]
    · exact h
    · exact h.symm
  · simp only [Bool.and_eq_true, decide_eq_true_eq] at hr ⊢
    by_cases e : lo x < k
    · exact .inl ⟨hr.1, e, hr.2.2⟩
    · exact .inr ⟨hr.1, by omega⟩
theorem confIn_no {PP : List Pr} {N : Nat → Nat} {i k : Nat} (h : N i ≠ N k) : confIn PP N i (k + 1) = confIn PP N i k := by
  unfold confIn
  congr 1
  refine List.filter_congr fun x _ => ?_
  by_cases e : hi x = i
  · by_cases e2 : lo x = k
    · have hne : ¬ N x.1 = N x.2 := by
        rcases hilo e e2 with ⟨a, b⟩ | ⟨a, b⟩ <;> rw [a, b]
        · exact h
        · exact fun e => h e.symm
      simp [hne]
    · have : (lo x < k + 1) = (lo x < k) := by rw [eq_iff_iff]; omega
      simp [this]
  · simp [e]
theorem confTo_succ {PP : List Pr} (hp : ∀ x ∈ PP, x.1 ≠ x.2) (N : Nat → Nat) (i : Nat) : confTo PP N (i + 1) = confTo PP N i + confIn PP N i i := by
  refine count_add _ _ _ PP fun x hx => ⟨fun hp => ?_, fun hq => ?_, fun hr => ?_⟩
  · simp only [Bool.and_eq_true, decide_eq_true_eq, Bool.and_eq_false_iff, decide_eq_false_iff_not] at hp ⊢
    exact ⟨.inl (by omega), by omega, hp.2⟩
  · simp only [Bool.and_eq_true, decide_eq_true_eq, Bool.and_eq_false_iff, decide_eq_false_iff_not] at hq ⊢
    exact ⟨.inl (by omega), by omega, hq.2.2⟩
  · simp only [Bool.and_eq_true, decide_eq_true_eq] at hr ⊢
    by_cases e : hi x < i
    · exact .inl ⟨e, hr.2⟩
    · have := hp x hx
      exact .inr ⟨by omega, by unfold hi lo at *; omega, hr.2⟩
/-- the pairs together in an assignment -/
def tog (PP : List Pr) (N : Nat → Nat) : Nat := (PP.filter fun x => decide (N x.1 = N x.2)).length
theorem confTo_all {PP : List Pr} {n : Nat} (h : ∀ x ∈ PP, hi x < n) (N : Nat → Nat) : confTo PP N n = tog PP N := by
  unfold confTo tog
  congr 1
  exact List.filter_congr fun x hx => by simp [h x hx]
theorem filter_mono {α : Type} (p q : α → Bool) (l : List α) (h : ∀ x ∈ l, p x = true → q x = true) : (l.filter p).length ≤ (l.filter q).length := by
  induction l with
  | nil => exact Nat.le_refl _
  | cons x l ih =>
    have ih := ih fun y hy => h y (by simp [hy])
    cases hp : p x with
    | true => simp only [List.filter_cons, hp, h x (by simp) hp, if_true, List.length_cons]; omega
    | false =>
      cases hq : q x <;> simp only [List.filter_cons, hp, hq, Bool.false_eq_true, if_false, if_true, List.length_cons] <;> omega
theorem confTo_le {PP : List Pr} {N N' : Nat → Nat} {i : Nat} (h : ∀ t, t < i → N t = N' t) : confTo PP N i ≤ tog PP N' := by
  refine filter_mono _ _ _ fun x _ hx => ?_
  simp only [Bool.and_eq_true, decide_eq_true_eq] at hx ⊢
  unfold hi at hx
  rw [← h x.1 (by omega), ← h x.2 (by omega)]
  exact hx.2
theorem tog_le (PP : List Pr) (N : Nat → Nat) : tog PP N ≤ PP.length := List.length_filter_le _ _
theorem confTo_le' (PP : List Pr) (N : Nat → Nat) (i : Nat) : confTo PP N i ≤ PP.length := List.length_filter_le _ _
theorem confIn_le (PP : List Pr) (N : Nat → Nat) (i k : Nat) : confIn PP N i k ≤ PP.length := List.length_filter_le _ _
theorem M_le (PP : List Pr) (i k : Nat) : M PP i k ≤ PP.length := List.length_filter_le _ _
def up (f : Nat → Int) (i : Nat) (x : Int) : Nat → Int := fun t => if t = i then x else f t
/-- the rest of an assignment fits -/
def Feas (S : Nat → Int) (C : Int) (K : Nat) : Nat → (Nat → Int) → List Nat → Prop
  | _, _, [] => True
  | i, U, b :: A => b < K ∧ U b + S i ≤ C ∧ Feas S C K (i + 1) (up U b (U b + S i)) A
theorem Feas.congr {S : Nat → Int} {C : Int} {K : Nat} : ∀ {A : List Nat} {i : Nat} {U U' : Nat → Int}, (∀ t, t < K → U t = U' t) → Feas S C K i U A → Feas S C K i U' A
  | [], _, _, _, _, _ => trivial
  | b :: A, i, U, U', h, ⟨h1, h2, h3⟩ => ⟨h1, by rw [← h b h1]; exact h2, Feas.congr (fun t ht => by unfold up; by_cases e : t = b <;> simp [e, h b h1, h t ht]) h3⟩
def asn (N : List Nat) : Nat → Nat := fun t => N.getD t 0
/-- what a search behind some first banks comes to -/
structure Res (PP : List Pr) (S : Nat → Int) (C : Int) (K n : Nat) (N : List Nat) (U : Nat → Int) (B : Nat) (l l' : Int) (b b' : List Nat) : Prop where
  low : ∀ A, A.length + N.length = n → Feas S C K N.length U A → (∀ c, A.head? = some c → c < B) → 0 ≤ l' ∧ l' ≤ (tog PP (asn (N ++ A)) : Int)
  le : 0 ≤ l → 0 ≤ l' ∧ l' ≤ l
  neg : -1 ≤ l'
  same : (l' = l ∧ b' = b) ∨ ∃ A, A.length + N.length = n ∧ Feas S C K N.length U A ∧ l' = (tog PP (asn (N ++ A)) : Int) ∧ b' = N ++ A
theorem Res.stop {PP : List Pr} {S : Nat → Int} {C : Int} {K n : Nat} {N : List Nat} {U : Nat → Int} {B : Nat} {l : Int} {b : List Nat} (h0 : 0 ≤ l) (h : l ≤ (confTo PP (asn N) N.length : Int)) : Res PP S C K n N U B l l b b := by
  refine ⟨fun A _ _ _ => ⟨h0, ?_⟩, fun h => ⟨h, Int.le_refl _⟩, by omega, .inl ⟨rfl, rfl⟩⟩
  have := confTo_le (PP := PP) (N := asn N) (N' := asn (N ++ A)) (i := N.length) fun t ht => by simp [asn, List.getD, List.getElem?_append_left ht]
  omega
theorem Res.start {PP : List Pr} {S : Nat → Int} {C : Int} {K n : Nat} {N : List Nat} {U : Nat → Int} {l : Int} {b : List Nat} (hl : -1 ≤ l) (h : N.length < n) : Res PP S C K n N U 0 l l b b :=
  ⟨fun A h1 _ h2 => by
    cases A with
    | nil => simp at h1; omega
    | cons c A => have := h2 c rfl; omega, fun h => ⟨h, Int.le_refl _⟩, hl, .inl ⟨rfl, rfl⟩⟩
theorem Res.over {PP : List Pr} {S : Nat → Int} {C : Int} {K n : Nat} {N : List Nat} {U : Nat → Int} {B : Nat} {l l' : Int} {b b' : List Nat} (R : Res PP S C K n N U B l l' b b') (h : C < U B + S N.length) : Res PP S C K n N U (B + 1) l l' b b' :=
  ⟨fun A h1 h2 h3 => R.low A h1 h2 fun c hc => by
    have := h3 c hc
    cases A with
    | nil => cases hc
    | cons d A =>
      simp only [List.head?_cons, Option.some.injEq] at hc
      subst hc
      obtain ⟨_, q, _⟩ := h2
      by_cases e : d = B
      · subst e; omega
      · omega, R.le, R.neg, R.same⟩
theorem Res.next {PP : List Pr} {S : Nat → Int} {C : Int} {K n : Nat} {N : List Nat} {U U' : Nat → Int} {B : Nat} {l l' l2 : Int} {b b' b2 : List Nat} (R : Res PP S C K n N U B l l' b b') (hB : B < K) (h : U B + S N.length ≤ C)
    (hU : ∀ t, t < K → U' t = up U B (U B + S N.length) t) (R2 : Res PP S C K n (N ++ [B]) U' K l' l2 b' b2) : Res PP S C K n N U (B + 1) l l2 b b2 := by
  have hlen : (N ++ [B]).length = N.length + 1 := by simp
  refine ⟨fun A h1 h2 h3 => ?_, fun h0 => ?_, R2.neg, ?_⟩
  · cases A with
    | nil =>
      have := R.low [] h1 h2 (by simp)
      have h4 := R2.le this.1
      exact ⟨h4.1, Int.le_trans h4.2 this.2⟩
    | cons d A =>
      by_cases e : d = B
      · subst e
        obtain ⟨_, _, q⟩ := h2
        have := R2.low A (by rw [hlen]; simp at h1; omega) (by rw [hlen]; exact q.congr fun t ht => (hU t ht).symm) (fun c hc => by
          cases A with
          | nil => cases hc
          | cons f A => simp only [List.head?_cons, Option.some.injEq] at hc; subst hc; exact q.1)
        simpa using this
      · have h4 := R.low (d :: A) h1 h2 fun c hc => by have := h3 c hc; simp only [List.head?_cons, Option.some.injEq] at hc; omega
        have h5 := R2.le h4.1
        exact ⟨h5.1, Int.le_trans h5.2 h4.2⟩
  · have h4 := R.le h0
    have h5 := R2.le h4.1
    exact ⟨h5.1, Int.le_trans h5.2 h4.2⟩
  · rcases R2.same with ⟨e1, e2⟩ | ⟨A, h1, h2, h3, h4⟩
    · rw [e1, e2]; exact R.same
    · refine .inr ⟨B :: A, by rw [hlen] at h1; simp; omega, ⟨hB, h, ?_⟩, by simpa using h3, by simpa using h4⟩
      rw [hlen] at h2
      exact h2.congr hU
theorem Res.full {PP : List Pr} {S : Nat → Int} {C : Int} {K n : Nat} {N : List Nat} {U : Nat → Int} {l l' : Int} {b b' : List Nat} (R : Res PP S C K n N U K l l' b b') : ∀ B, Res PP S C K n N U B l l' b b' := fun B =>
  ⟨fun A h1 h2 _ => R.low A h1 h2 fun c hc => by
    cases A with
    | nil => cases hc
    | cons d A => simp only [List.head?_cons, Option.some.injEq] at hc; subst hc; exact h2.1, R.le, R.neg, R.same⟩
theorem Res.done {PP : List Pr} {S : Nat → Int} {C : Int} {K n : Nat} {N : List Nat} {U : Nat → Int} {B : Nat} {l : Int} {b : List Nat} (hn : N.length = n) (hl : l < 0 ∨ (tog PP (asn N) : Int) < l) : Res PP S C K n N U B l (tog PP (asn N)) b N := by
  refine ⟨fun A h _ _ => ?_, fun h => ⟨by omega, by omega⟩, by omega, .inr ⟨[], by simpa using hn, trivial, by simp, by simp⟩⟩
  have : A = [] := List.eq_nil_of_length_eq_zero (by omega)
  subst this
  simp only [List.append_nil]
  exact ⟨by omega, Int.le_refl _⟩
end Go.PackLaw
end
section
/- The plain law of loops in code: how many instructions are executed, reckoned in two ways. -/
set_option linter.unusedVariables false
namespace Go.Proofs.Yteabbkagekdehaa
/-- more than may be executed -/
def SX : Nat := 40000001
section
variable (n : Nat) (op M : Nat → Int)
/-- a block from a position to its end: how often an instruction is executed in it, for one turn -/
inductive Blk : Nat → Nat → Nat → Prop
  | stop {p : Nat} (h : p = n ∨ p < n ∧ op p = 4) : Blk p 0 p
  | plain {p c e : Nat} (h : p < n) (h4 : op p ≠ 4) (h3 : op p ≠ 3) (b : Blk (p + 1) c e) : Blk p (1 + c) e
  | loop {p b c e1 e m : Nat} (h : p < n) (h3 : op p = 3) (hm : M p = m) (h1 : m ≤ 1000000) (hb : Blk (p + 1) b e1) (he : e1 < n) (h4 : op e1 = 4) (hc : Blk (e1 + 1) c e) : Blk p (1 + m * (b + 1) + c) e
/-- the errors one by one, the loops that are open -/
def scan (err : Nat → Int) : Nat → Nat → Nat → Int ⊕ Nat
  | 0, _, o => .inr o
  | r + 1, i, o => if err i ≠ 0 then .inl (err i) else if op i = 4 then (if o = 0 then .inl 7 else scan err r (i + 1) (o - 1)) else if op i = 3 then (if 16 ≤ o then .inl 2 else scan err r (i + 1) (o + 1)) else scan err r (i + 1) o
/-- what 'turns' gives from a position on -/
def tl : Nat → Nat → List Nat → List Nat
  | 0, _, _ => []
  | _ + 1, _, [] => []
  | r + 1, i, t :: st => t :: (if op i = 3 then tl r (i + 1) (min (t * (M i).toNat) SX :: t :: st) else if op i = 4 then tl r (i + 1) st else tl r (i + 1) (t :: st))
variable {n op M}
theorem Blk.ge {p c e : Nat} (b : Blk n op M p c e) : p ≤ e ∧ e ≤ n := by
  induction b with
  | stop h => omega
  | plain => omega
  | loop => omega
theorem Blk.inv {q c e : Nat} (b : Blk n op M q c e) : (c = 0 ∧ q = e ∧ (q = n ∨ q < n ∧ op q = 4)) ∨ (∃ c', c = 1 + c' ∧ q < n ∧ op q ≠ 4 ∧ op q ≠ 3 ∧ Blk n op M (q + 1) c' e) ∨
    (∃ c' b' e1 m, c = 1 + m * (b' + 1) + c' ∧ q < n ∧ op q = 3 ∧ M q = m ∧ m ≤ 1000000 ∧ Blk n op M (q + 1) b' e1 ∧ e1 < n ∧ op e1 = 4 ∧ Blk n op M (e1 + 1) c' e) := by
  cases b with
  | stop h => exact .inl ⟨rfl, rfl, h⟩
  | plain h h4 h3 b => exact .inr (.inl ⟨_, rfl, h, h4, h3, b⟩)
  | loop h h3 hm h1 hb he h4 hc => exact .inr (.inr ⟨_, _, _, _, rfl, h, h3, hm, h1, hb, he, h4, hc⟩)
theorem scan_blk {err : Nat → Int} (hM : ∀ i, i < n → err i = 0 → op i = 3 → 0 ≤ M i ∧ M i ≤ 1000000) : ∀ (r i o : Nat), i + r = n → scan op err r i o = .inr 0 →
    ∃ c e, Blk n op M i c e ∧ (o = 0 → e = n) ∧ (0 < o → e < n ∧ op e = 4 ∧ scan op err (n - e - 1) (e + 1) (o - 1) = .inr 0) := by
  intro r
  induction r using Nat.strongRecOn with
  | ind r ih =>
    intro i o hi h
    cases r with
    | zero =>
      simp only [scan, Sum.inr.injEq] at h
      subst h
      exact ⟨0, i, .stop (.inl (by omega)), (fun _ => by omega), (fun h => by omega)⟩
    | succ r =>
      simp only [scan] at h
      by_cases he : err i = 0
      · simp only [he, ne_eq, not_true_eq_false, if_false] at h
        by_cases h4 : op i = 4
        · simp only [h4, if_true] at h
          by_cases ho : o = 0
          · simp [ho] at h
          · simp only [ho, if_false] at h
            exact ⟨0, i, .stop (.inr ⟨by omega, h4⟩), (fun h => absurd h ho), (fun _ => ⟨by omega, h4, by rw [show n - i - 1 = r by omega]; exact h⟩)⟩
        · simp only [h4, if_false] at h
          by_cases h3 : op i = 3
          · simp only [h3, if_true] at h
            by_cases ho : 16 ≤ o
            · simp [ho] at h
            · simp only [ho, if_false] at h
              obtain ⟨b, e1, B1, _, g1⟩ := ih r (by omega) (i + 1) (o + 1) (by omega) h
              obtain ⟨g2, g3, g4⟩ := g1 (by omega)
              have hge := B1.ge
              rw [show o + 1 - 1 = o by omega] at g4
              obtain ⟨c, e, B2, k1, k2⟩ := ih (n - e1 - 1) (by omega) (e1 + 1) o (by omega) g4
              obtain ⟨m0, m1⟩ := hM i (by omega) he h3
              exact ⟨_, e, .loop (m := (M i).toNat) (by omega) h3 (by omega) (by omega) B1 g2 g3 B2, k1, k2⟩
          · simp only [h3, if_false] at h
            obtain ⟨c, e, B, k1, k2⟩ := ih r (by omega) (i + 1) o (by omega) h
            exact ⟨_, e, .plain (by omega) h4 h3 B, k1, k2⟩
      · simp [he] at h
theorem sat_mul {x y S : Nat} (hy : 1 ≤ y) : min (min x S * y) S = min (x * y) S := by
  by_cases h : x ≤ S
  · rw [Nat.min_eq_left h]
  · rw [Nat.min_eq_right (by omega : S ≤ x), Nat.min_eq_right (Nat.le_mul_of_pos_right S hy), Nat.min_eq_right (Nat.le_trans (by omega : S ≤ x) (Nat.le_mul_of_pos_right x hy))]
theorem tl_blk {p c e : Nat} (b : Blk n op M p c e) : ∀ (t : Nat) (st : List Nat), ∃ pre, tl op M (n - p) p (t :: st) = pre ++ tl op M (n - e) e (t :: st) ∧ min pre.sum SX = min (t * c) SX ∧ pre.length = e - p := by
  induction b with
  | stop h => exact fun t st => ⟨[], rfl, by simp, by simp⟩
  | @plain p c e h h4 h3 b ih =>
    intro t st
    obtain ⟨pre, h1, h2, hl⟩ := ih t st
    have hge := b.ge
    refine ⟨t :: pre, ?_, ?_, by simp only [List.length_cons]; omega⟩
    · rw [show n - p = (n - (p + 1)) + 1 by omega]
      simp only [tl, h4, h3, if_false, List.cons_append]
      rw [h1]
    · rw [List.sum_cons, show t * (1 + c) = t + t * c by rw [Nat.mul_add, Nat.mul_one]]
      omega
  | @loop p b c e1 e m h h3 hm h1 hb he h4 hc ih1 ih2 =>
    intro t st
    obtain ⟨pb, g1, g2, gl⟩ := ih1 (min (t * m) SX) (t :: st)
    obtain ⟨pc, k1, k2, kl⟩ := ih2 t st
    have hge := hb.ge
    have hge2 := hc.ge
    refine ⟨t :: (pb ++ min (t * m) SX :: pc), ?_, ?_, by simp only [List.length_cons, List.length_append]; omega⟩
    · rw [show n - p = (n - (p + 1)) + 1 by omega]
      simp only [tl, h3, if_true, List.cons_append, hm, Int.toNat_natCast]
      rw [g1, show n - e1 = (n - (e1 + 1)) + 1 by omega]
      simp only [tl, h4, List.append_assoc, List.cons_append, if_true]
      rw [if_neg (by decide : ¬ (4 : Int) = 3), k1]
    · rw [List.sum_cons, List.sum_append, List.sum_cons]
      have q1 : min (min (t * m) SX * (b + 1)) SX = min (t * m * (b + 1)) SX := sat_mul (by omega)
      have q2 : t * (1 + m * (b + 1) + c) = t + t * m * (b + 1) + t * c := by rw [Nat.mul_add, Nat.mul_add, Nat.mul_one, Nat.mul_assoc]
      rw [q2]
      have q3 : min (t * m) SX * (b + 1) = min (t * m) SX * b + min (t * m) SX := by rw [Nat.mul_add, Nat.mul_one]
      rw [q3] at q1
      generalize t * m * (b + 1) = X at *
      generalize min (t * m) SX * b = Y at *
      omega
end
end Go.Proofs.Yteabbkagekdehaa
end
section
/- The plain law of clocks: the tree of a block, what it costs, where loops end. -/
set_option linter.unusedVariables false
namespace Go.Proofs.Yteabbkagekdehaa
/-- the instructions of a block as a tree -/
inductive CT where
  | stop
  | plain (i : Nat) (t : CT)
  | loop (i m e1 : Nat) (b t : CT)
def CT.cnt : CT → Nat
  | .stop => 0
  | .plain _ t => 1 + t.cnt
  | .loop _ m _ b t => 1 + m * (b.cnt + 1) + t.cnt
section
variable (n : Nat) (op M : Nat → Int)
inductive BT : Nat → CT → Nat → Prop
  | stop {p : Nat} (h : p = n ∨ p < n ∧ op p = 4) : BT p .stop p
  | plain {p e : Nat} {t : CT} (h : p < n) (h4 : op p ≠ 4) (h3 : op p ≠ 3) (b : BT (p + 1) t e) : BT p (.plain p t) e
  | loop {p e1 e m : Nat} {tb t : CT} (h : p < n) (h3 : op p = 3) (hm : M p = m) (h1 : m ≤ 1000000) (hb : BT (p + 1) tb e1) (he : e1 < n) (h4 : op e1 = 4) (hc : BT (e1 + 1) t e) : BT p (.loop p m e1 tb t) e
end
variable {n : Nat} {op M : Nat → Int}
theorem Blk.tree {p c e : Nat} (b : Blk n op M p c e) : ∃ t, BT n op M p t e ∧ t.cnt = c := by
  induction b with
  | stop h => exact ⟨.stop, .stop h, rfl⟩
  | plain h h4 h3 b ih =>
    obtain ⟨t, h1, h2⟩ := ih
    exact ⟨_, .plain h h4 h3 h1, by simp only [CT.cnt, h2]⟩
  | loop h h3 hm h1 hb he h4 hc ih1 ih2 =>
    obtain ⟨tb, b1, b2⟩ := ih1
    obtain ⟨t, c1, c2⟩ := ih2
    exact ⟨_, .loop h h3 hm h1 b1 he h4 c1, by simp only [CT.cnt, b2, c2]⟩
theorem BT.ge {p e : Nat} {t : CT} (b : BT n op M p t e) : p ≤ e ∧ e ≤ n := by
  induction b with
  | stop h => omega
  | plain => omega
  | loop => omega
/-- so many times -/
def iter {α : Type} : Nat → (α → α) → α → α
  | 0, _, a => a
  | k + 1, f, a => iter k f (f a)
section
variable (op : Nat → Int) (pr D Mn : Nat → Nat)
/-- the clock of the code: the cycles, and when each queue is ready -/
def stepC (i : Nat) (s : Nat × (Nat → Nat)) : Nat × (Nat → Nat) :=
  if op i = 18 then (max s.1 (s.2 (D i)) + pr i, fun q => if q = D i then max s.1 (s.2 (D i)) + pr i + 8 + Mn i else s.2 q)
  else if op i = 19 then (max (s.1 + pr i) (s.2 (D i)), s.2) else (s.1 + pr i, s.2)
def evC : CT → Nat × (Nat → Nat) → Nat × (Nat → Nat)
  | .stop, s => s
  | .plain i t, s => evC t (stepC op pr D Mn i s)
  | .loop i m _ b t, s => evC t (iter m (fun s => evC b (s.1 + 1, s.2)) (s.1 + pr i, s.2))
/-- the clock of the document: a queue that was waited for is forgotten -/
def waitR (q : Nat) (s : Nat × (Nat → Option Nat)) : Nat × (Nat → Option Nat) := (max s.1 ((s.2 q).getD 0), fun k => if k = q then none else s.2 k)
def stepR (i : Nat) (s : Nat × (Nat → Option Nat)) : Nat × (Nat → Option Nat) :=
  if op i = 18 then ((waitR (D i) s).1 + pr i, fun q => if q = D i then some ((waitR (D i) s).1 + pr i + 8 + Mn i) else (waitR (D i) s).2 q)
  else if op i = 19 then waitR (D i) (s.1 + pr i, s.2) else (s.1 + pr i, s.2)
def evR : CT → Nat × (Nat → Option Nat) → Nat × (Nat → Option Nat)
  | .stop, s => s
  | .plain i t, s => evR t (stepR op pr D Mn i s)
  | .loop i m _ b t, s => evR t (iter m (fun s => evR b (s.1 + 1, s.2)) (s.1 + pr i, s.2))
end
/-- the two clocks agree -/
def RelS (s : Nat × (Nat → Nat)) (s' : Nat × (Nat → Option Nat)) : Prop := s.1 = s'.1 ∧ ∀ q, s'.2 q = some (s.2 q) ∨ s'.2 q = none ∧ s.2 q ≤ s.1
theorem RelS.wait {s : Nat × (Nat → Nat)} {s' : Nat × (Nat → Option Nat)} (h : RelS s s') (q : Nat) : RelS (max s.1 (s.2 q), s.2) (waitR q s') := by
  obtain ⟨h1, h2⟩ := h
  refine ⟨?_, fun k => ?_⟩
  · show max s.1 (s.2 q) = max s'.1 ((s'.2 q).getD 0)
    rcases h2 q with e | ⟨e, l⟩
    · rw [e, h1]; rfl
    · rw [e]; simp only [Option.getD_none]; omega
  · show (if k = q then none else s'.2 k) = some (s.2 k) ∨ (if k = q then none else s'.2 k) = none ∧ s.2 k ≤ max s.1 (s.2 q)
    by_cases e : k = q
    · subst e; rw [if_pos rfl]; exact .inr ⟨rfl, Nat.le_max_right _ _⟩
    · rw [if_neg e]
      rcases h2 k with e2 | ⟨e2, l⟩
      · exact .inl e2
      · exact .inr ⟨e2, by omega⟩
theorem RelS.add {s : Nat × (Nat → Nat)} {s' : Nat × (Nat → Option Nat)} (h : RelS s s') (c : Nat) : RelS (s.1 + c, s.2) (s'.1 + c, s'.2) := by
  refine ⟨by show s.1 + c = s'.1 + c; rw [h.1], fun q => ?_⟩
  rcases h.2 q with e | ⟨e, l⟩
  · exact .inl e
  · exact .inr ⟨e, by show s.2 q ≤ s.1 + c; omega⟩
theorem RelS.step {pr D Mn : Nat → Nat} {s : Nat × (Nat → Nat)} {s' : Nat × (Nat → Option Nat)} (h : RelS s s') (i : Nat) : RelS (stepC op pr D Mn i s) (stepR op pr D Mn i s') := by
  unfold stepC stepR
  by_cases h18 : op i = 18
  · rw [if_pos h18, if_pos h18]
    have w := (h.wait (D i)).add (pr i)
    refine ⟨w.1, fun q => ?_⟩
    by_cases e : q = D i
    · subst e
      refine .inl ?_
      have := w.1
      simp only [if_true]
      simp only at this
      rw [← this]
    · simp only [if_neg e]
      exact w.2 q
  · rw [if_neg h18, if_neg h18]
    by_cases h19 : op i = 19
    · rw [if_pos h19, if_pos h19]
      exact (h.add (pr i)).wait (D i)
    · rw [if_neg h19, if_neg h19]
      exact h.add (pr i)
theorem iter_rel {α β : Type} {R : α → β → Prop} {f : α → α} {g : β → β} (h : ∀ a b, R a b → R (f a) (g b)) : ∀ (k : Nat) (a : α) (b : β), R a b → R (iter k f a) (iter k g b)
  | 0, _, _, r => r
  | k + 1, a, b, r => iter_rel h k _ _ (h a b r)
theorem RelS.ev {pr D Mn : Nat → Nat} : ∀ (t : CT) {s : Nat × (Nat → Nat)} {s' : Nat × (Nat → Option Nat)}, RelS s s' → RelS (evC op pr D Mn t s) (evR op pr D Mn t s')
  | .stop, _, _, h => h
  | .plain i t, _, _, h => RelS.ev t (h.step i)
  | .loop i m _ b t, _, _, h => RelS.ev t (iter_rel (fun _ _ r => RelS.ev b (r.add 1)) m _ _ (h.add (pr i)))
/-- how far a clock can be -/
def BdC (K : Nat) (s : Nat × (Nat → Nat)) : Prop := s.1 ≤ K ∧ ∀ q, s.2 q ≤ K
theorem BdC.mono {K K' : Nat} {s : Nat × (Nat → Nat)} (h : BdC K s) (hk : K ≤ K') : BdC K' s := ⟨Nat.le_trans h.1 hk, fun q => Nat.le_trans (h.2 q) hk⟩
theorem BdC.step {pr D Mn : Nat → Nat} {K : Nat} {s : Nat × (Nat → Nat)} (h : BdC K s) {i : Nat} (hp : pr i ≤ 20) (hm : op i = 18 → Mn i ≤ 4096) : BdC (K + 4125) (stepC op pr D Mn i s) := by
  obtain ⟨h1, h2⟩ := h
  have h3 := h2 (D i)
  unfold stepC
  by_cases h18 : op i = 18
  · rw [if_pos h18]
    have := hm h18
    refine ⟨by show max s.1 (s.2 (D i)) + pr i ≤ K + 4125; omega, fun q => ?_⟩
    show (if q = D i then max s.1 (s.2 (D i)) + pr i + 8 + Mn i else s.2 q) ≤ K + 4125
    by_cases e : q = D i
    · rw [if_pos e]; omega
    · rw [if_neg e]; have := h2 q; omega
  · rw [if_neg h18]
    by_cases h19 : op i = 19
    · rw [if_pos h19]
      exact ⟨by show max (s.1 + pr i) (s.2 (D i)) ≤ K + 4125; omega, fun q => by have := h2 q; show s.2 q ≤ _; omega⟩
    · rw [if_neg h19]
      exact ⟨by show s.1 + pr i ≤ K + 4125; omega, fun q => by have := h2 q; show s.2 q ≤ _; omega⟩
theorem BdC.add {K c : Nat} {s : Nat × (Nat → Nat)} (h : BdC K s) (hc : c ≤ 4125) : BdC (K + 4125) (s.1 + c, s.2) :=
  ⟨by have := h.1; show s.1 + c ≤ _; omega, fun q => by have := h.2 q; show s.2 q ≤ _; omega⟩
theorem iter_bd {f : Nat × (Nat → Nat) → Nat × (Nat → Nat)} {d : Nat} (h : ∀ K s, BdC K s → BdC (K + d) (f s)) : ∀ (k K : Nat) (s : Nat × (Nat → Nat)), BdC K s → BdC (K + k * d) (iter k f s)
  | 0, K, s, r => r.mono (by omega)
  | k + 1, K, s, r => (iter_bd h k _ _ (h K s r)).mono (by rw [Nat.succ_mul]; omega)
theorem BdC.ev {pr D Mn : Nat → Nat} {p e : Nat} {t : CT} (b : BT n op M p t e) (hp : ∀ i, i < n → pr i ≤ 20) (hm : ∀ i, i < n → op i = 18 → Mn i ≤ 4096) : ∀ {K : Nat} {s : Nat × (Nat → Nat)}, BdC K s → BdC (K + 4125 * t.cnt) (evC op pr D Mn t s) := by
  induction b with
  | stop h => intro K s r; exact r.mono (by omega)
  | plain h h4 h3 b ih =>
    intro K s r
    exact (ih (r.step (hp _ h) (hm _ h))).mono (by simp only [CT.cnt]; omega)
  | @loop p e1 e m tb t h h3 hm' h1 hb he h4 hc ih1 ih2 =>
    intro K s r
    have := hp _ h
    refine (ih2 (iter_bd (d := 4125 + 4125 * tb.cnt) (fun K s r => (ih1 (r.add (c := 1) (by omega))).mono (by omega)) m _ _ (r.add (c := pr p) (by omega)))).mono ?_
    simp only [CT.cnt]
    rw [show m * (4125 + 4125 * tb.cnt) = 4125 * (m * (tb.cnt + 1)) by rw [show 4125 + 4125 * tb.cnt = 4125 * (tb.cnt + 1) by omega, Nat.mul_left_comm]]
    omega
/-! ### Where loops end -/
def EndsOK : CT → (Nat → Nat) → Prop
  | .stop, _ => True
  | .plain _ t, f => EndsOK t f
  | .loop i _ e1 b t, f => f i = e1 ∧ EndsOK b f ∧ EndsOK t f
theorem EndsOK.congr {p e : Nat} {t : CT} (b : BT n op M p t e) : ∀ {f g : Nat → Nat}, (∀ k, p ≤ k → k < e → f k = g k) → EndsOK t f → EndsOK t g := by
  induction b with
  | stop h => intro f g _ _; exact trivial
  | plain h h4 h3 b ih => intro f g hfg h; exact ih (fun k h1 h2 => hfg k (by omega) h2) h
  | loop h h3 hm h1 hb he h4 hc ih1 ih2 =>
    intro f g hfg hh
    have g1 := hb.ge
    have g2 := hc.ge
    obtain ⟨a1, a2, a3⟩ := hh
    exact ⟨by rw [← hfg _ (Nat.le_refl _) (by omega)]; exact a1, ih1 (fun k h1 h2 => hfg k (by omega) (by omega)) a2, ih2 (fun k h1 h2 => hfg k (by omega) h2) a3⟩
/-- what 'loopEnds' does from a position on -/
def en (op : Nat → Int) : Nat → Nat → List Nat → (Nat → Nat) → Nat → Nat
  | 0, _, _, f => f
  | r + 1, i, st, f => if op i = 3 then en op r (i + 1) (i :: st) f else if op i = 4 then (match st with
    | [] => f
    | s :: st => en op r (i + 1) st (fun k => if k = s then i else f k)) else en op r (i + 1) st f
theorem en_BT {p e : Nat} {t : CT} (b : BT n op M p t e) : ∀ (st : List Nat) (f : Nat → Nat), ∃ f', en op (n - p) p st f = en op (n - e) e st f' ∧ EndsOK t f' ∧ ∀ k, k < p ∨ e ≤ k → f' k = f k := by
  induction b with
  | stop h => exact fun st f => ⟨f, rfl, trivial, fun _ _ => rfl⟩
  | @plain p e t h h4 h3 b ih =>
    intro st f
    obtain ⟨f', h1, h2, hk⟩ := ih st f
    refine ⟨f', ?_, h2, fun k hk' => hk k (by omega)⟩
    rw [show n - p = (n - (p + 1)) + 1 by omega]
    simp only [en, h3, h4, if_false]
    exact h1
  | @loop p e1 e m tb t h h3 hm h1 hb he h4 hc ih1 ih2 =>
    intro st f
    have g1 := hb.ge
    have g2 := hc.ge
    obtain ⟨f1, a1, a2, a3⟩ := ih1 (p :: st) f
    obtain ⟨f2, b1, b2, b3⟩ := ih2 st (fun k => if k = p then e1 else f1 k)
    refine ⟨f2, ?_, ⟨?_, ?_, b2⟩, fun k hk => ?_⟩
    · rw [show n - p = (n - (p + 1)) + 1 by omega]
      simp only [en, h3, if_true]
      rw [a1, show n - e1 = (n - (e1 + 1)) + 1 by omega]
      simp only [en, h4]
      rw [if_neg (by decide), if_pos trivial]
      exact b1
    · rw [b3 p (by omega), if_pos rfl]
    · exact EndsOK.congr hb (fun k h1 h2 => by rw [b3 k (by omega), if_neg (by omega)]) a2
    · rw [b3 k (by omega), if_neg (by omega), a3 k (by omega)]
end Go.Proofs.Yteabbkagekdehaa
end
section
/- The plain law of counts: how often each kind of instruction is executed. -/
set_option linter.unusedVariables false
namespace Go.Proofs.Yteabbkagekdehaa
/-- what 'counted' adds for a block that is executed so many times -/
def ctr (op : Nat → Int) : CT → Nat → Nat → Nat
  | .stop, _, _ => 0
  | .plain i t, T, k => (if op i = k then T else 0) + ctr op t T k
  | .loop i m _ b t, T, k => (if op i = k then T else 0) + ctr op b (T * m) k + (if k = 4 then T * m else 0) + ctr op t T k
/-- what 'Counts' adds up of the instructions from a position on -/
def sumK (op : Nat → Int) : Nat → List Nat → Nat → Nat
  | _, [], _ => 0
  | p, x :: l, k => (if op p = k then x else 0) + sumK op (p + 1) l k
theorem sumK_append (op : Nat → Int) (k : Nat) : ∀ (a b : List Nat) (p : Nat), sumK op p (a ++ b) k = sumK op p a k + sumK op (p + a.length) b k
  | [], b, p => by simp [sumK]
  | x :: a, b, p => by
    simp only [List.cons_append, sumK, List.length_cons]
    rw [sumK_append op k a b (p + 1), show p + 1 + a.length = p + (a.length + 1) by omega]
    omega
theorem sumK_le (op : Nat → Int) (k : Nat) : ∀ (l : List Nat) (p : Nat), sumK op p l k ≤ l.sum
  | [], p => by simp [sumK]
  | x :: l, p => by
    simp only [sumK, List.sum_cons]
    have := sumK_le op k l (p + 1)
    split <;> omega
variable {n : Nat} {op M : Nat → Int}
theorem tl_ctr {p e : Nat} {t : CT} (b : BT n op M p t e) : ∀ (T : Nat) (st : List Nat), T * t.cnt ≤ 40000000 → ∃ pre, tl op M (n - p) p (T :: st) = pre ++ tl op M (n - e) e (T :: st) ∧ pre.length = e - p ∧ ∀ k, sumK op p pre k = ctr op t T k := by
  induction b with
  | stop h => exact fun T st _ => ⟨[], rfl, by simp, fun k => rfl⟩
  | @plain p e t h h4 h3 b ih =>
    intro T st hT
    simp only [CT.cnt] at hT
    rw [Nat.mul_add, Nat.mul_one] at hT
    obtain ⟨pre, h1, hl, h2⟩ := ih T st (by omega)
    have hge := b.ge
    refine ⟨T :: pre, ?_, by simp only [List.length_cons]; omega, fun k => ?_⟩
    · rw [show n - p = (n - (p + 1)) + 1 by omega]
      simp only [tl, h4, h3, if_false, List.cons_append]
      rw [h1]
    · simp only [sumK, ctr, h2]
  | @loop p e1 e m tb t h h3 hm h1 hb he h4 hc ih1 ih2 =>
    intro T st hT
    simp only [CT.cnt] at hT
    have e1' : T * (1 + m * (tb.cnt + 1) + t.cnt) = T + T * m * (tb.cnt + 1) + T * t.cnt := by rw [Nat.mul_add, Nat.mul_add, Nat.mul_one, Nat.mul_assoc]
    rw [e1', Nat.mul_add, Nat.mul_one] at hT
    have hmin : min (T * m) SX = T * m := Nat.min_eq_left (by unfold SX; omega)
    obtain ⟨pb, g1, gl, g2⟩ := ih1 (T * m) (T :: st) (by omega)
    obtain ⟨pc, k1, kl, k2⟩ := ih2 T st (by omega)
    have hge := hb.ge
    have hge2 := hc.ge
    refine ⟨T :: (pb ++ (T * m) :: pc), ?_, by simp only [List.length_cons, List.length_append]; omega, fun k => ?_⟩
    · rw [show n - p = (n - (p + 1)) + 1 by omega]
      simp only [tl, h3, if_true, List.cons_append, hm, Int.toNat_natCast, hmin]
      rw [g1, show n - e1 = (n - (e1 + 1)) + 1 by omega]
      simp only [tl, h4, List.append_assoc, List.cons_append, if_true]
      rw [if_neg (by decide : ¬ (4 : Int) = 3), k1]
    · simp only [sumK, ctr]
      rw [sumK_append, g2, show p + 1 + pb.length = e1 by omega]
      simp only [sumK]
      rw [k2, h4]
      have e4 : (if (4 : Int) = (k : Int) then T * m else 0) = if k = 4 then T * m else 0 := by
        by_cases hk : k = 4
        · subst hk; rfl
        · rw [if_neg hk, if_neg (by omega)]
      rw [e4]
      generalize (if op p = (k : Int) then T else 0) = A
      generalize (if k = 4 then T * m else 0) = B
      omega
end Go.Proofs.Yteabbkagekdehaa
end
section
/- The document's clock, as the map reads: a queue that is forgotten reads 0. -/
set_option linter.unusedVariables false
namespace Go.Proofs.Yteabbkagekdehaa
section
variable (op : Nat → Int) (pr D Mn : Nat → Nat)
def waitG (q : Nat) (s : Nat × (Nat → Nat)) : Nat × (Nat → Nat) := (max s.1 (s.2 q), fun k => if k = q then 0 else s.2 k)
def stepG (i : Nat) (s : Nat × (Nat → Nat)) : Nat × (Nat → Nat) :=
  if op i = 18 then ((waitG (D i) s).1 + pr i, fun q => if q = D i then (waitG (D i) s).1 + pr i + 8 + Mn i else (waitG (D i) s).2 q)
  else if op i = 19 then waitG (D i) (s.1 + pr i, s.2) else (s.1 + pr i, s.2)
def evG : CT → Nat × (Nat → Nat) → Nat × (Nat → Nat)
  | .stop, s => s
  | .plain i t, s => evG t (stepG op pr D Mn i s)
  | .loop i m _ b t, s => evG t (iter m (fun s => evG b (s.1 + 1, s.2)) (s.1 + pr i, s.2))
end
variable {n : Nat} {op M : Nat → Int}
/-- the two clocks agree -/
def RelG (s s' : Nat × (Nat → Nat)) : Prop := s.1 = s'.1 ∧ ∀ q, s'.2 q = s.2 q ∨ s'.2 q = 0 ∧ s.2 q ≤ s.1
theorem RelG.wait {s s' : Nat × (Nat → Nat)} (h : RelG s s') (q : Nat) : RelG (max s.1 (s.2 q), s.2) (waitG q s') := by
  obtain ⟨h1, h2⟩ := h
  refine ⟨?_, fun k => ?_⟩
  · show max s.1 (s.2 q) = max s'.1 (s'.2 q)
    rcases h2 q with e | ⟨e, l⟩
    · rw [e, h1]
    · rw [e]; omega
  · show (if k = q then 0 else s'.2 k) = s.2 k ∨ (if k = q then 0 else s'.2 k) = 0 ∧ s.2 k ≤ max s.1 (s.2 q)
    by_cases e : k = q
    · subst e; rw [if_pos rfl]; exact .inr ⟨rfl, Nat.le_max_right _ _⟩
    · rw [if_neg e]
      rcases h2 k with e2 | ⟨e2, l⟩
      · exact .inl e2
      · exact .inr ⟨e2, by omega⟩
theorem RelG.add {s s' : Nat × (Nat → Nat)} (h : RelG s s') (c : Nat) : RelG (s.1 + c, s.2) (s'.1 + c, s'.2) := by
  refine ⟨by show s.1 + c = s'.1 + c; rw [h.1], fun q => ?_⟩
  rcases h.2 q with e | ⟨e, l⟩
  · exact .inl e
  · exact .inr ⟨e, by show s.2 q ≤ s.1 + c; omega⟩
theorem RelG.step {pr D Mn : Nat → Nat} {s s' : Nat × (Nat → Nat)} (h : RelG s s') (i : Nat) : RelG (stepC op pr D Mn i s) (stepG op pr D Mn i s') := by
  unfold stepC stepG
  by_cases h18 : op i = 18
  · rw [if_pos h18, if_pos h18]
    have w := (h.wait (D i)).add (pr i)
    refine ⟨w.1, fun q => ?_⟩
    by_cases e : q = D i
    · subst e
      refine .inl ?_
      have := w.1
      simp only [if_true]
      simp only at this
      rw [← this]
    · simp only [if_neg e]
      exact w.2 q
  · rw [if_neg h18, if_neg h18]
    by_cases h19 : op i = 19
    · rw [if_pos h19, if_pos h19]
      exact (h.add (pr i)).wait (D i)
    · rw [if_neg h19, if_neg h19]
      exact h.add (pr i)
theorem RelG.ev {pr D Mn : Nat → Nat} : ∀ (t : CT) {s s' : Nat × (Nat → Nat)}, RelG s s' → RelG (evC op pr D Mn t s) (evG op pr D Mn t s')
  | .stop, _, _, h => h
  | .plain i t, _, _, h => RelG.ev t (h.step i)
  | .loop i m _ b t, _, _, h => RelG.ev t (iter_rel (fun _ _ r => RelG.ev b (r.add 1)) m _ _ (h.add (pr i)))
theorem BdC.stepG {pr D Mn : Nat → Nat} {K : Nat} {s : Nat × (Nat → Nat)} (h : BdC K s) {i : Nat} (hp : pr i ≤ 20) (hm : op i = 18 → Mn i ≤ 4096) : BdC (K + 4125) (stepG op pr D Mn i s) := by
  obtain ⟨h1, h2⟩ := h
  have h3 := h2 (D i)
  unfold Go.Proofs.Yteabbkagekdehaa.stepG waitG
  by_cases h18 : op i = 18
  · rw [if_pos h18]
    have := hm h18
    refine ⟨by show max s.1 (s.2 (D i)) + pr i ≤ K + 4125; omega, fun q => ?_⟩
    show (if q = D i then max s.1 (s.2 (D i)) + pr i + 8 + Mn i else (if q = D i then 0 else s.2 q)) ≤ K + 4125
    by_cases e : q = D i
    · rw [if_pos e]; omega
    · rw [if_neg e, if_neg e]; have := h2 q; omega
  · rw [if_neg h18]
    by_cases h19 : op i = 19
    · rw [if_pos h19]
      refine ⟨by show max (s.1 + pr i) (s.2 (D i)) ≤ K + 4125; omega, fun q => ?_⟩
      show (if q = D i then 0 else s.2 q) ≤ K + 4125
      by_cases e : q = D i
      · rw [if_pos e]; omega
      · rw [if_neg e]; have := h2 q; omega
    · rw [if_neg h19]
      exact ⟨by show s.1 + pr i ≤ K + 4125; omega, fun q => by have := h2 q; show s.2 q ≤ _; omega⟩
theorem BdC.evG {pr D Mn : Nat → Nat} {p e : Nat} {t : CT} (b : BT n op M p t e) (hp : ∀ i, i < n → pr i ≤ 20) (hm : ∀ i, i < n → op i = 18 → Mn i ≤ 4096) : ∀ {K : Nat} {s : Nat × (Nat → Nat)}, BdC K s → BdC (K + 4125 * t.cnt) (evG op pr D Mn t s) := by
  induction b with
  | stop h => intro K s r; exact r.mono (by omega)
  | plain h h4 h3 b ih =>
    intro K s r
    exact (ih (r.stepG (hp _ h) (hm _ h))).mono (by simp only [CT.cnt]; omega)
  | @loop p e1 e m tb t h h3 hm' h1 hb he h4 hc ih1 ih2 =>
    intro K s r
    have := hp _ h
    refine (ih2 (iter_bd (d := 4125 + 4125 * tb.cnt) (fun K s r => (ih1 (r.add (c := 1) (by omega))).mono (by omega)) m _ _ (r.add (c := pr p) (by omega)))).mono ?_
    simp only [CT.cnt]
    rw [show m * (4125 + 4125 * tb.cnt) = 4125 * (m * (tb.cnt + 1)) by rw [show 4125 + 4125 * tb.cnt = 4125 * (tb.cnt + 1) by omega, Nat.mul_left_comm]]
    omega
/-- a Blk of a tree -/
theorem BT.blk {p e : Nat} {t : CT} (b : BT n op M p t e) : Blk n op M p t.cnt e := by
  induction b with
  | stop h => exact .stop h
  | plain h h4 h3 b ih => exact .plain h h4 h3 ih
  | loop h h3 hm h1 hb he h4 hc ih1 ih2 => exact .loop h h3 hm h1 ih1 he h4 ih2
end Go.Proofs.Yteabbkagekdehaa
end
