/- Colours handed out in the order of beginnings, each the least that is free: they part whatever meets, and there are as few as the greatest crowd. Plain lists and numbers; no program in sight. -/
namespace Go.Greedy
theorem length_le_of_sub {α : Type} [DecidableEq α] : ∀ {l m : List α}, l.Nodup → (∀ x ∈ l, x ∈ m) → l.length ≤ m.length
  | [], _, _, _ => Nat.zero_le _
  | x :: l, m, hn, hs => by
    have hx : x ∈ m := hs x (by simp)
    rw [List.nodup_cons] at hn
    have h := length_le_of_sub (l := l) (m := m.erase x) hn.2 fun y hy => by
      have hne : y ≠ x := fun e => hn.1 (e ▸ hy)
      exact (List.mem_erase_of_ne hne).2 (hs y (by simp [hy]))
    rw [List.length_erase_of_mem hx] at h
    have := List.length_pos_of_mem hx
    simp only [List.length_cons]
    omega
/-- in a list of those done, the last first -/
inductive Good (F T : Nat → Int) (out : Nat → Nat) : List Nat → Prop
  | nil : Good F T out []
  | cons {i : Nat} {l : List Nat} (h : Good F T out l) (apart : ∀ j ∈ l, F i ≤ T j → out j ≠ out i) (least : ∀ c, c < out i → ∃ j ∈ l, out j = c ∧ F i ≤ T j) (first : ∀ j ∈ l, F j ≤ F i) : Good F T out (i :: l)
/-- how many of the first n hold the beginning of a -/
def cnt (F T : Nat → Int) (n a : Nat) : Nat := ((List.range n).filter fun b => decide (F b ≤ F a) && decide (F a ≤ T b)).length
/-- what the crowd is -/
structure Crowd (F T : Nat → Int) (n crowd : Nat) : Prop where
  le : ∀ a, a < n → cnt F T n a ≤ crowd
  hit : crowd = 0 ∨ ∃ a, a < n ∧ crowd = cnt F T n a
theorem taken {F T : Nat → Int} {out : Nat → Nat} {n i m : Nat} {l : List Nat} (hl : l.Nodup) (hi : i ∉ l) (hin : i < n) (hsub : ∀ j ∈ l, j < n) (hv : F i ≤ T i) (hfirst : ∀ j ∈ l, F j ≤ F i)
    (h : ∀ c, c < m → ∃ j ∈ l, out j = c ∧ F i ≤ T j) : m < cnt F T n i := by
  have h1 : m ≤ (l.filter fun j => decide (F i ≤ T j)).length := by
    have := length_le_of_sub (l := List.range m) (m := (l.filter fun j => decide (F i ≤ T j)).map out) List.nodup_range fun c hc => by
      obtain ⟨j, hj, e, ht⟩ := h c (List.mem_range.1 hc)
      exact List.mem_map.2 ⟨j, List.mem_filter.2 ⟨hj, by simpa using ht⟩, e⟩
    simpa using this
  have h2 : (i :: l.filter fun j => decide (F i ≤ T j)).length ≤ cnt F T n i := by
    refine length_le_of_sub (List.nodup_cons.2 ⟨fun hm => hi (List.mem_filter.1 hm).1, hl.filter _⟩) fun x hx => ?_
    rcases List.mem_cons.1 hx with rfl | hx
    · exact List.mem_filter.2 ⟨List.mem_range.2 hin, by simp [hv]⟩
    · obtain ⟨hx, ht⟩ := List.mem_filter.1 hx
      exact List.mem_filter.2 ⟨List.mem_range.2 (hsub x hx), by simp only [Bool.and_eq_true, decide_eq_true_eq] at ht ⊢; exact ⟨hfirst x hx, ht⟩⟩
  simp only [List.length_cons] at h2
  omega
theorem Good.lt {F T : Nat → Int} {out : Nat → Nat} {n : Nat} (hv : ∀ i, i < n → F i ≤ T i) : ∀ {l : List Nat}, Good F T out l → l.Nodup → (∀ j ∈ l, j < n) → ∀ i ∈ l, out i < cnt F T n i
  | _, .nil, _, _, i, hi => by cases hi
  | _, .cons (i := i0) (l := l) h ha hl hf, hn, hs, i, hi => by
    rw [List.nodup_cons] at hn
    rcases List.mem_cons.1 hi with rfl | hi
    · exact taken hn.2 hn.1 (hs _ (by simp)) (fun j hj => hs j (by simp [hj])) (hv _ (hs _ (by simp))) hf hl
    · exact Good.lt hv h hn.2 (fun j hj => hs j (by simp [hj])) i hi
theorem Good.apart {F T : Nat → Int} {out : Nat → Nat} : ∀ {l : List Nat}, Good F T out l → ∀ i ∈ l, ∀ j ∈ l, i ≠ j → F i ≤ T j → F j ≤ T i → out i ≠ out j
  | _, .nil, i, hi, _, _, _, _, _ => by cases hi
  | _, .cons (i := i0) (l := l) h ha hl hf, i, hi, j, hj, hne, h1, h2 => by
    rcases List.mem_cons.1 hi with e1 | hi'
    · rcases List.mem_cons.1 hj with e2 | hj'
      · exact absurd (e1.trans e2.symm) hne
      · subst e1; exact fun e => ha j hj' h1 e.symm
    · rcases List.mem_cons.1 hj with e2 | hj'
      · subst e2; exact ha i hi' h2
      · exact Good.apart h i hi' j hj' hne h1 h2
theorem Good.crowd {F T : Nat → Int} {out : Nat → Nat} {n crowd count : Nat} {l : List Nat} (h : Good F T out l) (hl : ∀ i, i < n → i ∈ l) (hc : Crowd F T n crowd) (hlt : ∀ i, i < n → out i < count) : crowd ≤ count := by
  rcases hc.hit with h0 | ⟨a, ha, rfl⟩
  · omega
  · unfold cnt
    have := length_le_of_sub (l := ((List.range n).filter fun b => decide (F b ≤ F a) && decide (F a ≤ T b)).map out) (m := List.range count) ?_ ?_
    · simpa using this
    · refine List.pairwise_map.2 (List.Pairwise.imp_of_mem ?_ (List.nodup_range.filter _))
      intro x y hx hy hne
      simp only [List.mem_filter, List.mem_range, Bool.and_eq_true, decide_eq_true_eq] at hx hy
      exact h.apart x (hl x hx.1) y (hl y hy.1) hne (by omega) (by omega)
    · intro c hc
      obtain ⟨b, hb, rfl⟩ := List.mem_map.1 hc
      simp only [List.mem_filter, List.mem_range] at hb
      exact List.mem_range.2 (hlt b hb.1)
theorem Good.congr {F T : Nat → Int} {out out' : Nat → Nat} : ∀ {l : List Nat}, Good F T out l → (∀ j ∈ l, out j = out' j) → Good F T out' l
  | _, .nil, _ => .nil
  | _, .cons (i := i0) (l := l) h ha hl hf, he => by
    have e0 : out i0 = out' i0 := he i0 (by simp)
    have el : ∀ j ∈ l, out j = out' j := fun j hj => he j (by simp [hj])
    refine .cons (Good.congr h el) (fun j hj ht => ?_) (fun c hc => ?_) hf
    · rw [← e0, ← el j hj]; exact ha j hj ht
    · obtain ⟨j, hj, h1, h2⟩ := hl c (by rw [e0]; exact hc)
      exact ⟨j, hj, by rw [← el j hj]; exact h1, h2⟩
theorem take_next {σ : List Nat} {k : Nat} (h : k < σ.length) : σ.take (k + 1) = σ.take k ++ [σ.getD k 0] := by
  rw [List.take_add_one]
  simp [List.getD, h]
theorem notin_take {σ : List Nat} {k : Nat} (hn : σ.Nodup) (h : k < σ.length) : σ.getD k 0 ∉ σ.take k := by
  have h1 : (σ.take (k + 1)).Nodup := hn.sublist (List.take_sublist _ _)
  rw [take_next h, List.nodup_append] at h1
  intro hm
  exact h1.2.2 _ hm _ (by simp) rfl
theorem first_take {σ : List Nat} {k : Nat} {R : Nat → Nat → Prop} (hn : σ.Pairwise R) (h : k < σ.length) : ∀ j ∈ σ.take k, R j (σ.getD k 0) := by
  have h1 : (σ.take (k + 1)).Pairwise R := hn.sublist (List.take_sublist _ _)
  rw [take_next h, List.pairwise_append] at h1
  exact fun j hj => h1.2.2 j hj _ (by simp)
theorem mem_take_of {σ : List Nat} {k t : Nat} (ht : t < k) (h : k ≤ σ.length) : σ.getD t 0 ∈ σ.take k := by
  have h1 : t < σ.length := by omega
  have e : σ.getD t 0 = σ[t] := by simp [List.getD, h1]
  rw [e]
  exact List.mem_take_iff_getElem.2 ⟨t, by omega, rfl⟩
theorem of_mem_take {σ : List Nat} {k j : Nat} (hj : j ∈ σ.take k) : ∃ t, t < k ∧ t < σ.length ∧ σ.getD t 0 = j := by
  obtain ⟨t, h1, rfl⟩ := List.mem_take_iff_getElem.1 hj
  have h2 : t < σ.length := by omega
  exact ⟨t, by omega, h2, by simp [List.getD, h2]⟩
/-- one step of the colouring -/
theorem good_step {F T : Nat → Int} {out : Nat → Nat} {σ : List Nat} {k c : Nat} (hn : σ.Nodup) (hp : σ.Pairwise fun a b => F a ≤ F b) (h : k < σ.length) (hg : Good F T out (σ.take k).reverse)
    (least : ∀ c', c' < c → ∃ j ∈ (σ.take k).reverse, out j = c' ∧ F (σ.getD k 0) ≤ T j) (free : ∀ t, t < k → ¬ (out (σ.getD t 0) = c ∧ F (σ.getD k 0) ≤ T (σ.getD t 0))) :
    Good F T (fun t => if t = σ.getD k 0 then c else out t) (σ.take (k + 1)).reverse := by
  have hni := notin_take hn h
  have hne : ∀ j ∈ (σ.take k).reverse, ¬ j = σ.getD k 0 := fun j hj e => hni (by rw [← e]; simpa using hj)
  rw [take_next h, List.reverse_append]
  simp only [List.reverse_cons, List.reverse_nil, List.nil_append, List.singleton_append]
  refine .cons (hg.congr fun j hj => by rw [if_neg (hne j hj)]) (fun j hj ht => ?_) (fun c' hc' => ?_) (fun j hj => ?_)
  · rw [if_neg (hne j hj), if_pos rfl]
    obtain ⟨t, h1, _, rfl⟩ := of_mem_take (List.mem_reverse.1 hj)
    exact fun e => free t h1 ⟨e, ht⟩
  · rw [if_pos rfl] at hc'
    obtain ⟨j, hj, h1, h2⟩ := least c' hc'
    exact ⟨j, hj, by rw [if_neg (hne j hj)]; exact h1, h2⟩
  · exact first_take hp h j (List.mem_reverse.1 hj)
/-- what has been tried is below the crowd at that place -/
theorem tried {F T : Nat → Int} {out : Nat → Nat} {n : Nat} {σ : List Nat} {k c : Nat} (hperm : σ.Perm (List.range n)) (hp : σ.Pairwise fun a b => F a ≤ F b) (h : k < n) (hv : ∀ j, j < n → F j ≤ T j)
    (least : ∀ c', c' < c → ∃ j ∈ (σ.take k).reverse, out j = c' ∧ F (σ.getD k 0) ≤ T j) : σ.getD k 0 < n ∧ c < cnt F T n (σ.getD k 0) := by
  have hlen : σ.length = n := by simpa using hperm.length_eq
  have hn : σ.Nodup := hperm.nodup_iff.2 List.nodup_range
  have hk : k < σ.length := by omega
  have hin : σ.getD k 0 < n := by
    have : σ.getD k 0 ∈ σ := by simp [List.getD, hk]
    exact List.mem_range.1 (hperm.mem_iff.1 this)
  refine ⟨hin, taken (l := (σ.take k).reverse) (out := out) ?_ ?_ hin ?_ (hv _ hin) ?_ least⟩
  · rw [List.Nodup, List.pairwise_reverse]
    exact (hn.sublist (List.take_sublist _ _)).imp fun h e => h e.symm
  · intro hm; exact notin_take hn hk (List.mem_reverse.1 hm)
  · intro j hj
    exact List.mem_range.1 (hperm.mem_iff.1 (List.mem_of_mem_take (List.mem_reverse.1 hj)))
  · intro j hj
    exact first_take hp hk j (List.mem_reverse.1 hj)
end Go.Greedy
