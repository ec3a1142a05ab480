/- The plain law of loops in code: how many instructions are executed, reckoned in two ways. -/
set_option linter.unusedVariables false
namespace Go.Proofs.Yteabbkagekdehaa
/-- more than may be executed -/
def SX : Nat := 40000001
section
variable (n : Nat) (op M : Nat → Int)
/-- a block from a position to its end: how often an instruction is executed in it, for one turn -/
inductive Blk : Nat → Nat → Nat → Prop
  | stop {p : Nat} (h : p = n ∨ p < n ∧ op p = 4) : Blk p 0 p
  | plain {p c e : Nat} (h : p < n) (h4 : op p ≠ 4) (h3 : op p ≠ 3) (b : Blk (p + 1) c e) : Blk p (1 + c) e
  | loop {p b c e1 e m : Nat} (h : p < n) (h3 : op p = 3) (hm : M p = m) (h1 : m ≤ 1000000) (hb : Blk (p + 1) b e1) (he : e1 < n) (h4 : op e1 = 4) (hc : Blk (e1 + 1) c e) : Blk p (1 + m * (b + 1) + c) e
/-- the errors one by one, the loops that are open -/
def scan (err : Nat → Int) : Nat → Nat → Nat → Int ⊕ Nat
  | 0, _, o => .inr o
  | r + 1, i, o => if err i ≠ 0 then .inl (err i) else if op i = 4 then (if o = 0 then .inl 7 else scan err r (i + 1) (o - 1)) else if op i = 3 then (if 16 ≤ o then .inl 2 else scan err r (i + 1) (o + 1)) else scan err r (i + 1) o
/-- what 'turns' gives from a position on -/
def tl : Nat → Nat → List Nat → List Nat
  | 0, _, _ => []
  | _ + 1, _, [] => []
  | r + 1, i, t :: st => t :: (if op i = 3 then tl r (i + 1) (min (t * (M i).toNat) SX :: t :: st) else if op i = 4 then tl r (i + 1) st else tl r (i + 1) (t :: st))
variable {n op M}
theorem Blk.ge {p c e : Nat} (b : Blk n op M p c e) : p ≤ e ∧ e ≤ n := by
  induction b with
  | stop h => omega
  | plain => omega
  | loop => omega
theorem Blk.inv {q c e : Nat} (b : Blk n op M q c e) : (c = 0 ∧ q = e ∧ (q = n ∨ q < n ∧ op q = 4)) ∨ (∃ c', c = 1 + c' ∧ q < n ∧ op q ≠ 4 ∧ op q ≠ 3 ∧ Blk n op M (q + 1) c' e) ∨
    (∃ c' b' e1 m, c = 1 + m * (b' + 1) + c' ∧ q < n ∧ op q = 3 ∧ M q = m ∧ m ≤ 1000000 ∧ Blk n op M (q + 1) b' e1 ∧ e1 < n ∧ op e1 = 4 ∧ Blk n op M (e1 + 1) c' e) := by
  cases b with
  | stop h => exact .inl ⟨rfl, rfl, h⟩
  | plain h h4 h3 b => exact .inr (.inl ⟨_, rfl, h, h4, h3, b⟩)
  | loop h h3 hm h1 hb he h4 hc => exact .inr (.inr ⟨_, _, _, _, rfl, h, h3, hm, h1, hb, he, h4, hc⟩)
theorem scan_blk {err : Nat → Int} (hM : ∀ i, i < n → err i = 0 → op i = 3 → 0 ≤ M i ∧ M i ≤ 1000000) : ∀ (r i o : Nat), i + r = n → scan op err r i o = .inr 0 →
    ∃ c e, Blk n op M i c e ∧ (o = 0 → e = n) ∧ (0 < o → e < n ∧ op e = 4 ∧ scan op err (n - e - 1) (e + 1) (o - 1) = .inr 0) := by
  intro r
  induction r using Nat.strongRecOn with
  | ind r ih =>
    intro i o hi h
    cases r with
    | zero =>
      simp only [scan, Sum.inr.injEq] at h
      subst h
      exact ⟨0, i, .stop (.inl (by omega)), (fun _ => by omega), (fun h => by omega)⟩
    | succ r =>
      simp only [scan] at h
      by_cases he : err i = 0
      · simp only [he, ne_eq, not_true_eq_false, if_false] at h
        by_cases h4 : op i = 4
        · simp only [h4, if_true] at h
          by_cases ho : o = 0
          · simp [ho] at h
          · simp only [ho, if_false] at h
            exact ⟨0, i, .stop (.inr ⟨by omega, h4⟩), (fun h => absurd h ho), (fun _ => ⟨by omega, h4, by rw [show n - i - 1 = r by omega]; exact h⟩)⟩
        · simp only [h4, if_false] at h
          by_cases h3 : op i = 3
          · simp only [h3, if_true] at h
            by_cases ho : 16 ≤ o
            · simp [ho] at h
            · simp only [ho, if_false] at h
              obtain ⟨b, e1, B1, _, g1⟩ := ih r (by omega) (i + 1) (o + 1) (by omega) h
              obtain ⟨g2, g3, g4⟩ := g1 (by omega)
              have hge := B1.ge
              rw [show o + 1 - 1 = o by omega] at g4
              obtain ⟨c, e, B2, k1, k2⟩ := ih (n - e1 - 1) (by omega) (e1 + 1) o (by omega) g4
              obtain ⟨m0, m1⟩ := hM i (by omega) he h3
              exact ⟨_, e, .loop (m := (M i).toNat) (by omega) h3 (by omega) (by omega) B1 g2 g3 B2, k1, k2⟩
          · simp only [h3, if_false] at h
            obtain ⟨c, e, B, k1, k2⟩ := ih r (by omega) (i + 1) o (by omega) h
            exact ⟨_, e, .plain (by omega) h4 h3 B, k1, k2⟩
      · simp [he] at h
theorem sat_mul {x y S : Nat} (hy : 1 ≤ y) : min (min x S * y) S = min (x * y) S := by
  by_cases h : x ≤ S
  · rw [Nat.min_eq_left h]
  · rw [Nat.min_eq_right (by omega : S ≤ x), Nat.min_eq_right (Nat.le_mul_of_pos_right S hy), Nat.min_eq_right (Nat.le_trans (by omega : S ≤ x) (Nat.le_mul_of_pos_right x hy))]
theorem tl_blk {p c e : Nat} (b : Blk n op M p c e) : ∀ (t : Nat) (st : List Nat), ∃ pre, tl op M (n - p) p (t :: st) = pre ++ tl op M (n - e) e (t :: st) ∧ min pre.sum SX = min (t * c) SX ∧ pre.length = e - p := by
  induction b with
  | stop h => exact fun t st => ⟨[], rfl, by simp, by simp⟩
  | @plain p c e h h4 h3 b ih =>
    intro t st
    obtain ⟨pre, h1, h2, hl⟩ := ih t st
    have hge := b.ge
    refine ⟨t :: pre, ?_, ?_, by simp only [List.length_cons]; omega⟩
    · rw [show n - p = (n - (p + 1)) + 1 by omega]
      simp only [tl, h4, h3, if_false, List.cons_append]
      rw [h1]
    · rw [List.sum_cons, show t * (1 + c) = t + t * c by rw [Nat.mul_add, Nat.mul_one]]
      omega
  | @loop p b c e1 e m h h3 hm h1 hb he h4 hc ih1 ih2 =>
    intro t st
    obtain ⟨pb, g1, g2, gl⟩ := ih1 (min (t * m) SX) (t :: st)
    obtain ⟨pc, k1, k2, kl⟩ := ih2 t st
    have hge := hb.ge
    have hge2 := hc.ge
    refine ⟨t :: (pb ++ min (t * m) SX :: pc), ?_, ?_, by simp only [List.length_cons, List.length_append]; omega⟩
    · rw [show n - p = (n - (p + 1)) + 1 by omega]
      simp only [tl, h3, if_true, List.cons_append, hm, Int.toNat_natCast]
      rw [g1, show n - e1 = (n - (e1 + 1)) + 1 by omega]
      simp only [tl, h4, List.append_assoc, List.cons_append, if_true]
      rw [if_neg (by decide : ¬ (4 : Int) = 3), k1]
    · rw [List.sum_cons, List.sum_append, List.sum_cons]
      have q1 : min (min (t * m) SX * (b + 1)) SX = min (t * m * (b + 1)) SX := sat_mul (by omega)
      have q2 : t * (1 + m * (b + 1) + c) = t + t * m * (b + 1) + t * c := by rw [Nat.mul_add, Nat.mul_add, Nat.mul_one, Nat.mul_assoc]
      rw [q2]
      have q3 : min (t * m) SX * (b + 1) = min (t * m) SX * b + min (t * m) SX := by rw [Nat.mul_add, Nat.mul_one]
      rw [q3] at q1
      generalize t * m * (b + 1) = X at *
      generalize min (t * m) SX * b = Y at *
      omega
end
end Go.Proofs.Yteabbkagekdehaa
