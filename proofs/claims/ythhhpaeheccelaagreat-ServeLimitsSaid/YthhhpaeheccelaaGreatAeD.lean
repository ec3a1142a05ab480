/- The abstract evaluator, part 15: the tables of a program. -/
import Derived.Test.YthhhpaeheccelaaGreatAeC
import Derived.OpenShut
import Derived.IntWalk
import Derived.Below
section
set_option linter.unusedVariables false
set_option linter.unusedSectionVars false
set_option linter.unusedSimpArgs false
namespace Go.AE
noncomputable section
variable [Val]
def descAgg : TypeDesc → Bool
  | .struct _ | .array _ _ => true
  | _ => false
def zeroOf (ag : Bool) (z : Value) : Option (List AV) :=
  match ag with
  | true => match z with
    | .agg cs => ofVs cs.toList
    | _ => none
  | false => (ofV1 z).bind fun v => some [v]
def tyOf (P : Program) (t : TypeId) : Option ATy :=
  (P.underlying t).bind fun d => (P.info? t).bind fun i =>
    some ⟨d, i.size, i.bytes, i.zero.bind (zeroOf (descAgg d)), !P.stoodInHeld t && !P.eqGuardType P.depth t⟩
def fnOf (P : Program) (f : FuncId) : Option Func :=
  (P.funcs[f]?).bind fun F => bif decide (F.name ≠ "runtime.NumGoroutine") && F.body.isSome then some F else none
def envOf (P : Program) : Env := ⟨tyOf P, fnOf P, fun _ => none, fun _ _ => none, fun _ _ => none, fun _ => none, fun _ => none⟩
theorem ofV1_cells {z : Value} {v : AV} (h : ofV1 z = some v) : z.cells = #[z] := by
  unfold ofV1 at h
  split at h <;> first | rfl | cases h
theorem envOf_ok (P : Program) : EnvOK P (envOf P) where
  ty t a h := by
    simp only [envOf, tyOf, Option.bind_eq_some_iff, Option.some.injEq] at h
    obtain ⟨d, h1, i, h2, rfl⟩ := h
    refine ⟨h1, i, h2, rfl, rfl, fun zs hz => ?_, fun hp => ?_⟩
    · simp only [Option.bind_eq_some_iff] at hz
      obtain ⟨z, h3, h4⟩ := hz
      have hag : ∀ s y zz pl, (ATy.mk d s y zz pl).isAgg = descAgg d := fun s y zz pl => by simp only [ATy.isAgg]; cases d <;> rfl
      refine ⟨z, h3, ?_⟩
      rw [hag]
      cases hd : descAgg d with
      | true =>
        rw [hd] at h4
        unfold zeroOf at h4
        simp only at h4
        split at h4
        · exact ⟨by simpa [Value.cells] using h4, fun _ => ⟨_, rfl⟩, (fun h => by cases h)⟩
        · cases h4
      | false =>
        rw [hd] at h4
        simp only [zeroOf, Option.bind_eq_some_iff, Option.some.injEq] at h4
        obtain ⟨v, h5, rfl⟩ := h4
        refine ⟨by rw [ofV1_cells h5]; simp [ofVs, h5], (fun h => by cases h), fun _ => ⟨v, rfl, h5⟩⟩
    · simpa using hp
  fn f F h := by
    simp only [envOf, fnOf, Option.bind_eq_some_iff] at h
    obtain ⟨F', h1, h2⟩ := h
    cases hc : (decide (F'.name ≠ "runtime.NumGoroutine") && F'.body.isSome) with
    | false => rw [hc] at h2; cases h2
    | true =>
      rw [hc] at h2
      simp only [cond_true, Option.some.injEq] at h2
      subst h2
      simp only [Bool.and_eq_true, decide_eq_true_eq] at hc
      exact ⟨h1, hc.1, hc.2⟩
  glob g b h := by cases h
  le a b r h := by cases h
  eq a b r h := by cases h
  val a n h := by cases h
  opq i b n h := by cases h
end
end Go.AE
end
section
/- The abstract evaluator, part 16: what facts tell of numbers that are not known. -/
set_option linter.unusedVariables false
set_option linter.unusedSectionVars false
set_option linter.unusedSimpArgs false
namespace Go.AE
noncomputable section
def Sy.beq : Sy → Sy → Bool
  | .lit n, .lit m => decide (n = m)
  | .var i, .var j => Nat.beq i j
  | .bin op k a b, .bin op' k' a' b' => decide (op = op') && decide (k = k') && Sy.beq a a' && Sy.beq b b'
  | .wr k a, .wr k' a' => decide (k = k') && Sy.beq a a'
  | .md i n, .md j m => Nat.beq i j && Nat.beq n m
  | .tab l a, .tab l' a' => decide (l = l') && Sy.beq a a'
  | _, _ => false
theorem Sy.eq_of_beq : ∀ (a b : Sy), Sy.beq a b = true → a = b := by
  intro a b h
  cases a <;> cases b <;> simp only [Sy.beq, Bool.and_eq_true, Nat.beq_eq, decide_eq_true_eq] at h <;> try (cases h; done)
  case lit => rw [h]
  case var => rw [h]
  case bin op k a b op' k' a' b' => obtain ⟨⟨⟨rfl, rfl⟩, h1⟩, h2⟩ := h; rw [Sy.eq_of_beq a a' h1, Sy.eq_of_beq b b' h2]
  case wr k a k' a' => obtain ⟨rfl, h1⟩ := h; rw [Sy.eq_of_beq a a' h1]
  case md => rw [h.1, h.2]
  case tab l a l' a' => obtain ⟨rfl, h1⟩ := h; rw [Sy.eq_of_beq a a' h1]
inductive Fact where
  | le (a b : Sy) (r : Bool)
  | eq (a b : Sy) (r : Bool)
def Fact.holds (ρ : Nat → Int) : Fact → Prop
  | .le a b r => decide (a.ev ρ ≤ b.ev ρ) = r
  | .eq a b r => decide (a.ev ρ = b.ev ρ) = r
abbrev Iv := Option Int × Option Int
def InB (ρ : Nat → Int) (z : Sy) (i : Iv) : Prop := (∀ l, i.1 = some l → l ≤ z.ev ρ) ∧ (∀ h, i.2 = some h → z.ev ρ ≤ h)
def upTo (h : Option Int) (n : Int) : Option Int := match h with | some m => some (if m ≤ n then m else n) | none => some n
def downTo (l : Option Int) (n : Int) : Option Int := match l with | some m => some (if n ≤ m then m else n) | none => some n
def shrink (n : Int) (i : Iv) : Iv := match i with
  | (some l, some h) => bif decide (l = n) then (some (l + 1), some h) else bif decide (h = n) then (some l, some (h - 1)) else (some l, some h)
  | i => i
def tighten (z : Sy) (i : Iv) : Fact → Iv
  | .le a b r => match a, b with
    | .lit n, b => bif Sy.beq b z then (bif r then (downTo i.1 n, i.2) else (i.1, upTo i.2 (n - 1))) else i
    | a, .lit n => bif Sy.beq a z then (bif r then (i.1, upTo i.2 n) else (downTo i.1 (n + 1), i.2)) else i
    | _, _ => i
  | .eq a b true => match b with
    | .lit n => bif Sy.beq a z then (downTo i.1 n, upTo i.2 n) else i
    | _ => i
  | .eq a b false => match b with
    | .lit n => bif Sy.beq a z then shrink n i else i
    | _ => i
def tightens (z : Sy) : List Fact → Iv → Iv
  | [], i => i
  | f :: F, i => tightens z F (tighten z i f)
def fit (k : IntKind) (i : Iv) : Iv := match i with
  | (some l, some h) => bif decide (k.min ≤ l) && decide (h ≤ k.max) then (some l, some h) else (some k.min, some k.max)
  | _ => (some k.min, some k.max)
def binIv (op : BinOp) (k : IntKind) (i j : Iv) : Iv :=
  match op, i, j with
  | .add, (some a, some b), (some c, some d) => fit k (some (a + c), some (b + d))
  | .sub, (some a, some b), (some c, some d) => fit k (some (a - d), some (b - c))
  | .mul, (some a, some b), (some c, some d) => bif decide (0 ≤ a) && decide (0 ≤ c) then fit k (some (a * c), some (b * d)) else (some k.min, some k.max)
  | .add, _, _ => (some k.min, some k.max)
  | .sub, _, _ => (some k.min, some k.max)
  | .mul, _, _ => (some k.min, some k.max)
  | _, _, _ => (none, none)
def listIv : List Int → Iv
  | [] => (some 0, some 0)
  | x :: l => match listIv l with
    | (some a, some b) => (some (if x ≤ a then x else a), some (if b ≤ x then x else b))
    | i => i
def tabIv (l : List Int) (i : Iv) : Iv := match i with
  | (some a, some b) => bif decide (a = b) then (some (l.getD a.toNat 0), some (l.getD a.toNat 0)) else bif decide (0 ≤ a) && decide (b < (l.length : Int)) then
      (match (l.drop a.toNat).take (b.toNat + 1 - a.toNat) with | [] => listIv l | x :: r => match listIv' x r with | i => i) else listIv l
  | _ => listIv l
where listIv' (x : Int) : List Int → Iv
  | [] => (some x, some x)
  | y :: r => match listIv' x r with
    | (some a, some b) => (some (if y ≤ a then y else a), some (if b ≤ y then y else b))
    | i => i
def itv (F : List Fact) : Sy → Iv
  | .lit n => (some n, some n)
  | .var i => tightens (.var i) F (none, none)
  | .bin op k a b => tightens (.bin op k a b) F (binIv op k (itv F a) (itv F b))
  | .wr k a => tightens (.wr k a) F (fit k (itv F a))
  | .md i n => tightens (.md i n) F (bif Nat.blt 0 n then (some 0, some ((n : Int) - 1)) else (none, none))
  | .tab l a => tightens (.tab l a) F (tabIv l (itv F a))
def findLe (F : List Fact) (a b : Sy) : Option Bool := match F with
  | [] => none
  | .le a' b' r :: F => bif Sy.beq a' a && Sy.beq b' b then some r else findLe F a b
  | _ :: F => findLe F a b
def findEq (F : List Fact) (a b : Sy) : Option Bool := match F with
  | [] => none
  | .eq a' b' r :: F => bif Sy.beq a' a && Sy.beq b' b then some r else findEq F a b
  | _ :: F => findEq F a b
def leIv (i j : Iv) : Option Bool := match i, j with
  | (la, ua), (lb, ub) => match (match ua, lb with | some u, some l => decide (u ≤ l) | _, _ => false) with
    | true => some true
    | false => match (match la, ub with | some l, some u => decide (u < l) | _, _ => false) with
      | true => some false
      | false => none
def leF (F : List Fact) (a b : Sy) : Option Bool := match findLe F a b with
  | some r => some r
  | none => leIv (itv F a) (itv F b)
def eqIv (i j : Iv) : Option Bool := match leIv i j, leIv j i with
  | some true, some true => some true
  | some false, _ => some false
  | _, some false => some false
  | _, _ => none
def eqF (F : List Fact) (a b : Sy) : Option Bool := match findEq F a b with
  | some r => some r
  | none => bif Sy.beq a b then some true else eqIv (itv F a) (itv F b)
def flat : Sy → Bool
  | .bin .. | .wr .. => false
  | _ => true
def valF (F : List Fact) (a : Sy) : Option Int := bif flat a then (match itv F a with
  | (some l, some h) => bif decide (l = h) then some l else none
  | _ => none) else none
/-- the tables, with facts -/
def Env.know (E : Env) (F : List Fact) : Env := { E with le := leF F, eq := eqF F, val := valF F }

section
variable {ρ : Nat → Int} {F : List Fact} (hF : ∀ f ∈ F, f.holds ρ)
theorem upTo_ok {h : Option Int} {n : Int} {x : Int} (h1 : ∀ m, h = some m → x ≤ m) (h2 : x ≤ n) : ∀ m, upTo h n = some m → x ≤ m := by
  intro m hm
  unfold upTo at hm
  split at hm
  · rename_i m' 
    simp only [Option.some.injEq] at hm
    have := h1 m' rfl
    split at hm <;> omega
  · cases hm; exact h2
theorem downTo_ok {h : Option Int} {n : Int} {x : Int} (h1 : ∀ m, h = some m → m ≤ x) (h2 : n ≤ x) : ∀ m, downTo h n = some m → m ≤ x := by
  intro m hm
  unfold downTo at hm
  split at hm
  · rename_i m' 
    simp only [Option.some.injEq] at hm
    have := h1 m' rfl
    split at hm <;> omega
  · cases hm; exact h2
theorem tighten_r {z b : Sy} {n : Int} {r : Bool} {i : Iv} (hf : decide (n ≤ b.ev ρ) = r) (hi : InB ρ z i) : InB ρ z (bif Sy.beq b z then (bif r then (downTo i.1 n, i.2) else (i.1, upTo i.2 (n - 1))) else i) := by
  obtain ⟨l0, h0⟩ := hi
  cases hb : Sy.beq b z with
  | false => exact ⟨l0, h0⟩
  | true =>
    obtain rfl := Sy.eq_of_beq _ _ hb
    simp only [cond_true]
    cases r with
    | true => exact ⟨downTo_ok l0 (by simpa using hf), h0⟩
    | false => exact ⟨l0, upTo_ok h0 (by simp at hf; omega)⟩
theorem tighten_l {z a : Sy} {n : Int} {r : Bool} {i : Iv} (hf : decide (a.ev ρ ≤ n) = r) (hi : InB ρ z i) : InB ρ z (bif Sy.beq a z then (bif r then (i.1, upTo i.2 n) else (downTo i.1 (n + 1), i.2)) else i) := by
  obtain ⟨l0, h0⟩ := hi
  cases hb : Sy.beq a z with
  | false => exact ⟨l0, h0⟩
  | true =>
    obtain rfl := Sy.eq_of_beq _ _ hb
    simp only [cond_true]
    cases r with
    | true => exact ⟨l0, upTo_ok h0 (by simpa using hf)⟩
    | false => exact ⟨downTo_ok l0 (by simp at hf; omega), h0⟩
theorem tighten_e {z a : Sy} {n : Int} {i : Iv} (hf : a.ev ρ = n) (hi : InB ρ z i) : InB ρ z (bif Sy.beq a z then (downTo i.1 n, upTo i.2 n) else i) := by
  obtain ⟨l0, h0⟩ := hi
  cases hb : Sy.beq a z with
  | false => exact ⟨l0, h0⟩
  | true =>
    obtain rfl := Sy.eq_of_beq _ _ hb
    exact ⟨downTo_ok l0 (by omega), upTo_ok h0 (by omega)⟩
theorem tighten_n {z a : Sy} {n : Int} {i : Iv} (hf : a.ev ρ ≠ n) (hi : InB ρ z i) : InB ρ z (bif Sy.beq a z then shrink n i else i) := by
  cases hb : Sy.beq a z with
  | false => exact hi
  | true =>
    obtain rfl := Sy.eq_of_beq _ _ hb
    simp only [cond_true]
    obtain ⟨lo, hi'⟩ := i
    obtain ⟨l0, h0⟩ := hi
    cases lo with
    | none => cases hi' <;> exact ⟨l0, h0⟩
    | some l =>
      cases hi' with
      | none => exact ⟨l0, h0⟩
      | some h =>
        have h1 := l0 l rfl
        have h2 := h0 h rfl
        simp only [shrink]
        by_cases e1 : l = n
        · simp only [e1, decide_true, cond_true]
          refine ⟨fun m hm => ?_, fun m hm => ?_⟩
          · simp only [Option.some.injEq] at hm; omega
          · simp only [Option.some.injEq] at hm; omega
        · simp only [e1, decide_false, cond_false]
          by_cases e2 : h = n
          · simp only [e2, decide_true, cond_true]
            refine ⟨fun m hm => ?_, fun m hm => ?_⟩
            · simp only [Option.some.injEq] at hm; omega
            · simp only [Option.some.injEq] at hm; omega
          · simp only [e2, decide_false, cond_false]
            exact ⟨l0, h0⟩
theorem tighten_ok {z : Sy} {i : Iv} {f : Fact} (hf : f.holds ρ) (hi : InB ρ z i) : InB ρ z (tighten z i f) := by
  cases f with
  | le a b r =>
    cases a with
    | lit n => exact tighten_r hf hi
    | _ =>
      cases b with
      | lit n => exact tighten_l hf hi
      | _ => exact hi
  | eq a b r =>
    cases r with
    | true =>
      cases b with
      | lit n => exact tighten_e (of_decide_eq_true hf) hi
      | _ => exact hi
    | false =>
      cases b with
      | lit n => exact tighten_n (of_decide_eq_false hf) hi
      | _ => exact hi
theorem tightens_ok {z : Sy} : ∀ {G : List Fact} {i : Iv}, (∀ f ∈ G, f.holds ρ) → InB ρ z i → InB ρ z (tightens z G i)
  | [], _, _, h => h
  | f :: G, i, hG, h => by
    simp only [tightens]
    exact tightens_ok (fun g hg => hG g (by simp [hg])) (tighten_ok (hG f (by simp)) h)
theorem wrap_range (k : IntKind) (n : Int) : k.min ≤ k.wrap n ∧ k.wrap n ≤ k.max := by
  cases k <;> simp only [IntKind.min, IntKind.max, IntKind.wrap, IntKind.bits, IntKind.signed] <;> simp <;> omega
theorem wrap_fit (k : IntKind) (n : Int) (h1 : k.min ≤ n) (h2 : n ≤ k.max) : k.wrap n = n := by
  cases k <;> simp only [IntKind.min, IntKind.max, IntKind.wrap, IntKind.bits, IntKind.signed] at h1 h2 ⊢ <;> simp at h1 h2 ⊢ <;> omega
theorem fit_ok {k : IntKind} {n : Int} {z : Sy} {i : Iv} (hz : z.ev ρ = k.wrap n) (h : (∀ l, i.1 = some l → l ≤ n) ∧ (∀ h, i.2 = some h → n ≤ h)) : InB ρ z (fit k i) := by
  have hr := wrap_range k n
  rw [← hz] at hr
  have dflt : InB ρ z (some k.min, some k.max) := ⟨fun l e => by cases e; exact hr.1, fun l e => by cases e; exact hr.2⟩
  unfold fit
  split
  · rename_i l u
    by_cases hc : k.min ≤ l ∧ u ≤ k.max
    · simp only [hc.1, hc.2, decide_true, Bool.and_self, cond_true]
      have h1 := h.1 l rfl
      have h2 := h.2 u rfl
      rw [wrap_fit k n (by omega) (by omega)] at hz
      exact ⟨fun m e => by cases e; omega, fun m e => by cases e; omega⟩
    · have : (decide (k.min ≤ l) && decide (u ≤ k.max)) = false := by simpa using hc
      rw [this]
      exact dflt
  · exact dflt
theorem mul_le {a b x y : Int} (h1 : 0 ≤ a) (h2 : a ≤ x) (h3 : 0 ≤ b) (h4 : b ≤ y) : a * b ≤ x * y :=
  Int.le_trans (Int.mul_le_mul_of_nonneg_left h4 h1) (Int.mul_le_mul_of_nonneg_right h2 (by omega))
theorem binIv_ok {op : BinOp} {k : IntKind} {a b : Sy} {i j : Iv} (hi : InB ρ a i) (hj : InB ρ b j) : InB ρ (.bin op k a b) (binIv op k i j) := by
  have dflt : ∀ n, (Sy.bin op k a b).ev ρ = k.wrap n → InB ρ (.bin op k a b) (some k.min, some k.max) := fun n hz => by
    have hr := wrap_range k n
    rw [← hz] at hr
    exact ⟨fun l e => by cases e; exact hr.1, fun l e => by cases e; exact hr.2⟩
  unfold binIv
  split
  · rename_i p q r s
    refine fit_ok (n := a.ev ρ + b.ev ρ) (by simp only [Sy.ev, binVal, aIntBin]) ⟨fun l e => ?_, fun l e => ?_⟩
    · cases e; have := hi.1 _ rfl; have := hj.1 _ rfl; omega
    · cases e; have := hi.2 _ rfl; have := hj.2 _ rfl; omega
  · rename_i p q r s
    refine fit_ok (n := a.ev ρ - b.ev ρ) (by simp only [Sy.ev, binVal, aIntBin]) ⟨fun l e => ?_, fun l e => ?_⟩
    · cases e; have := hi.1 _ rfl; have := hj.2 _ rfl; omega
    · cases e; have := hi.2 _ rfl; have := hj.1 _ rfl; omega
  · rename_i p q r s
    by_cases hc : 0 ≤ p ∧ 0 ≤ r
    · simp only [hc.1, hc.2, decide_true, Bool.and_self, cond_true]
      refine fit_ok (n := a.ev ρ * b.ev ρ) (by simp only [Sy.ev, binVal, aIntBin]) ⟨fun l e => ?_, fun l e => ?_⟩
      · cases e; exact mul_le hc.1 (hi.1 _ rfl) hc.2 (hj.1 _ rfl)
      · cases e
        have h1 := hi.1 _ rfl
        have h2 := hj.1 _ rfl
        exact mul_le (by omega) (hi.2 _ rfl) (by omega) (hj.2 _ rfl)
    · have : (decide (0 ≤ p) && decide (0 ≤ r)) = false := by simpa using hc
      rw [this]
      exact dflt (a.ev ρ * b.ev ρ) (by simp only [Sy.ev, binVal, aIntBin])
  · exact dflt (a.ev ρ + b.ev ρ) (by simp only [Sy.ev, binVal, aIntBin])
  · exact dflt (a.ev ρ - b.ev ρ) (by simp only [Sy.ev, binVal, aIntBin])
  · exact dflt (a.ev ρ * b.ev ρ) (by simp only [Sy.ev, binVal, aIntBin])
  · exact ⟨(fun l e => by cases e), (fun l e => by cases e)⟩
theorem listIv_ok : ∀ (l : List Int), ∃ a b, listIv l = (some a, some b) ∧ a ≤ 0 ∧ 0 ≤ b ∧ ∀ x ∈ l, a ≤ x ∧ x ≤ b
  | [] => ⟨0, 0, rfl, by omega, by omega, by simp⟩
  | x :: l => by
    obtain ⟨a, b, h1, h2, h3, h4⟩ := listIv_ok l
    refine ⟨if x ≤ a then x else a, if b ≤ x then x else b, by simp only [listIv, h1], by split <;> omega, by split <;> omega, fun y hy => ?_⟩
    rcases List.mem_cons.1 hy with rfl | hy
    · constructor <;> split <;> omega
    · have := h4 y hy
      constructor <;> split <;> omega
theorem listIv'_ok (x : Int) : ∀ (l : List Int), ∃ a b, tabIv.listIv' x l = (some a, some b) ∧ a ≤ x ∧ x ≤ b ∧ ∀ y ∈ l, a ≤ y ∧ y ≤ b
  | [] => ⟨x, x, rfl, by omega, by omega, by simp⟩
  | y :: l => by
    obtain ⟨a, b, h1, h2, h3, h4⟩ := listIv'_ok x l
    refine ⟨if y ≤ a then y else a, if b ≤ y then y else b, by simp only [tabIv.listIv', h1], by split <;> omega, by split <;> omega, fun z hz => ?_⟩
    rcases List.mem_cons.1 hz with rfl | hz
    · constructor <;> split <;> omega
    · have := h4 z hz
      constructor <;> split <;> omega
theorem tabIv_ok {l : List Int} {a : Sy} {i : Iv} (hi : InB ρ a i) : InB ρ (.tab l a) (tabIv l i) := by
  have dflt : InB ρ (.tab l a) (listIv l) := by
    obtain ⟨p, q, h1, h2, h3, h4⟩ := listIv_ok l
    rw [h1]
    have key : p ≤ l.getD (a.ev ρ).toNat 0 ∧ l.getD (a.ev ρ).toNat 0 ≤ q := by
      rw [List.getD_eq_getElem?_getD]
      cases hx : l[(a.ev ρ).toNat]? with
      | none => simpa using ⟨h2, h3⟩
      | some x => exact h4 x (List.mem_of_getElem? hx)
    exact ⟨fun m e => by cases e; exact key.1, fun m e => by cases e; exact key.2⟩
  unfold tabIv
  split
  · rename_i p q
    by_cases hpq : p = q
    · subst hpq
      simp only [decide_true, cond_true]
      have h1 := hi.1 _ rfl
      have h2 := hi.2 _ rfl
      have : a.ev ρ = p := by omega
      exact ⟨fun m e => by cases e; simp only [Sy.ev, this]; exact Int.le_refl _, fun m e => by cases e; simp only [Sy.ev, this]; exact Int.le_refl _⟩
    · simp only [hpq, decide_false, cond_false]
      by_cases hc : 0 ≤ p ∧ q < (l.length : Int)
      · simp only [hc.1, hc.2, decide_true, Bool.and_self, cond_true]
        split
        · exact dflt
        · rename_i x r hx
          obtain ⟨s, t, h1, h2, h3, h4⟩ := listIv'_ok x r
          simp only [h1]
          have e1 := hi.1 _ rfl
          have e2 := hi.2 _ rfl
          have hlt : (a.ev ρ).toNat < l.length := by omega
          have hm : l.getD (a.ev ρ).toNat 0 ∈ x :: r := by
            rw [← hx, List.getD_eq_getElem?_getD]
            have : ((l.drop p.toNat).take (q.toNat + 1 - p.toNat))[(a.ev ρ).toNat - p.toNat]? = some l[(a.ev ρ).toNat] := by
              rw [List.getElem?_take, if_pos (by omega), List.getElem?_drop]
              rw [show p.toNat + ((a.ev ρ).toNat - p.toNat) = (a.ev ρ).toNat by omega]
              exact List.getElem?_eq_getElem hlt
            rw [List.getElem?_eq_getElem hlt]
            exact List.mem_of_getElem? this
          have key : s ≤ l.getD (a.ev ρ).toNat 0 ∧ l.getD (a.ev ρ).toNat 0 ≤ t := by
            rcases List.mem_cons.1 hm with h | h
            · rw [h]; exact ⟨h2, h3⟩
            · exact h4 _ h
          exact ⟨fun m e => by cases e; exact key.1, fun m e => by cases e; exact key.2⟩
      · have : (decide (0 ≤ p) && decide (q < (l.length : Int))) = false := by simpa using hc
        rw [this]
        exact dflt
  · exact dflt
include hF in
theorem itv_ok : ∀ (z : Sy), InB ρ z (itv F z)
  | .lit n => ⟨fun m e => by cases e; exact Int.le_refl _, fun m e => by cases e; exact Int.le_refl _⟩
  | .var i => tightens_ok hF ⟨(fun m e => by cases e), (fun m e => by cases e)⟩
  | .bin op k a b => tightens_ok hF (binIv_ok (itv_ok a) (itv_ok b))
  | .wr k a => tightens_ok hF (fit_ok (n := a.ev ρ) rfl (itv_ok a))
  | .md i n => by
    refine tightens_ok hF ?_
    cases hn : Nat.blt 0 n with
    | false => exact ⟨(fun m e => by cases e), (fun m e => by cases e)⟩
    | true =>
      rw [blt_dec] at hn
      have : 0 < n := by simpa using hn
      have h1 := Int.emod_nonneg (ρ i) (b := (n : Int)) (by omega)
      have h2 := Int.emod_lt_of_pos (ρ i) (b := (n : Int)) (by omega)
      exact ⟨fun m e => by cases e; exact h1, fun m e => by cases e; simp only [Sy.ev]; omega⟩
  | .tab l a => tightens_ok hF (tabIv_ok (itv_ok a))
theorem findLe_ok {a b : Sy} {r : Bool} : ∀ {G : List Fact}, (∀ f ∈ G, f.holds ρ) → findLe G a b = some r → decide (a.ev ρ ≤ b.ev ρ) = r
  | [], _, h => by simp [findLe] at h
  | .le a' b' r' :: G, hG, h => by
    simp only [findLe] at h
    cases hb : (Sy.beq a' a && Sy.beq b' b) with
    | false => rw [hb] at h; exact findLe_ok (fun g hg => hG g (by simp [hg])) h
    | true =>
      rw [hb] at h
      simp only [cond_true, Option.some.injEq] at h
      simp only [Bool.and_eq_true] at hb
      obtain rfl := Sy.eq_of_beq _ _ hb.1
      obtain rfl := Sy.eq_of_beq _ _ hb.2
      subst h
      exact hG _ List.mem_cons_self
  | .eq _ _ _ :: G, hG, h => by simp only [findLe] at h; exact findLe_ok (fun g hg => hG g (by simp [hg])) h
theorem findEq_ok {a b : Sy} {r : Bool} : ∀ {G : List Fact}, (∀ f ∈ G, f.holds ρ) → findEq G a b = some r → decide (a.ev ρ = b.ev ρ) = r
  | [], _, h => by simp [findEq] at h
  | .eq a' b' r' :: G, hG, h => by
    simp only [findEq] at h
    cases hb : (Sy.beq a' a && Sy.beq b' b) with
    | false => rw [hb] at h; exact findEq_ok (fun g hg => hG g (by simp [hg])) h
    | true =>
      rw [hb] at h
      simp only [cond_true, Option.some.injEq] at h
      simp only [Bool.and_eq_true] at hb
      obtain rfl := Sy.eq_of_beq _ _ hb.1
      obtain rfl := Sy.eq_of_beq _ _ hb.2
      subst h
      exact hG _ List.mem_cons_self
  | .le _ _ _ :: G, hG, h => by simp only [findEq] at h; exact findEq_ok (fun g hg => hG g (by simp [hg])) h
theorem leIv_ok {a b : Sy} {i j : Iv} (hi : InB ρ a i) (hj : InB ρ b j) {r : Bool} (h : leIv i j = some r) : decide (a.ev ρ ≤ b.ev ρ) = r := by
  obtain ⟨la, ua⟩ := i
  obtain ⟨lb, ub⟩ := j
  simp only [leIv] at h
  split at h
  · rename_i hc
    cases h
    cases ua <;> cases lb <;> simp only [Bool.false_eq_true] at hc
    have h1 := hi.2 _ rfl
    have h2 := hj.1 _ rfl
    simp only [decide_eq_true_eq] at hc ⊢
    omega
  · split at h
    · rename_i hc
      cases h
      cases la <;> cases ub <;> simp only [Bool.false_eq_true] at hc
      have h1 := hi.1 _ rfl
      have h2 := hj.2 _ rfl
      simp only [decide_eq_true_eq] at hc
      simp only [decide_eq_false_iff_not]
      omega
    · cases h
include hF in
theorem leF_ok {a b : Sy} {r : Bool} (h : leF F a b = some r) : decide (a.ev ρ ≤ b.ev ρ) = r := by
  unfold leF at h
  split at h
  · rename_i r' hr
    cases h
    exact findLe_ok hF hr
  · exact leIv_ok (itv_ok hF a) (itv_ok hF b) h
include hF in
theorem eqF_ok {a b : Sy} {r : Bool} (h : eqF F a b = some r) : decide (a.ev ρ = b.ev ρ) = r := by
  unfold eqF at h
  split at h
  · rename_i r' hr
    cases h
    exact findEq_ok hF hr
  · cases hb : Sy.beq a b with
    | true =>
      rw [hb] at h
      cases h
      rw [Sy.eq_of_beq _ _ hb]
      simp
    | false =>
    rw [hb] at h
    simp only [cond_false] at h
    unfold eqIv at h
    have q1 := @leIv_ok ρ a b _ _ (itv_ok hF a) (itv_ok hF b)
    have q2 := @leIv_ok ρ b a _ _ (itv_ok hF b) (itv_ok hF a)
    split at h
    · rename_i e1 e2
      cases h
      have := q1 e1; have := q2 e2
      simp only [decide_eq_true_eq] at *; omega
    · rename_i e1
      cases h
      have := q1 e1
      simp only [decide_eq_false_iff_not] at *; omega
    · rename_i e2 _
      cases h
      have := q2 e2
      simp only [decide_eq_false_iff_not] at *; omega
    · cases h
include hF in
theorem valF_ok {a : Sy} {n : Int} (h : valF F a = some n) : a.ev ρ = n := by
  unfold valF at h
  have q := itv_ok hF a
  cases hfl : flat a with
  | false => rw [hfl] at h; cases h
  | true =>
  rw [hfl] at h
  simp only [cond_true] at h
  split at h
  · rename_i l u hi
    rw [hi] at q
    have h1 := q.1 _ rfl
    have h2 := q.2 _ rfl
    by_cases e : l = u
    · simp only [e, decide_true, cond_true, Option.some.injEq] at h; omega
    · simp [e] at h
  · cases h
end
theorem know_ok [Val] {P : Program} {E : Env} (hE : EnvOK P E) {F : List Fact} (hF : ∀ f ∈ F, f.holds Val.ρ) : EnvOK P (E.know F) where
  ty := hE.ty
  fn := hE.fn
  glob := hE.glob
  le _ _ _ h := leF_ok hF h
  eq _ _ _ h := eqF_ok hF h
  val _ _ h := valF_ok hF h
  opq := hE.opq
/-- an opaque slice of bytes is laid -/
def Env.lay (E : Env) (i b len : Nat) : Env := { E with opq := fun j => bif Nat.beq j i then some (b, len) else none }
theorem lay_ok [Val] {P : Program} {E : Env} (hE : EnvOK P E) {i b len c cap sz : Nat} (h1 : len ≤ 1000000000) (h2 : Val.o i = .slice (some ⟨c, 0, none⟩) len cap) (h3 : len ≤ cap) (h4 : cap ≤ maxLen) (h6 : cap ≤ sz) (h5 : ∀ μ w, Val.J μ w → μ b 0 = some (c, sz)) : EnvOK P (E.lay i b len) where
  ty := hE.ty
  fn := hE.fn
  glob := hE.glob
  le := hE.le
  eq := hE.eq
  val := hE.val
  opq j b' n h := by
    simp only [Env.lay, beq_dec] at h
    by_cases e : j = i
    · subst e
      simp only [decide_true, cond_true, Option.some.injEq, Prod.mk.injEq] at h
      obtain ⟨rfl, rfl⟩ := h
      exact ⟨h1, c, cap, sz, h2, h3, h4, h6, h5⟩
    · simp [e] at h
end
end Go.AE
end
section
/- The abstract evaluator, part 17: closed runs; runs off an empty memory; contracts. -/
set_option linter.unusedVariables false
set_option linter.unusedSectionVars false
set_option linter.unusedSimpArgs false
namespace Go.AE
noncomputable section
open Go.RowKit (Below)
/-- no unknowns -/
abbrev Val.plain : Val := { ρ := fun _ => 0, o := fun _ => .nilFunc, J := fun _ _ => True, keep := fun _ _ => trivial }
def noExt : FuncId → Option (List AV → AHeap → Option (AV × AHeap)) := fun _ => none
theorem noExt_ok [Val] {P : Program} {E : Env} : ExtOK P E noExt := ⟨(fun f g h => by cases h), (fun f g h => by cases h), (fun f g h => by cases h)⟩
def A0 : AHeap := ⟨.leaf, 0⟩
def μ0 : Mu := fun _ _ => none
theorem A0_get (b : Nat) : A0.get b = none := AHeap.get_none (Nat.zero_le _)
theorem Rel.empty [Val] (w : World) : Rel A0 μ0 w := ⟨(fun b g c sz h => by cases h), (fun b g c sz b' g' sz' h => by cases h), (fun b B h => by rw [A0_get] at h; cases h)⟩
theorem Ext.below {A' : AHeap} {μ' : Mu} {w w' : World} (X : Ext A0 A' μ0 μ' w w') : Below w.heap.size w w' :=
  ⟨X.os, X.tape, X.output, X.size, fun k hk => X.frame k hk fun b g sz h => by cases h⟩
theorem Rel.grow [Val] {A : AHeap} {μ : Mu} {w w' : World} (R : Rel A μ w) (B : Below w.heap.size w w') : Rel A μ w' :=
  ⟨fun b g c sz h => Nat.lt_of_lt_of_le (R.bound b g c sz h) B.size, R.inj, fun b x hb g c sz h => by
    obtain ⟨o, h1, h2⟩ := R.blk b x hb g c sz h
    exact ⟨o, by rw [B.block c (R.bound b g c sz h)]; exact h1, h2⟩⟩
theorem Ext.grow {A : AHeap} {μ : Mu} {w w' : World} (B : Below w.heap.size w w') : Ext A A μ μ w w' :=
  ⟨MuLe.refl _, fun _ _ _ => rfl, fun b g h k => by omega, Nat.le_refl _, B.os, B.tape, B.output, B.size, fun b g c sz h => .inl ⟨g, h⟩, fun _ _ h => h, fun c hc _ => B.block c hc⟩
/-- a call without arguments, run by itself -/
theorem closed_run {P : Program} (hm : P.follows .mixedOrders = true) {n : Nat} {f : FuncId} {b : Bool} {A' : AHeap} (h : evCall (envOf P) noExt n f [] A0 = some (.bool b, A')) (w : World) :
    Calls P f #[] w fun e w' => e = .returned (.bool b) ∧ Below w.heap.size w w' := by
  letI : Val := Val.plain
  refine ((evCall_ok (envOf_ok P) hm noExt_ok n).ok f [] A0 _ A' h μ0 w [] (Rel.empty w) trivial VRs.nil (fun _ _ _ _ => rfl)).mono ?_
  rintro e w' ⟨u, μ', rfl, hu, _, X⟩
  simp only [VR] at hu
  subst hu
  exact ⟨rfl, X.below⟩
/-- a call on one slice of which the run asks nothing -/
theorem opaque_run [Val] {P : Program} (hm : P.follows .mixedOrders = true) {F : List Fact} (hF : ∀ f ∈ F, f.holds Val.ρ) {ext : FuncId → Option (List AV → AHeap → Option (AV × AHeap))} (hX : ExtOK P ((envOf P).know F) ext)
    {n : Nat} {f : FuncId} {b : Bool} {A' : AHeap} (h : evCall ((envOf P).know F) ext n f [.opq 0] A0 = some (.bool b, A')) (w : World) (hJ : Val.J μ0 w) {a : Option Addr} {len cap : Nat} (ho : Val.o 0 = .slice a len cap) :
    Calls P f #[.slice a len cap] w fun e w' => e = .returned (.bool b) ∧ Below w.heap.size w w' := by
  refine ((evCall_ok (know_ok (envOf_ok P) hF) hm hX n).ok f [.opq 0] A0 _ A' h μ0 w [.slice a len cap] (Rel.empty w) hJ (VRs.cons (by simp only [VR]; exact ⟨ho.symm, a, len, cap, rfl⟩) VRs.nil) (fun _ _ _ _ => rfl)).mono ?_
  rintro e w' ⟨u, μ', rfl, hu, _, X⟩
  simp only [VR] at hu
  subst hu
  exact ⟨rfl, X.below⟩
def okT : Option (AV × AHeap) → Bool
  | some (.bool true, _) => true
  | _ => false
theorem okT_some {r : Option (AV × AHeap)} (h : okT r = true) : ∃ A', r = some (.bool true, A') := by
  unfold okT at h
  split at h
  · exact ⟨_, rfl⟩
  · cases h
/-- the same facts, the same heap: a contract of one function without arguments -/
theorem ext_closed [Val] {P : Program} {f : FuncId} {b : Bool} (hC : ∀ w, Calls P f #[] w fun e w' => e = .returned (.bool b) ∧ Below w.heap.size w w') {args : List AV} {A : AHeap} {v : AV} {A' : AHeap}
    (h : (match args with | [] => some (AV.bool b, A) | _ => none) = some (v, A')) {μ : Mu} {w : World} {us : List Value} (R : Rel A μ w) (hus : VRs μ args us) :
    Calls P f us.toArray w fun e w' => ∃ u μ', e = .returned u ∧ VR μ' v u ∧ Rel A' μ' w' ∧ Ext A A' μ μ' w w' := by
  cases args with
  | cons x xs => cases h
  | nil =>
    simp only [Option.some.injEq, Prod.mk.injEq] at h
    obtain ⟨rfl, rfl⟩ := h
    simp only [VRs] at hus
    subst hus
    refine (hC w).mono ?_
    rintro e w' ⟨rfl, B⟩
    exact ⟨_, μ, rfl, by simp only [VR], R.grow B, Ext.grow B⟩
end
end Go.AE
end
