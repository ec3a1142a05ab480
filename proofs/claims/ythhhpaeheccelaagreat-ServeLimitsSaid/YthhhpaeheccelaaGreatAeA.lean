/- The abstract evaluator, part 1: abstract values, the abstract heap, the meaning of the operations on them. -/
import Derived.Orders
import Derived.Below
import Derived.Laws.Append
import Derived.Laws.CopyRow
import Derived.Laws.Tables
import Derived.Laws.Entries
import Derived.Laws.StructEq
import Derived.ChangeKeysEq
import Derived.LaidEql
section
set_option linter.unusedVariables false
set_option linter.unusedSimpArgs false
namespace Go.AE
noncomputable section

/-! ### 1. A map from numbers, by bits -/
inductive Tr (α : Type) where
  | leaf
  | node (v : Option α) (l r : Tr α)
namespace Tr
variable {α : Type}
def getF : Nat → Tr α → Nat → Option α
  | 0, _, _ => none
  | _ + 1, .leaf, _ => none
  | f + 1, .node v l r, k => bif Nat.beq k 0 then v else bif Nat.beq (k % 2) 1 then getF f l (k / 2) else getF f r (k / 2 - 1)
def setF : Nat → Tr α → Nat → α → Tr α
  | 0, t, _, _ => t
  | f + 1, .leaf, k, x => bif Nat.beq k 0 then .node (some x) .leaf .leaf else bif Nat.beq (k % 2) 1 then .node none (setF f .leaf (k / 2) x) .leaf else .node none .leaf (setF f .leaf (k / 2 - 1) x)
  | f + 1, .node v l r, k, x => bif Nat.beq k 0 then .node (some x) l r else bif Nat.beq (k % 2) 1 then .node v (setF f l (k / 2) x) r else .node v l (setF f r (k / 2 - 1) x)
theorem getF_leaf (f k : Nat) : getF f (.leaf : Tr α) k = none := by cases f <;> rfl
theorem beq_dec (a b : Nat) : Nat.beq a b = decide (a = b) := by
  by_cases h : a = b
  · subst h; simp
  · cases hb : Nat.beq a b with
    | true => exact absurd (Nat.eq_of_beq_eq_true hb) h
    | false => simp [h]
theorem getF_more : ∀ (f g k : Nat) (t : Tr α), k < f → k < g → getF f t k = getF g t k
  | 0, _, _, _, h, _ => by omega
  | _ + 1, 0, _, _, _, h => by omega
  | f + 1, g + 1, k, .leaf, _, _ => rfl
  | f + 1, g + 1, k, .node v l r, h1, h2 => by
    simp only [getF, beq_dec]
    by_cases h0 : k = 0
    · simp [h0]
    · by_cases h3 : k % 2 = 1
      · simp [h0, h3]; exact getF_more f g _ l (by omega) (by omega)
      · simp [h0, h3]; exact getF_more f g _ r (by omega) (by omega)
theorem getF_setF : ∀ (f k j : Nat) (t : Tr α) (x : α), k < f → j < f → getF f (setF f t k x) j = if j = k then some x else getF f t j
  | 0, _, _, _, _, h, _ => by omega
  | f + 1, k, j, t, x, hk, hj => by
    have key : ∀ (v : Option α) (l r : Tr α), getF (f + 1) (bif Nat.beq k 0 then .node (some x) l r else bif Nat.beq (k % 2) 1 then .node v (setF f l (k / 2) x) r else .node v l (setF f r (k / 2 - 1) x)) j
        = if j = k then some x else getF (f + 1) (.node v l r) j := by
      intro v l r
      simp only [beq_dec]
      by_cases h0 : k = 0
      · subst h0
        simp only [decide_true, cond_true, getF, beq_dec]
        by_cases hj0 : j = 0
        · simp [hj0]
        · simp [hj0]
      · by_cases h1 : k % 2 = 1
        · simp only [h0, h1, decide_true, decide_false, cond_true, cond_false, getF, beq_dec]
          by_cases hj0 : j = 0
          · have : ¬ 0 = k := by omega
            simp [hj0, this]
          · by_cases hj1 : j % 2 = 1
            · have hd : (j / 2 = k / 2) = (j = k) := by rw [eq_iff_iff]; omega
              simp only [hj0, hj1, decide_true, decide_false, cond_true, cond_false]
              rw [getF_setF f (k / 2) (j / 2) l x (by omega) (by omega)]
              simp only [hd]
            · have : ¬ j = k := by omega
              simp [hj0, hj1, this]
        · simp only [h0, h1, decide_true, decide_false, cond_true, cond_false, getF, beq_dec]
          by_cases hj0 : j = 0
          · have : ¬ 0 = k := by omega
            simp [hj0, this]
          · by_cases hj1 : j % 2 = 1
            · have : ¬ j = k := by omega
              simp [hj0, hj1, this]
            · have hd : (j / 2 - 1 = k / 2 - 1) = (j = k) := by rw [eq_iff_iff]; omega
              simp only [hj0, hj1, decide_true, decide_false, cond_true, cond_false]
              rw [getF_setF f (k / 2 - 1) (j / 2 - 1) r x (by omega) (by omega)]
              simp only [hd]
    cases t with
    | leaf =>
      have h := key none .leaf .leaf
      have e : getF (f + 1) (.node none .leaf .leaf : Tr α) j = getF (f + 1) .leaf j := by
        simp only [getF, getF_leaf]; cases Nat.beq j 0 <;> cases Nat.beq (j % 2) 1 <;> rfl
      rw [e] at h
      exact h
    | node v l r => exact key v l r
/-- the way to a number's place -/
def pathF : Nat → Nat → List Bool
  | 0, _ => []
  | f + 1, k => bif Nat.beq k 0 then [] else bif Nat.beq (k % 2) 1 then true :: pathF f (k / 2) else false :: pathF f (k / 2 - 1)
def pathOf (k : Nat) : List Bool := pathF (k + 1) k
theorem pathF_more : ∀ (f g k : Nat), k < f → k < g → pathF f k = pathF g k
  | 0, _, _, h, _ => by omega
  | _ + 1, 0, _, _, h => by omega
  | f + 1, g + 1, k, h1, h2 => by
    simp only [pathF, beq_dec]
    by_cases h0 : k = 0
    · simp [h0]
    · by_cases h3 : k % 2 = 1
      · simp only [h0, h3, decide_true, decide_false, cond_true, cond_false]
        rw [pathF_more f g _ (by omega) (by omega)]
      · simp only [h0, h3, decide_false, cond_false]
        rw [pathF_more f g _ (by omega) (by omega)]
theorem pathOf_zero : pathOf 0 = [] := rfl
theorem pathOf_odd {k : Nat} (h0 : ¬ k = 0) (h : k % 2 = 1) : pathOf k = true :: pathOf (k / 2) := by
  unfold pathOf
  rw [pathF]
  simp only [beq_dec, h0, h, decide_true, decide_false, cond_true, cond_false]
  rw [pathF_more k (k / 2 + 1) _ (by omega) (by omega)]
theorem pathOf_even {k : Nat} (h0 : ¬ k = 0) (h : ¬ k % 2 = 1) : pathOf k = false :: pathOf (k / 2 - 1) := by
  unfold pathOf
  rw [pathF]
  simp only [beq_dec, h0, h, decide_false, cond_false]
  rw [pathF_more k (k / 2 - 1 + 1) _ (by omega) (by omega)]
/-- look-up and change, by the recursor itself: the kernel runs them several times faster -/
noncomputable def getP (t : Tr α) : List Bool → Option α :=
  Tr.rec (motive := fun _ => List Bool → Option α) (fun _ => none)
    (fun v _ _ gl gr p => List.rec (motive := fun _ => Option α) v (fun b p' _ => Bool.rec (motive := fun _ => Option α) (gr p') (gl p') b) p) t
noncomputable def newP (x : α) (p : List Bool) : Tr α :=
  List.rec (motive := fun _ => Tr α) (.node (some x) .leaf .leaf) (fun b _ ih => Bool.rec (motive := fun _ => Tr α) (.node none .leaf ih) (.node none ih .leaf) b) p
noncomputable def setP (x : α) (t : Tr α) : List Bool → Tr α :=
  Tr.rec (motive := fun _ => List Bool → Tr α) (newP x)
    (fun v l r sl sr p => List.rec (motive := fun _ => Tr α) (.node (some x) l r) (fun b p' _ => Bool.rec (motive := fun _ => Tr α) (.node v l (sr p')) (.node v (sl p') r) b) p) t
noncomputable def get (t : Tr α) (k : Nat) : Option α := getP t (pathOf k)
noncomputable def set (t : Tr α) (k : Nat) (x : α) : Tr α := setP x t (pathOf k)
theorem get_node (v : Option α) (l r : Tr α) (k : Nat) : get (.node v l r) k = bif Nat.beq k 0 then v else bif Nat.beq (k % 2) 1 then get l (k / 2) else get r (k / 2 - 1) := by
  simp only [beq_dec]
  by_cases h0 : k = 0
  · subst h0; rfl
  · by_cases h : k % 2 = 1
    · simp only [get, pathOf_odd h0 h, h0, h, decide_true, decide_false, cond_true, cond_false]; rfl
    · simp only [get, pathOf_even h0 h, h0, h, decide_false, cond_false]; rfl
theorem set_node (v : Option α) (l r : Tr α) (k : Nat) (x : α) : set (.node v l r) k x = bif Nat.beq k 0 then .node (some x) l r else bif Nat.beq (k % 2) 1 then .node v (set l (k / 2) x) r else .node v l (set r (k / 2 - 1) x) := by
  simp only [beq_dec]
  by_cases h0 : k = 0
  · subst h0; rfl
  · by_cases h : k % 2 = 1
    · simp only [set, pathOf_odd h0 h, h0, h, decide_true, decide_false, cond_true, cond_false]; rfl
    · simp only [set, pathOf_even h0 h, h0, h, decide_false, cond_false]; rfl
theorem set_leaf : ∀ (f k : Nat) (x : α), k < f → set (.leaf : Tr α) k x = setF f .leaf k x
  | 0, _, _, h => by omega
  | f + 1, k, x, hk => by
    simp only [setF, beq_dec]
    by_cases h0 : k = 0
    · subst h0; rfl
    · by_cases h : k % 2 = 1
      · simp only [h0, h, decide_true, decide_false, cond_true, cond_false]
        rw [← set_leaf f (k / 2) x (by omega)]
        show newP x (pathOf k) = .node none (newP x (pathOf (k / 2))) .leaf
        rw [pathOf_odd h0 h]; rfl
      · simp only [h0, h, decide_false, cond_false]
        rw [← set_leaf f (k / 2 - 1) x (by omega)]
        show newP x (pathOf k) = .node none .leaf (newP x (pathOf (k / 2 - 1)))
        rw [pathOf_even h0 h]; rfl
theorem get_eq : ∀ (t : Tr α) (k : Nat), get t k = getF (k + 1) t k
  | .leaf, k => rfl
  | .node v l r, k => by
    rw [get_node]
    simp only [getF, beq_dec]
    by_cases h0 : k = 0
    · simp [h0]
    · by_cases h1 : k % 2 = 1
      · simp only [h0, h1, decide_true, decide_false, cond_true, cond_false]
        rw [get_eq l, getF_more (k / 2 + 1) k (k / 2) l (by omega) (by omega)]
      · simp only [h0, h1, decide_false, cond_false]
        rw [get_eq r, getF_more (k / 2 - 1 + 1) k (k / 2 - 1) r (by omega) (by omega)]
theorem setF_more : ∀ (f g k : Nat) (t : Tr α) (x : α), k < f → k < g → setF f t k x = setF g t k x
  | 0, _, _, _, _, h, _ => by omega
  | _ + 1, 0, _, _, _, _, h => by omega
  | f + 1, g + 1, k, t, x, h1, h2 => by
    cases t with
    | leaf =>
      simp only [setF, beq_dec]
      by_cases h0 : k = 0
      · simp [h0]
      · by_cases h3 : k % 2 = 1
        · simp [h0, h3]; exact setF_more f g _ _ x (by omega) (by omega)
        · simp [h0, h3]; exact setF_more f g _ _ x (by omega) (by omega)
    | node v l r =>
      simp only [setF, beq_dec]
      by_cases h0 : k = 0
      · simp [h0]
      · by_cases h3 : k % 2 = 1
        · simp [h0, h3]; exact setF_more f g _ l x (by omega) (by omega)
        · simp [h0, h3]; exact setF_more f g _ r x (by omega) (by omega)
theorem set_eq : ∀ (t : Tr α) (k : Nat) (x : α), set t k x = setF (k + 1) t k x
  | .leaf, k, x => set_leaf _ _ _ (by omega)
  | .node v l r, k, x => by
    rw [set_node]
    simp only [setF, beq_dec]
    by_cases h0 : k = 0
    · simp [h0]
    · by_cases h1 : k % 2 = 1
      · simp only [h0, h1, decide_true, decide_false, cond_true, cond_false]
        rw [set_eq l, setF_more (k / 2 + 1) k (k / 2) l x (by omega) (by omega)]
      · simp only [h0, h1, decide_false, cond_false]
        rw [set_eq r, setF_more (k / 2 - 1 + 1) k (k / 2 - 1) r x (by omega) (by omega)]
theorem get_set (t : Tr α) (k j : Nat) (x : α) : (t.set k x).get j = if j = k then some x else t.get j := by
  rw [get_eq, get_eq, set_eq]
  have h := getF_setF (k + j + 1) k j t x (by omega) (by omega)
  rw [getF_more (j + 1) (k + j + 1) j _ (by omega) (by omega), setF_more (k + 1) (k + j + 1) k t x (by omega) (by omega), h,
    getF_more (k + j + 1) (j + 1) j t (by omega) (by omega)]
theorem setF_leaf (f k : Nat) (x : α) : setF (f + 1) (.leaf : Tr α) k x = setF (f + 1) (.node none .leaf .leaf) k x := rfl
theorem setF_comm : ∀ (f k j : Nat) (t : Tr α) (x y : α), k < f → j < f → k ≠ j → setF f (setF f t k x) j y = setF f (setF f t j y) k x
  | 0, _, _, _, _, _, h, _, _ => by omega
  | f + 1, k, j, t, x, y, hk, hj, hne => by
    have key : ∀ (v : Option α) (l r : Tr α), setF (f + 1) (setF (f + 1) (.node v l r) k x) j y = setF (f + 1) (setF (f + 1) (.node v l r) j y) k x := by
      intro v l r
      by_cases k0 : k = 0
      · have j0 : ¬ j = 0 := fun e => hne (k0.trans e.symm)
        by_cases j1 : j % 2 = 1 <;> simp [setF, beq_dec, k0, j0, j1]
      · by_cases j0 : j = 0
        · by_cases k1 : k % 2 = 1 <;> simp [setF, beq_dec, k0, j0, k1]
        · by_cases k1 : k % 2 = 1 <;> by_cases j1 : j % 2 = 1
          · simp [setF, beq_dec, k0, j0, k1, j1]
            exact setF_comm f (k / 2) (j / 2) l x y (by omega) (by omega) (by omega)
          · simp [setF, beq_dec, k0, j0, k1, j1]
          · simp [setF, beq_dec, k0, j0, k1, j1]
          · simp [setF, beq_dec, k0, j0, k1, j1]
            exact setF_comm f (k / 2 - 1) (j / 2 - 1) r x y (by omega) (by omega) (by omega)
    cases t with
    | leaf => rw [setF_leaf, setF_leaf]; exact key none .leaf .leaf
    | node v l r => exact key v l r
theorem set_comm (t : Tr α) {k j : Nat} (x y : α) (h : k ≠ j) : (t.set k x).set j y = (t.set j y).set k x := by
  rw [set_eq, set_eq, set_eq, set_eq]
  rw [setF_more (k + 1) (k + j + 1) k t x (by omega) (by omega), setF_more (j + 1) (k + j + 1) j _ y (by omega) (by omega),
    setF_more (j + 1) (k + j + 1) j t y (by omega) (by omega), setF_more (k + 1) (k + j + 1) k _ x (by omega) (by omega)]
  exact setF_comm _ _ _ _ _ _ (by omega) (by omega) h
end Tr

/-! ### 2. Values -/
/-- a number that is not known but for what the tables say of it -/
inductive Sy where
  | lit (n : Int)
  | var (i : Nat)
  /-- an operation with wrapping -/
  | bin (op : BinOp) (k : IntKind) (a b : Sy)
  | wr (k : IntKind) (a : Sy)
  /-- the variable's rest -/
  | md (i : Nat) (n : Nat)
  /-- one of some numbers -/
  | tab (l : List Int) (a : Sy)
  deriving DecidableEq, Inhabited
inductive AV where
  | bool (b : Bool)
  | int (k : IntKind) (n : Int)
  | sym (k : IntKind) (z : Sy)
  /-- a slice of which nothing is asked -/
  | opq (i : Nat)
  | str (s : ByteArray)
  | ptr (b g off : Nat)
  /-- a pointer to one of so many elements of 'es' cells each from cell 'off' on -/
  | sptr (b g off len es : Nat) (z : Sy)
  | nilPtr
  /-- a slice of 'len' elements of 'es' cells from cell 'off' of block b's generation g on; its capacity is at least 'lo', and just 'lo' if 'exact' -/
  | sl (b g off len lo : Nat) (exact : Bool) (es : Nat)
  | nilSl
  | map (b : Nat)
  | nilMap
  | fn (f : FuncId) (first captured : List AV)
  | nilFn
  | iface (t : TypeId) (v : AV)
  | nilIface
  | agg (cs : List AV)
  | tup (vs : List AV)
  deriving Inhabited

def AV.undef : AV := .tup []
def AV.cells : AV → List AV
  | .agg cs => cs
  | v => [v]
def AV.one : AV → Bool
  | .agg _ | .tup _ => false
  | _ => true

/-- A value of the program's text. -/
def ofV1 : Value → Option AV
  | .bool b => some (.bool b)
  | .int k n => some (.int k n)
  | .string s => some (.str s)
  | .pointer none => some .nilPtr
  | .slice none 0 0 => some .nilSl
  | .map none => some .nilMap
  | .nilFunc => some .nilFn
  | .nilIface => some .nilIface
  | _ => none
def ofVs : List Value → Option (List AV)
  | [] => some []
  | v :: vs => (ofV1 v).bind fun x => (ofVs vs).bind fun xs => some (x :: xs)
def ofV : Value → Option AV
  | .agg cs => (ofVs cs.toList).bind fun xs => some (.agg xs)
  | .tuple cs => (ofVs cs.toList).bind fun xs => some (.tup xs)
  | .iface t v => (ofV1 v).bind fun x => some (.iface t x)
  | v => ofV1 v

/-! ### 3. The heap -/
inductive ABlk where
  /-- cells, each with the generation that wrote it; 'wr': it may be written -/
  | row (wr : Bool) (gen : Nat) (cells : List (AV × Nat))
  | map (es : List (AV × AV × Nat)) (clock : Nat)
  /-- an iterator over a map -/
  | iter (m : Option Nat) (since : Nat) (seen : List Nat) (last : Nat)
  deriving Inhabited

structure AHeap where
  t : Tr ABlk
  n : Nat
theorem beq_dec (a b : Nat) : Nat.beq a b = decide (a = b) := Tr.beq_dec a b
theorem blt_dec (a b : Nat) : Nat.blt a b = decide (a < b) := by
  cases h : Nat.blt a b with
  | true => simp [Nat.blt_eq] at h; simp [h]
  | false =>
    have : ¬ a < b := fun hlt => by rw [← Nat.blt_eq] at hlt; rw [h] at hlt; cases hlt
    simp [this]
theorem ble_dec (a b : Nat) : Nat.ble a b = decide (a ≤ b) := by
  cases h : Nat.ble a b with
  | true => simp [Nat.le_of_ble_eq_true h]
  | false =>
    have : ¬ a ≤ b := fun hle => by rw [Nat.ble_eq_true_of_le hle] at h; cases h
    simp [this]
namespace AHeap
/- by the recursor: so that the size and the tree are handed on, and no chain of projections grows -/
def get (H : AHeap) (b : Nat) : Option ABlk := AHeap.rec (motive := fun _ => Option ABlk) (fun t n => bif Nat.blt b n then t.get b else none) H
def set (H : AHeap) (b : Nat) (x : ABlk) : AHeap := AHeap.rec (motive := fun _ => AHeap) (fun t n => ⟨t.set b x, n⟩) H
def push (H : AHeap) (x : ABlk) : AHeap := AHeap.rec (motive := fun _ => AHeap) (fun t n => ⟨t.set n x, n + 1⟩) H
theorem get_def (H : AHeap) (b : Nat) : H.get b = bif Nat.blt b H.n then H.t.get b else none := rfl
theorem set_def (H : AHeap) (b : Nat) (x : ABlk) : H.set b x = ⟨H.t.set b x, H.n⟩ := rfl
theorem push_def (H : AHeap) (x : ABlk) : H.push x = ⟨H.t.set H.n x, H.n + 1⟩ := rfl
theorem get_lt {H : AHeap} {b : Nat} {x : ABlk} (h : H.get b = some x) : b < H.n := by
  rw [get_def] at h
  cases hb : Nat.blt b H.n with
  | true => simpa [Nat.blt_eq] using hb
  | false => simp [hb] at h
theorem get_none {H : AHeap} {b : Nat} (h : H.n ≤ b) : H.get b = none := by
  rw [get_def]
  have : Nat.blt b H.n = false := by simp [blt_dec]; omega
  simp [this]
theorem get_of_lt {H : AHeap} {b : Nat} (h : b < H.n) : H.get b = H.t.get b := by
  rw [get_def]
  have : Nat.blt b H.n = true := by simp [Nat.blt_eq]; exact h
  simp [this]
@[simp] theorem n_set (H : AHeap) (b : Nat) (x : ABlk) : (H.set b x).n = H.n := rfl
@[simp] theorem n_push (H : AHeap) (x : ABlk) : (H.push x).n = H.n + 1 := rfl
theorem get_set (H : AHeap) (b j : Nat) (x : ABlk) (hb : b < H.n) : (H.set b x).get j = if j = b then some x else H.get j := by
  by_cases hj : j < H.n
  · rw [get_of_lt (by simpa using hj)]
    simp only [set_def, Tr.get_set]
    rw [get_of_lt hj]
  · rw [get_none (by simp; omega), if_neg (by omega), get_none (by omega)]
theorem get_push (H : AHeap) (j : Nat) (x : ABlk) : (H.push x).get j = if j = H.n then some x else H.get j := by
  by_cases hj : j < H.n
  · rw [get_of_lt (by simp; omega)]
    simp only [push_def, Tr.get_set]
    rw [get_of_lt hj]
  · by_cases he : j = H.n
    · subst he
      rw [get_of_lt (by simp)]
      simp [push_def, Tr.get_set]
    · rw [get_none (by simp; omega), if_neg he, get_none (by omega)]
end AHeap

/-! ### 4. Types, functions -/
structure ATy where
  desc : TypeDesc
  size : Nat
  bytes : Nat
  zero : Option (List AV)
  /-- nothing that the model's comparison looks after stands in its way -/
  plain : Bool
def ATy.isAgg (a : ATy) : Bool := match a.desc with | .struct _ | .array _ _ => true | _ => false
structure Env where
  ty : TypeId → Option ATy
  fn : FuncId → Option Func
  glob : Nat → Option Nat
  /-- what is known of numbers that are not known -/
  le : Sy → Sy → Option Bool
  eq : Sy → Sy → Option Bool
  val : Sy → Option Int
  /-- an opaque slice of bytes that is a whole row: the row's abstract block (generation 0) and the slice's length -/
  opq : Nat → Option (Nat × Nat)
def isSym : AV → Bool
  | .sym _ _ => true
  | _ => false
def toSy : AV → Option (IntKind × Sy)
  | .int k n => some (k, .lit n)
  | .sym k z => some (k, z)
  | _ => none
/-- what a value is, asked of it by the recursor itself: the kernel does it fast -/
def AV.isSymQ (v : AV) : Bool := @AV.rec (fun _ => Bool) (fun _ => Bool) (fun _ => false) (fun _ _ => false) (fun _ _ => true) (fun _ => false) (fun _ => false) (fun _ _ _ => false) (fun _ _ _ _ _ _ => false) false (fun _ _ _ _ _ _ _ => false) false (fun _ => false) false (fun _ _ _ _ _ => false) false (fun _ _ _ => false) false (fun _ _ => false) (fun _ _ => false) false (fun _ _ _ _ => false) v
def AV.asInt (v : AV) : Option (IntKind × Int) := @AV.rec (fun _ => Option (IntKind × Int)) (fun _ => Bool) (fun _ => none) (fun k n => some (k, n)) (fun _ _ => none) (fun _ => none) (fun _ => none) (fun _ _ _ => none) (fun _ _ _ _ _ _ => none) none (fun _ _ _ _ _ _ _ => none) none (fun _ => none) none (fun _ _ _ _ _ => none) none (fun _ _ _ => none) none (fun _ _ => none) (fun _ _ => none) false (fun _ _ _ _ => false) v
def AV.asBool (v : AV) : Option Bool := @AV.rec (fun _ => Option Bool) (fun _ => Bool) (fun b => some b) (fun _ _ => none) (fun _ _ => none) (fun _ => none) (fun _ => none) (fun _ _ _ => none) (fun _ _ _ _ _ _ => none) none (fun _ _ _ _ _ _ _ => none) none (fun _ => none) none (fun _ _ _ _ _ => none) none (fun _ _ _ => none) none (fun _ _ => none) (fun _ _ => none) false (fun _ _ _ _ => false) v
def AV.asPtr (v : AV) : Option (Nat × Nat × Nat) := @AV.rec (fun _ => Option (Nat × Nat × Nat)) (fun _ => Bool) (fun _ => none) (fun _ _ => none) (fun _ _ => none) (fun _ => none) (fun _ => none) (fun b g o => some (b, g, o)) (fun _ _ _ _ _ _ => none) none (fun _ _ _ _ _ _ _ => none) none (fun _ => none) none (fun _ _ _ _ _ => none) none (fun _ _ _ => none) none (fun _ _ => none) (fun _ _ => none) false (fun _ _ _ _ => false) v
def Env.normO (E : Env) (v : AV) : AV := match v with
  | .sym k z => match E.val z with
    | some n => .int k n
    | none => .sym k z
  | v => v
def Env.norm (E : Env) (v : AV) : AV := cond v.isSymQ (E.normO v) v
theorem Env.norm_eq (E : Env) (v : AV) : E.norm v = E.normO v := by cases v <;> rfl

/-! ### 5. Cells of a row -/
def stamp0 (vs : List AV) : List (AV × Nat) := vs.map fun v => (v, 0)
/-- the cells from 'off' on, n of them, as generation g sees them -/
def readFrom (g : Nat) : Nat → List (AV × Nat) → Option (List AV)
  | 0, _ => some []
  | _ + 1, [] => none
  | n + 1, (v, s) :: r => bif Nat.ble s g then (readFrom g n r).bind fun vs => some (v :: vs) else none
/-- the same as List.drop; what is left out of the one before is taken over from there -/
def dropC {α : Type} (l : List α) : Nat → List α
  | 0 => l
  | n + 1 => (dropC l n).tail
theorem dropC_eq {α : Type} (l : List α) : ∀ n, dropC l n = l.drop n
  | 0 => rfl
  | n + 1 => by rw [dropC, dropC_eq l n, List.tail_drop]
def readCells (g off n : Nat) (cells : List (AV × Nat)) : Option (List AV) := readFrom g n (dropC cells off)
/-- one cell -/
def readCell (g off : Nat) (cells : List (AV × Nat)) : Option AV :=
  match dropC cells off with
  | (v, s) :: _ => bif Nat.ble s g then some v else none
  | [] => none
/-- write vs from 'off' on, all in range -/
def writeCells (g off : Nat) (vs : List AV) (cells : List (AV × Nat)) : Option (List (AV × Nat)) :=
  bif Nat.ble (off + vs.length) cells.length then some (cells.take off ++ vs.map (fun v => (v, g)) ++ cells.drop (off + vs.length)) else none

def aRow (H : AHeap) (b : Nat) : Option (Bool × Nat × List (AV × Nat)) :=
  match H.get b with
  | some (.row wr gen cells) => some (wr, gen, cells)
  | _ => none
def aRead (H : AHeap) (b g off n : Nat) : Option (List AV) := (aRow H b).bind fun (_, gen, cells) => bif Nat.ble g gen then readCells g off n cells else none
def aRead1 (H : AHeap) (b g off : Nat) : Option AV := (aRow H b).bind fun (_, gen, cells) => bif Nat.ble g gen then readCell g off cells else none
def aWrite0 (H : AHeap) (b g off : Nat) (vs : List AV) : Option AHeap :=
  (aRow H b).bind fun (wr, gen, cells) => bif wr && Nat.beq g gen && vs.all AV.one then (writeCells g off vs cells).bind fun cs => some (H.set b (.row wr gen cs)) else none
/-- the cell holds this already -/
def sameInts (g : Nat) : List AV → List (AV × Nat) → Bool
  | [.int k n], (.int k' m, s) :: _ => decide (k = k') && decide (n = m) && Nat.beq s g
  | _, _ => false
def sameRow (H : AHeap) (b g off : Nat) (vs : List AV) : Bool :=
  match aRow H b with
  | some (wr, gen, cells) => wr && Nat.beq g gen && sameInts g vs (dropC cells off)
  | none => false
def aWrite (H : AHeap) (b g off : Nat) (vs : List AV) : Option AHeap := bif sameRow H b g off vs then some H else aWrite0 H b g off vs
theorem aWrite_inv {H : AHeap} {b g off : Nat} {vs : List AV} {H' : AHeap} (h : aWrite H b g off vs = some H') : ∃ H2, aWrite0 H b g off vs = some H2 ∧ H2.n = H'.n ∧ ∀ j, H2.get j = H'.get j := by
  unfold aWrite at h
  cases hs : sameRow H b g off vs with
  | false => rw [hs] at h; exact ⟨H', h, rfl, fun _ => rfl⟩
  | true =>
    rw [hs] at h
    cases h
    unfold sameRow at hs
    split at hs
    case h_2 => cases hs
    rename_i wr gen cells hrow
    simp only [Bool.and_eq_true, Nat.beq_eq] at hs
    obtain ⟨⟨rfl, rfl⟩, hs⟩ := hs
    unfold sameInts at hs
    split at hs
    case h_2 => cases hs
    rename_i k n k' m s r hd
    simp only [Bool.and_eq_true, decide_eq_true_eq, Nat.beq_eq] at hs
    obtain ⟨⟨rfl, rfl⟩, rfl⟩ := hs
    rw [dropC_eq] at hd
    have hget : H.get b = some (.row true s cells) := by
      unfold aRow at hrow
      split at hrow
      · rename_i hg; cases hrow; exact hg
      · cases hrow
    have hlen : off + 1 ≤ cells.length := by
      have := congrArg List.length hd
      simp at this
      omega
    have hcs : cells.take off ++ [(AV.int k n, s)] ++ cells.drop (off + 1) = cells := by
      have h1 : cells.drop (off + 1) = r := by rw [← List.tail_drop, hd]; rfl
      rw [h1, List.append_assoc, List.singleton_append, ← hd, List.take_append_drop]
    refine ⟨H.set b (.row true s cells), ?_, rfl, fun j => ?_⟩
    · simp only [aWrite0, hrow, Option.bind_some, writeCells, List.length_singleton, List.map_cons, List.map_nil, hcs]
      have : Nat.ble (off + 1) cells.length = true := by rw [Nat.ble_eq]; exact hlen
      simp [this, AV.one]
    · rw [AHeap.get_set _ _ _ _ (AHeap.get_lt hget)]
      split
      · rename_i e; rw [e, hget]
      · rfl
theorem aWrite_row {H : AHeap} {b g off : Nat} {vs : List AV} {H' : AHeap} (h : aWrite H b g off vs = some H') : ∃ gen cells, aRow H b = some (true, gen, cells) := by
  obtain ⟨H2, h0, _⟩ := aWrite_inv h
  simp only [aWrite0, Option.bind_eq_some_iff] at h0
  obtain ⟨⟨wr, gen, cells⟩, hrow, h6⟩ := h0
  cases wr with
  | false => simp at h6
  | true => exact ⟨gen, cells, hrow⟩
/-! ### 6. Operations -/
/-- the numbers in every so-many-th cell -/
def aTab (H : AHeap) (b g es : Nat) (k : IntKind) : Nat → Nat → Option (List Int)
  | 0, _ => some []
  | n + 1, off => (aRead1 H b g off).bind fun v => match v with
    | .int k' m => bif decide (k' = k) then (aTab H b g es k n (off + es)).bind fun l => some (m :: l) else none
    | _ => none
def aLoadO (E : Env) (H : AHeap) (t : TypeId) (p : AV) : Option AV :=
  match p with
  | .ptr b g off => (E.ty t).bind fun a => bif a.isAgg then (aRead H b g off a.size).bind fun vs => some (.agg vs) else aRead1 H b g off
  | .sptr b g off len es z => (E.ty t).bind fun a => match a.desc with
    | .int k => (aTab H b g es k len off).bind fun l => some (.sym k (.tab l z))
    | _ => none
  | _ => none
def aLoad (E : Env) (H : AHeap) (t : TypeId) (p : AV) : Option AV :=
  Option.rec (motive := fun _ => Option AV) (aLoadO E H t p) (fun q => (E.ty t).bind fun a => bif a.isAgg then (aRead H q.1 q.2.1 q.2.2 a.size).bind fun vs => some (.agg vs) else aRead1 H q.1 q.2.1 q.2.2) p.asPtr
theorem aLoad_eq (E : Env) (H : AHeap) (t : TypeId) (p : AV) : aLoad E H t p = aLoadO E H t p := by cases p <;> rfl
def aStore (E : Env) (H : AHeap) (t : TypeId) (p v : AV) : Option AHeap :=
  match p with
  | .ptr b g off => (E.ty t).bind fun a => bif Nat.beq v.cells.length a.size then aWrite H b g off v.cells else none
  | _ => none
/-- a new block, and the value that leads to it, by its number -/
abbrev ANew := ABlk × (Nat → AV)
def aAlloc (E : Env) (t : TypeId) : Option ANew := (E.ty t).bind fun a => a.zero.bind fun z => bif z.all AV.one then some (.row true 0 (stamp0 z), fun b => .ptr b 0 0) else none
def aBox (v : AV) : Option ANew := bif v.cells.all AV.one then some (.row true 0 (stamp0 v.cells), fun b => .ptr b 0 0) else none

def aFill (place : Nat → Option (Nat × Nat)) (cells : List AV) : List (Nat × AV) → Option (List AV)
  | [] => some cells
  | (i, v) :: rest => (place i).bind fun (off, size) =>
      bif Nat.beq v.cells.length size && Nat.ble (off + size) cells.length then aFill place (cells.take off ++ v.cells ++ cells.drop (off + size)) rest else none
def aPlaces (E : Env) : List Field → Option (List (Nat × Nat))
  | [] => some []
  | f :: fs => (E.ty f.type).bind fun a => (aPlaces E fs).bind fun ps => some ((f.offset, a.size) :: ps)
def aBuild (E : Env) (t : TypeId) (parts : List (Nat × AV)) : Option AV :=
  (E.ty t).bind fun a => a.zero.bind fun z => match a.desc with
    | .struct fields => (aPlaces E fields.toList).bind fun ps => (aFill (ps[·]?) z parts).bind fun cs => some (.agg cs)
    | .array _ elem => (E.ty elem).bind fun e => (aFill (fun i => some (i * e.size, e.size)) z parts).bind fun cs => some (.agg cs)
    | _ => none
def aZeros (z : List AV) : Nat → List AV
  | 0 => []
  | n + 1 => z ++ aZeros z n
def aBuildSlice (E : Env) (t : TypeId) (len : Nat) (parts : List (Nat × AV)) : Option ANew :=
  (E.ty t).bind fun a => match a.desc with
    | .slice elem => (E.ty elem).bind fun e => e.zero.bind fun z =>
        bif Nat.ble (len * e.size) 16777216 && Nat.beq z.length e.size && Nat.blt 0 e.size then
          (aFill (fun i => some (i * e.size, e.size)) (aZeros z len) parts).bind fun cs => bif cs.all AV.one then some (.row true 0 (stamp0 cs), fun b => .sl b 0 0 len len true e.size) else none
        else none
    | _ => none
def aMakeSlice (E : Env) (t : TypeId) (l c : AV) : Option ANew :=
  match l, c with
  | .int .i64 l, .int .i64 c => (E.ty t).bind fun a => match a.desc with
    | .slice elem => (E.ty elem).bind fun e => e.zero.bind fun z =>
        bif decide (0 ≤ l) && decide (l ≤ c) && decide (c ≤ 9223372036854775807) && decide (e.bytes * c ≤ 281474976710656) && Nat.beq z.length e.size && z.all AV.one && Nat.blt 0 e.size then
          some (.row true 0 (stamp0 (aZeros z c.toNat)), fun b => .sl b 0 0 l.toNat c.toNat true e.size)
        else none
    | _ => none
  | _, _ => none
def aNilCheck (x : AV) : Option AV :=
  match x with
  | .ptr .. | .fn .. | .map .. => some x
  | _ => none
def aIntBin (op : BinOp) (k : IntKind) (a b : Int) : Option AV :=
  match op with
  | .add => some (.int k (k.wrap (a + b)))
  | .sub => some (.int k (k.wrap (a - b)))
  | .mul => some (.int k (k.wrap (a * b)))
  | .quo => if b = 0 then none else some (.int k (k.wrap (a.tdiv b)))
  | .rem => if b = 0 then none else some (.int k (a.tmod b))
  | .and => some (.int k (k.wrap ((BitVec.ofInt k.bits a &&& BitVec.ofInt k.bits b).toNat)))
  | .or => some (.int k (k.wrap ((BitVec.ofInt k.bits a ||| BitVec.ofInt k.bits b).toNat)))
  | .xor => some (.int k (k.wrap ((BitVec.ofInt k.bits a ^^^ BitVec.ofInt k.bits b).toNat)))
  | .andNot => some (.int k (k.wrap ((BitVec.ofInt k.bits a &&& ~~~BitVec.ofInt k.bits b).toNat)))
  | .eql => some (.bool (a == b))
  | .neq => some (.bool (a != b))
  | .lss => some (.bool (decide (a < b)))
  | .leq => some (.bool (decide (a ≤ b)))
  | .gtr => some (.bool (decide (a > b)))
  | .geq => some (.bool (decide (a ≥ b)))
  | .shl | .shr => none
def aShift (op : BinOp) (k : IntKind) (a b : Int) : Option AV :=
  if b < 0 then none else
  match op with
  | .shl => some (.int k (k.wrap (a * 2 ^ (min b.toNat k.bits))))
  | .shr => some (.int k (a.fdiv (2 ^ (min b.toNat k.bits))))
  | _ => none
def aStrBin (op : BinOp) (x y : ByteArray) : Option AV :=
  match op with
  | .add => bif Nat.ble (x.size + y.size) 9223372036854775807 then some (.str (x ++ y)) else none
  | .eql => some (.bool (x.data.toList == y.data.toList))
  | .neq => some (.bool !(x.data.toList == y.data.toList))
  | .lss => some (.bool (Op.bytesLess x.data.toList y.data.toList))
  | .leq => some (.bool (Op.bytesLess x.data.toList y.data.toList || x.data.toList == y.data.toList))
  | .gtr => some (.bool !(Op.bytesLess x.data.toList y.data.toList || x.data.toList == y.data.toList))
  | .geq => some (.bool !(Op.bytesLess x.data.toList y.data.toList))
  | _ => none
def aWrRow (H : AHeap) (b : Nat) : Bool := match H.get b with | some (.row wr _ _) => wr | _ => false
def aWr (H : AHeap) (b : Nat) : Bool := match H.get b with | some (.row wr _ _) => wr | some _ => true | none => false
def aPart (E : Env) (t : TypeId) (cs : List AV) (off : Nat) : Option AV :=
  (E.ty t).bind fun a => bif a.isAgg then (bif Nat.ble (off + a.size) cs.length then some (.agg ((cs.drop off).take a.size)) else none) else cs[off]?
def aEqFields (E : Env) (eq : TypeId → AV → AV → Option Bool) (xs ys : List AV) : List Field → Option Bool
  | [] => some true
  | f :: fs => if f.name ≠ "_" then
      (aPart E f.type xs f.offset).bind fun u => (aPart E f.type ys f.offset).bind fun v => (eq f.type u v).bind fun r => bif r then aEqFields E eq xs ys fs else some false
    else aEqFields E eq xs ys fs
def aEqItems (E : Env) (eq : AV → AV → Option Bool) (t : TypeId) (n : Nat) (xs ys : List AV) : List Nat → Option Bool
  | [] => some true
  | i :: is => (aPart E t xs (i * n)).bind fun u => (aPart E t ys (i * n)).bind fun v => (eq u v).bind fun r => bif r then aEqItems E eq t n xs ys is else some false
/-- '==' at a type -/
def aEq (E : Env) (H : AHeap) : Nat → TypeId → AV → AV → Option Bool
  | 0, _, _, _ => none
  | d + 1, t, x, y => (E.ty t).bind fun a => match a.desc, x, y with
    | .bool, .bool p, .bool q => some (p == q)
    | .int _, .int k p, .int k' q => if k = k' then some (p == q) else none
    | .string, .str p, .str q => some (p.data.toList == q.data.toList)
    | .pointer _, .nilPtr, .nilPtr => some true
    | .pointer _, .nilPtr, .ptr .. => some false
    | .pointer _, .ptr .., .nilPtr => some false
    | .pointer e, .ptr b g o, .ptr b' g' o' => (E.ty e).bind fun ae => bif Nat.beq ae.size 0 then none else
        bif Nat.beq b b' then (bif Nat.beq g g' then some (Nat.beq o o') else none) else bif aWrRow H b && aWrRow H b' then some false else none
    | .interface _, .nilIface, .nilIface => some true
    | .interface _, .nilIface, .iface .. => some false
    | .interface _, .iface .., .nilIface => some false
    | .slice _, .nilSl, .nilSl => some true
    | .slice _, .nilSl, .sl .. => some false
    | .slice _, .sl .., .nilSl => some false
    | .map _ _, .nilMap, .nilMap => some true
    | .map _ _, .nilMap, .map _ => some false
    | .map _ _, .map _, .nilMap => some false
    | .func _ _ _, .nilFn, .nilFn => some true
    | .func _ _ _, .nilFn, .fn .. => some false
    | .func _ _ _, .fn .., .nilFn => some false
    | .struct fields, .agg xs, .agg ys => bif a.plain then aEqFields E (aEq E H d) xs ys fields.toList else none
    | .array n e, .agg xs, .agg ys => (E.ty e).bind fun ae => aEqItems E (aEq E H d e) e ae.size xs ys (List.range n)
    | .int _, x, y => (toSy x).bind fun p => (toSy y).bind fun q => if p.1 = q.1 then E.eq p.2 q.2 else none
    | _, _, _ => none
/-- nothing of what the model asks ahead of '==' stands in the way -/
def aGuard (E : Env) (t : TypeId) (x y : AV) : Bool :=
  match x, y with
  | .nilIface, .nilIface => false
  | .agg _, .agg _ => match E.ty t with | some a => a.plain | none => false
  | _, _ => true
/-- on numbers and strings -/
def aBinS : BinOp → AV → AV → Option (Option AV)
  | .shl, .int k a, .int _ b => some (aShift .shl k a b)
  | .shr, .int k a, .int _ b => some (aShift .shr k a b)
  | op, .int k a, .int k' b => some (if k = k' then aIntBin op k a b else none)
  | op, .str a, .str b => some (aStrBin op a b)
  | _, _, _ => none
def aBinE (E : Env) (H : AHeap) (op : BinOp) (t : TypeId) (x y : AV) : Option AV :=
  match op with
  | .eql => bif aGuard E t x y then (aEq E H 20 t x y).bind fun r => some (.bool r) else none
  | .neq => bif aGuard E t x y then (aEq E H 20 t x y).bind fun r => some (.bool !r) else none
  | _ => none
/-- on numbers of which one is not known -/
def aSymBin (E : Env) (op : BinOp) (k : IntKind) (a b : Sy) : Option AV :=
  match op with
  | .add | .sub | .mul | .and | .or | .xor | .andNot => some (.sym k (.bin op k a b))
  | .quo | .rem => match b with
    | .lit n => if n = 0 then none else some (.sym k (.bin op k a b))
    | _ => none
  | .eql => (E.eq a b).bind fun r => some (.bool r)
  | .neq => (E.eq a b).bind fun r => some (.bool !r)
  | .lss => (E.le b a).bind fun r => some (.bool !r)
  | .leq => (E.le a b).bind fun r => some (.bool r)
  | .gtr => (E.le a b).bind fun r => some (.bool !r)
  | .geq => (E.le b a).bind fun r => some (.bool r)
  | .shl | .shr => none
def aBinO (E : Env) (H : AHeap) (op : BinOp) (t : TypeId) (x y : AV) : Option AV :=
  bif isSym x || isSym y then (toSy x).bind fun p => (toSy y).bind fun q => if p.1 = q.1 then aSymBin E op p.1 p.2 q.2 else none
  else match aBinS op x y with
  | some r => r
  | none => aBinE E H op t x y
def intPair (op : BinOp) : IntKind → Int → IntKind → Int → Option AV := by
  induction op with
  | shl => exact fun k a _ b => aShift .shl k a b
  | shr => exact fun k a _ b => aShift .shr k a b
  | add => exact fun k a k' b => if k = k' then some (.int k (k.wrap (a + b))) else none
  | sub => exact fun k a k' b => if k = k' then some (.int k (k.wrap (a - b))) else none
  | mul => exact fun k a k' b => if k = k' then some (.int k (k.wrap (a * b))) else none
  | quo => exact fun k a k' b => if k = k' then (if b = 0 then none else some (.int k (k.wrap (a.tdiv b)))) else none
  | rem => exact fun k a k' b => if k = k' then (if b = 0 then none else some (.int k (a.tmod b))) else none
  | and => exact fun k a k' b => if k = k' then some (.int k (k.wrap ((BitVec.ofInt k.bits a &&& BitVec.ofInt k.bits b).toNat))) else none
  | or => exact fun k a k' b => if k = k' then some (.int k (k.wrap ((BitVec.ofInt k.bits a ||| BitVec.ofInt k.bits b).toNat))) else none
  | xor => exact fun k a k' b => if k = k' then some (.int k (k.wrap ((BitVec.ofInt k.bits a ^^^ BitVec.ofInt k.bits b).toNat))) else none
  | andNot => exact fun k a k' b => if k = k' then some (.int k (k.wrap ((BitVec.ofInt k.bits a &&& ~~~BitVec.ofInt k.bits b).toNat))) else none
  | eql => exact fun k a k' b => if k = k' then some (.bool (a == b)) else none
  | neq => exact fun k a k' b => if k = k' then some (.bool (a != b)) else none
  | lss => exact fun k a k' b => if k = k' then some (.bool (decide (a < b))) else none
  | leq => exact fun k a k' b => if k = k' then some (.bool (decide (a ≤ b))) else none
  | gtr => exact fun k a k' b => if k = k' then some (.bool (decide (a > b))) else none
  | geq => exact fun k a k' b => if k = k' then some (.bool (decide (a ≥ b))) else none
def aBin (E : Env) (H : AHeap) (op : BinOp) (t : TypeId) (x y : AV) : Option AV :=
  Option.rec (motive := fun _ => Option AV) (aBinO E H op t x y) (fun p => Option.rec (motive := fun _ => Option AV) (aBinO E H op t x y) (fun q => intPair op p.1 p.2 q.1 q.2) y.asInt) x.asInt
theorem aBin_eq (E : Env) (H : AHeap) (op : BinOp) (t : TypeId) (x y : AV) : aBin E H op t x y = aBinO E H op t x y := by
  cases x
  case int k a =>
    cases y
    case int k' b => cases op <;> rfl
    all_goals rfl
  all_goals rfl
def aUn (op : UnOp) (x : AV) : Option AV :=
  match op, x with
  | .neg, .int k n => aIntBin .sub k 0 n
  | .xor, .int k n => aIntBin .xor k (if k.signed then -1 else k.max) n
  | .not, .bool b => some (.bool !b)
  | .neg, .sym k z => some (.sym k (.bin .sub k (.lit 0) z))
  | _, _ => none
/-- a conversion of a conversion -/
def mkWr (k : IntKind) (z : Sy) : Sy := match k, z with
  | .i32, .wr .u32 a => .wr .i32 a
  | k, z => .wr k z
def aConvert (E : Env) (src dst : TypeId) (x : AV) : Option AV :=
  (E.ty src).bind fun s => (E.ty dst).bind fun d => match s.desc, d.desc, x with
    | .int _, .int k, .int _ n => some (.int k (k.wrap n))
    | .int _, .int k, .sym _ z => some (.sym k (mkWr k z))
    | .string, .string, .str s => some (.str s)
    | _, _, _ => none
def aSlBound (x : Option AV) (d y : Nat) : Option Nat :=
  match x with
  | none => some d
  | some (.int _ i) => bif decide (0 ≤ i) && decide (i ≤ (y : Int)) then some i.toNat else none
  | _ => none
def aSlice (E : Env) (t : TypeId) (x : AV) (lo hi mx : Option AV) : Option AV :=
  (E.ty t).bind fun a => match a.desc, x with
    | .string, .str s => match mx with
      | none => (aSlBound hi s.size s.size).bind fun h => (aSlBound lo 0 h).bind fun l => some (.str (s.extract l h))
      | _ => none
    | .slice elem, .sl b g off len lo' ex es => (E.ty elem).bind fun e => bif Nat.beq e.size es then
        (aSlBound mx lo' lo').bind fun m => (aSlBound hi len m).bind fun h => (aSlBound lo 0 h).bind fun l =>
          some (.sl b g (off + l * es) (h - l) (m - l) (ex || mx.isSome) es) else none
    | .slice elem, .nilSl => (E.ty elem).bind fun _ => (aSlBound mx 0 0).bind fun m => (aSlBound hi 0 m).bind fun h => (aSlBound lo 0 h).bind fun l => some .nilSl
    | .array n elem, .ptr b g off => (E.ty elem).bind fun e => bif Nat.ble n 9223372036854775807 then
        (aSlBound mx n n).bind fun m => (aSlBound hi n m).bind fun h => (aSlBound lo 0 h).bind fun l =>
          some (.sl b g (off + l * e.size) (h - l) (m - l) true e.size) else none
    | _, _ => none
def aFieldAddr (E : Env) (s : TypeId) (x : AV) (f : Nat) : Option AV :=
  (E.ty s).bind fun a => match a.desc, x with
    | .struct fields, .ptr b g off => (fields[f]?).bind fun fd => (E.ty fd.type).bind fun e => bif Nat.beq e.size 0 then none else some (.ptr b g (off + fd.offset))
    | _, _ => none
def aField (E : Env) (s : TypeId) (x : AV) (f : Nat) : Option AV :=
  (E.ty s).bind fun a => match a.desc, x with
    | .struct fields, .agg cs => (fields[f]?).bind fun fd => aPart E fd.type cs fd.offset
    | _, _ => none
def aIndexAddr (E : Env) (t : TypeId) (x i : AV) : Option AV :=
  match i with
  | .int _ i => (E.ty t).bind fun a => match a.desc, x with
    | .array n elem, .ptr b g off => (E.ty elem).bind fun e => bif decide (0 ≤ i) && decide (i < (n : Int)) then some (.ptr b g (off + i.toNat * e.size)) else none
    | .slice elem, .sl b g off len lo ex es => (E.ty elem).bind fun e => bif decide (0 ≤ i) && decide (i < (len : Int)) && Nat.beq e.size es then some (.ptr b g (off + i.toNat * es)) else none
    | _, _ => none
  | .sym _ z => (E.ty t).bind fun a => match a.desc, x with
    | .slice elem, .sl b g off len lo ex es => (E.ty elem).bind fun e => match E.le (.lit 0) z, E.le (.lit (len : Int)) z, Nat.beq e.size es with
      | some true, some false, true => some (.sptr b g off len es z)
      | _, _, _ => none
    | _, _ => none
  | _ => none
def aIndex (E : Env) (t : TypeId) (x i : AV) : Option AV :=
  match i with
  | .int _ i => (E.ty t).bind fun a => match a.desc, x with
    | .array n elem, .agg cs => (E.ty elem).bind fun e => bif decide (0 ≤ i) && decide (i < (n : Int)) then aPart E elem cs (i.toNat * e.size) else none
    | .string, .str s => if 0 ≤ i then (s[i.toNat]?).bind fun c => some (.int .u8 c.toNat) else none
    | _, _ => none
  | _ => none
def aExtract (x : AV) (i : Nat) : Option AV :=
  match x with
  | .tup vs => vs[i]?
  | _ => none
def aMkIface (E : Env) (t : TypeId) (x : AV) : Option AV :=
  (E.ty t).bind fun a => match a.desc with
    | .interface _ => none
    | _ => some (.iface t x)
/-! maps -/
def aScalarEq : AV → AV → Option Bool
  | .int k a, .int k' b => if k = k' then some (a == b) else none
  | .str a, .str b => some (a == b)
  | .bool a, .bool b => some (a == b)
  | _, _ => none
def keyKind : TypeDesc → AV → Bool
  | .int _, .int _ _ => true
  | .string, .str _ => true
  | .bool, .bool _ => true
  | _, _ => false
def aKeyOK (E : Env) (t : TypeId) (k : AV) : Bool :=
  match E.ty t with
  | some a => keyKind a.desc k
  | none => false
def aFind (k : AV) : List (AV × AV × Nat) → Nat → Option (Option (Nat × AV × Nat))
  | [], _ => some none
  | (k', v, s) :: es, i => (aScalarEq k k').bind fun r => bif r then some (some (i, v, s)) else aFind k es (i + 1)
def aMap (H : AHeap) (b : Nat) : Option (List (AV × AV × Nat) × Nat) :=
  match H.get b with
  | some (.map es clock) => some (es, clock)
  | _ => none
def aRange (E : Env) (H : AHeap) (t : TypeId) (x : AV) : Option (AV × AHeap) :=
  (E.ty t).bind fun a => match a.desc with
    | .map _ _ => match x with
      | .nilMap => some (.ptr H.n 0 0, H.push (.iter none 0 [] 0))
      | .map b => (aMap H b).bind fun p => some (.ptr H.n 0 0, H.push (.iter (some b) p.2 [] p.2))
      | _ => none
    | _ => none
def aIter (H : AHeap) (b : Nat) : Option (Option Nat × Nat × List Nat × Nat) :=
  match H.get b with
  | some (.iter m s l t) => some (m, s, l, t)
  | _ => none
def aNextM (H : AHeap) (b m since : Nat) (seen : List Nat) (last : Nat) (es : List (AV × AV × Nat)) (clock : Nat) : Option (AV × AHeap) :=
  bif !seen.isEmpty && !es.isEmpty && es.all (fun e => decide (e.2.2 ≥ last)) then none else
  match es.filter fun e => !seen.elem e.2.2 with
  | [] => some (.tup [.bool false], H)
  | [e] => bif Nat.blt e.2.2 since then some (.tup [.bool true, e.1, e.2.1], H.set b (.iter (some m) since (seen ++ [e.2.2]) clock)) else none
  | _ => none
/-- the next entry of a map, if there is no choice -/
def aNext (H : AHeap) (x : AV) : Option (AV × AHeap) :=
  match x with
  | .ptr b 0 0 => (aIter H b).bind fun p => match p with
    | (none, _, _, _) => some (.tup [.bool false], H)
    | (some m, since, seen, last) => (aMap H m).bind fun q => aNextM H b m since seen last q.1 q.2
  | _ => none
/-- the entry at which the iterator stands -/
def aEntry (H : AHeap) (x : AV) : Option (AV × AHeap) :=
  match x with
  | .ptr b 0 0 => (aIter H b).bind fun p => match p with
    | (some m, _, seen, stepped) => (seen.getLast?).bind fun stamp => (aMap H m).bind fun q =>
      bif Nat.beq q.2 stepped then (q.1.find? fun e => Nat.beq e.2.2 stamp).bind fun e => some (.tup [e.1, e.2.1], H) else none
    | _ => none
  | _ => none
def aZeroV (e : ATy) : Option AV := e.zero.bind fun z => bif e.isAgg then some (AV.agg z) else z[0]?
def lookRes (E : Env) (et : TypeId) (ok : Bool) : Option (Nat × AV × Nat) → Option AV
  | some (_, v, _) => some (bif ok then .tup [v, .bool true] else v)
  | none => (E.ty et).bind fun e => (aZeroV e).bind fun v => some (bif ok then .tup [v, .bool false] else v)
def aEnts (H : AHeap) : AV → Option (List (AV × AV × Nat))
  | .nilMap => some []
  | .map b => (aMap H b).bind fun (es, _) => some es
  | _ => none
def aLookup (E : Env) (H : AHeap) (t : TypeId) (x k : AV) (ok : Bool) : Option AV :=
  (E.ty t).bind fun a => match a.desc with
    | .map kt et => bif aKeyOK E kt k then (aEnts H x).bind fun es => (aFind k es 0).bind fun r => lookRes E et ok r else none
    | _ => none
def aMapUpdate (E : Env) (H : AHeap) (t : TypeId) (m k v : AV) : Option AHeap :=
  (E.ty t).bind fun a => match a.desc, m with
    | .map kt _, .map b => bif aKeyOK E kt k then (aMap H b).bind fun (es, clock) =>
        (aFind k es 0).bind fun r => match r with
          | some (i, _, s) => some (H.set b (.map (es.set i (k, v, s)) clock))
          | none => some (H.set b (.map (es ++ [(k, v, clock)]) (clock + 1))) else none
    | _, _ => none
def aMapEntry (E : Env) (H : AHeap) (t : TypeId) (m k : AV) : Option (AV × AHeap) :=
  (E.ty t).bind fun a => match a.desc, m with
    | .map kt et, .map b => bif aKeyOK E kt k then (aMap H b).bind fun (es, clock) =>
        (aFind k es 0).bind fun r => match r with
          | some (i, v, s) => some (.tup [v, .int .i64 s], H.set b (.map es clock))
          | none => (E.ty et).bind fun e => (aZeroV e).bind fun v =>
              some (.tup [v, .int .i64 clock], H.set b (.map (es ++ [(k, v, clock)]) (clock + 1))) else none
    | _, _ => none
def aMakeMap : ANew := (.map [] 0, fun b => .map b)
/-! builtins -/
def aLen (E : Env) (H : AHeap) (t : TypeId) (x : AV) : Option AV :=
  (E.ty t).bind fun a => match a.desc, x with
    | .string, .str s => some (.int .i64 s.size)
    | .array n _, _ => some (.int .i64 n)
    | .pointer arr, _ => (E.ty arr).bind fun e => match e.desc with | .array n _ => some (.int .i64 n) | _ => none
    | .slice _, .sl _ _ _ len _ _ _ => some (.int .i64 len)
    | .slice _, .nilSl => some (.int .i64 0)
    | .slice _, .opq i => (E.opq i).bind fun p => some (.int .i64 p.2)
    | .map _ _, .nilMap => some (.int .i64 0)
    | .map _ _, .map b => (aMap H b).bind fun (es, _) => some (.int .i64 es.length)
    | _, _ => none
def aCap (E : Env) (t : TypeId) (x : AV) : Option AV :=
  (E.ty t).bind fun a => match a.desc, x with
    | .slice _, .sl _ _ _ _ lo true _ => some (.int .i64 lo)
    | .slice _, .nilSl => some (.int .i64 0)
    | .array n _, _ => some (.int .i64 n)
    | _, _ => none
def aSrc (H : AHeap) (es : Nat) (x : AV) : Option (Nat × List AV) :=
  match x with
  | .sl b g off len _ _ es' => bif Nat.beq es es' then (aRead H b g off (len * es)).bind fun vs => some (len, vs) else none
  | .nilSl => some (0, [])
  | .str s => bif Nat.beq es 1 then some (s.size, s.data.toList.map fun c => AV.int .u8 c.toNat) else none
  | _ => none
def aAppendTo (H : AHeap) (bytes es : Nat) (s : AV) (m : Nat) (news : List AV) : Option (AV × AHeap) :=
  match s with
  | .nilSl => bif Nat.beq m 0 then some (.nilSl, H) else some (.sl H.n 0 0 m m false es, H.push (.row true 0 (stamp0 news)))
  | .sl b g off len lo ex es' => bif Nat.beq es es' then
      bif Nat.ble (len + m) lo then
        (bif Nat.beq m 0 then some H else aWrite H b g (off + len * es) news).bind fun H' => some (.sl b g off (len + m) lo ex es, H')
      else bif ex then
        (aRead H b g off (len * es)).bind fun olds => some (.sl H.n 0 0 (len + m) (len + m) false es, H.push (.row true 0 (stamp0 (olds ++ news))))
      else
        (aRow H b).bind fun (wr, gen, cells) => bif wr && Nat.beq off 0 then
          (aRead H b g 0 (len * es)).bind fun _ =>
            some (.sl b (gen + 1) 0 (len + m) (len + m) false es, H.set b (.row true (gen + 1) (cells.take (len * es) ++ news.map fun v => (v, gen + 1))))
          else none
      else none
  | _ => none
def aAppSrc (d : TypeDesc) (H : AHeap) (es : Nat) (z : List AV) (x : AV) : Option (Nat × List AV) :=
  match d with
  | .int _ => match x with
    | .int .i64 n => bif decide (0 ≤ n) && decide (n ≤ 9223372036854775807) then some (n.toNat, aZeros z n.toNat) else none
    | _ => none
  | _ => aSrc H es x
def aLenOf : AV → Option Nat
  | .sl _ _ _ len _ _ _ => some len
  | .nilSl => some 0
  | _ => none
/-- append to an opaque slice: what was in it is not known, nor what is in it then -/
def aAppOpq (E : Env) (H : AHeap) (bytes es : Nat) (s : AV) (m : Nat) (news : List AV) : Option (AV × AHeap) :=
  match s with
  | .opq i => (E.opq i).bind fun p => bif Nat.beq bytes 1 && Nat.beq es 1 && Nat.blt 0 m && Nat.ble m 1000000 && news.all AV.one then
      (aRow H p.1).bind fun r => bif r.1 && Nat.beq r.2.1 0 then some (.sl p.1 1 0 (p.2 + m) (p.2 + m) false 1, H.set p.1 (.row true 1 [])) else none else none
  | _ => none
def aAppend (E : Env) (H : AHeap) (t xt : TypeId) (s x : AV) : Option (AV × AHeap) :=
  (E.ty t).bind fun a => match a.desc with
    | .slice elem => (E.ty elem).bind fun e => (E.ty xt).bind fun ax => e.zero.bind fun z =>
        bif Nat.blt 0 e.size && Nat.beq z.length e.size && z.all AV.one then
        (aAppSrc ax.desc H e.size z x).bind fun (m, news) => match aLenOf s with
        | some len => bif Nat.ble ((len + m) * e.bytes) 140737488355328 && Nat.ble (len + m) 9223372036854775807 && news.all AV.one then aAppendTo H e.bytes e.size s m news else none
        | none => match ax.desc with
          | .int _ => none
          | _ => aAppOpq E H e.bytes e.size s m news
        else none
    | _ => none
def aCopy (E : Env) (H : AHeap) (t : TypeId) (d x : AV) : Option (AV × AHeap) :=
  (E.ty t).bind fun a => match a.desc with
    | .slice elem => (E.ty elem).bind fun e => match d with
      | .nilSl => (aSrc H e.size x).bind fun _ => some (.int .i64 0, H)
      | .sl b g off len _ _ es => bif Nat.beq es e.size then (aSrc H e.size x).bind fun (m, vs) =>
          bif Nat.beq (min m len) 0 then some (.int .i64 0, H) else
          (aWrite H b g off (vs.take (min m len * es))).bind fun H' => some (.int .i64 (min m len : Nat), H') else none
      | _ => none
    | _ => none
def aClear (E : Env) (H : AHeap) (t : TypeId) (x : AV) : Option AHeap :=
  match x with
  | .nilSl => (E.ty t).bind fun _ => some H
  | .sl b g off len _ _ es => bif Nat.beq len 0 then (E.ty t).bind fun _ => some H else (E.ty t).bind fun a => match a.desc with
    | .slice elem => (E.ty elem).bind fun e => e.zero.bind fun z => bif Nat.beq e.size es && Nat.beq z.length es && z.all AV.one then aWrite H b g off (aZeros z len) else none
    | _ => none
  | _ => none
def aDelete (E : Env) (H : AHeap) (t : TypeId) (m k : AV) : Option AHeap :=
  (E.ty t).bind fun a => match a.desc with
    | .map kt _ => bif aKeyOK E kt k then match m with
      | .nilMap => some H
      | .map b => (aMap H b).bind fun (es, clock) => (aFind k es 0).bind fun r => match r with
        | some (i, _, _) => some (H.set b (.map (es.eraseIdx i) clock))
        | none => some (H.set b (.map es clock))
      | _ => none
      else none
    | _ => none
def aMinMax (E : Env) (mx : Bool) : AV → List AV → Option AV
  | .int k a, [] => some (.int k a)
  | .sym k a, [] => some (.sym k a)
  | .int k a, .int k' b :: r => if k = k' then aMinMax E mx (.int k (if mx then (if b > a then b else a) else (if b < a then b else a))) r else none
  | x, y :: r => (toSy x).bind fun p => (toSy y).bind fun q => if p.1 = q.1 then
      ((bif mx then E.le q.2 p.2 else E.le p.2 q.2).bind fun c => aMinMax E mx (bif c then x else y) r) else none
  | _, _ => none

/-! ### 7. One operation -/
inductive AOut where
  | val (v : AV) (H : AHeap)
  | enter (f : FuncId) (args : List AV)
/-- the temporaries: so many, and what is in each -/
structure Ts where
  n : Nat
  t : Tr AV
namespace Ts
def f (ts : Ts) (i : Nat) : AV := (ts.t.get i).getD .undef
def putArgs : List AV → Nat → Tr AV → Tr AV
  | [], _, t => t
  | a :: as, i, t => putArgs as (i + 1) (t.set i a)
theorem putArgs_get : ∀ (as : List AV) (i : Nat) (t : Tr AV) (j : Nat), (putArgs as i t).get j = if i ≤ j ∧ j < i + as.length then as[j - i]? else t.get j
  | [], i, t, j => by simp [putArgs]; omega
  | a :: as, i, t, j => by
    simp only [putArgs]
    rw [putArgs_get as (i + 1), Tr.get_set]
    by_cases h1 : j = i
    · subst h1; simp; omega
    · by_cases h2 : i + 1 ≤ j ∧ j < i + 1 + as.length
      · have h3 : i ≤ j ∧ j < i + (a :: as).length := by simp only [List.length_cons]; omega
        rw [if_pos h2, if_pos h3, show j - i = (j - (i + 1)) + 1 by omega, List.getElem?_cons_succ]
      · have h3 : ¬ (i ≤ j ∧ j < i + (a :: as).length) := by simp only [List.length_cons]; omega
        rw [if_neg h2, if_neg h3, if_neg h1]
def get (ts : Ts) (t : Nat) : Option AV := Ts.rec (motive := fun _ => Option AV) (fun n T => bif Nat.blt t n then some ((T.get t).getD .undef) else none) ts
def set (ts : Ts) (d : Nat) (v : AV) : Ts := Ts.rec (motive := fun _ => Ts) (fun n T => ⟨n, T.set d v⟩) ts
theorem get_def (ts : Ts) (t : Nat) : ts.get t = bif Nat.blt t ts.n then some (ts.f t) else none := rfl
theorem set_def (ts : Ts) (d : Nat) (v : AV) : ts.set d v = ⟨ts.n, ts.t.set d v⟩ := rfl
def skel : Nat → Tr AV
  | 0 => .leaf
  | d + 1 => .node none (skel d) (skel d)
theorem skel_get : ∀ (d j : Nat), (skel d).get j = none
  | 0, j => rfl
  | d + 1, j => by
    rw [skel, Tr.get_node]
    cases Nat.beq j 0 <;> cases Nat.beq (j % 2) 1 <;> simp [skel_get d]
def ofArgs (args : List AV) (n : Nat) : Ts := ⟨max args.length n, putArgs args 0 (skel 7)⟩
theorem ofArgs_f (args : List AV) (n i : Nat) : (ofArgs args n).f i = (args[i]?).getD .undef := by
  simp only [f, ofArgs, putArgs_get]
  by_cases h : i < args.length
  · rw [if_pos ⟨Nat.zero_le _, by omega⟩]; rfl
  · rw [if_neg (by omega), List.getElem?_eq_none_iff.2 (by omega), skel_get]
theorem get_lt {ts : Ts} {t : Nat} {v : AV} (h : ts.get t = some v) : t < ts.n ∧ ts.f t = v := by
  simp only [get_def, blt_dec] at h
  by_cases ht : t < ts.n
  · simp only [ht, decide_true, cond_true, Option.some.injEq] at h; exact ⟨ht, h⟩
  · simp [ht] at h
theorem get_of_lt {ts : Ts} {t : Nat} (h : t < ts.n) : ts.get t = some (ts.f t) := by simp [get_def, blt_dec, h]
theorem get_none {ts : Ts} {t : Nat} (h : ts.get t = none) : ts.n ≤ t := by
  simp only [get_def, blt_dec] at h
  by_cases ht : t < ts.n
  · simp [ht] at h
  · omega
@[simp] theorem set_n (ts : Ts) (d : Nat) (v : AV) : (ts.set d v).n = ts.n := rfl
theorem get_set (ts : Ts) (d t : Nat) (v : AV) : (ts.set d v).get t = if d = t then (if t < ts.n then some v else none) else ts.get t := by
  simp only [get_def, set_def, f, blt_dec, Tr.get_set]
  by_cases h : d = t
  · subst h; by_cases hl : d < ts.n <;> simp [hl]
  · have : ¬ t = d := fun e => h e.symm
    simp [h, this]
theorem set_comm (ts : Ts) {d e : Nat} (v w : AV) (h : d ≠ e) : (ts.set d v).set e w = (ts.set e w).set d v := by
  simp only [set_def, mk.injEq, true_and]
  exact Tr.set_comm _ _ _ h
end Ts
def evalO (E : Env) (ts : Ts) : Operand → Option AV
  | .tmp t => (ts.get t).bind fun v => some (E.norm v)
  | .const v => ofV v
  | .global g => (E.glob g).bind fun b => some (.ptr b 0 0)
  | .func f => some (.fn f [] [])
def evalOs (E : Env) (ts : Ts) : List Operand → Option (List AV)
  | [] => some []
  | x :: xs => (evalO E ts x).bind fun v => (evalOs E ts xs).bind fun vs => some (v :: vs)
def evalPs (E : Env) (ts : Ts) : List (Nat × Operand) → Option (List (Nat × AV))
  | [] => some []
  | (i, x) :: xs => (evalO E ts x).bind fun v => (evalPs E ts xs).bind fun vs => some ((i, v) :: vs)
def evalM (E : Env) (ts : Ts) : Option Operand → Option (Option AV)
  | none => some none
  | some x => (evalO E ts x).bind fun v => some (some v)
/-- The kinds of operations: those that only read; those that make a block; all others. -/
inductive Kind where
  | pass | new | eff
  deriving DecidableEq
def opKind : Op → Kind
  | .alloc _ | .box .. | .buildSlice .. | .makeMap .. | .makeSlice .. => .new
  | .move _ | .assign _ | .pick .. | .build .. | .load .. | .nilCheck _ | .binOp .. | .unOp .. | .makeInterface .. | .makeFunc .. | .slice .. | .fieldAddr .. | .field ..
  | .indexAddr .. | .index .. | .lookup .. | .extract .. => .pass
  | .convert s d _ => bif Nat.beq s d then .eff else .pass
  | .call { callee := .builtin .len, .. } | .call { callee := .builtin .cap, .. } | .call { callee := .builtin .max, .. } | .call { callee := .builtin .min, .. } => .pass
  | _ => .eff
def aPick (c a b : AV) : Option AV := match c with | .bool c => some (bif c then a else b) | _ => none
def aPassBuiltin (E : Env) (H : AHeap) (b : Builtin) (argTypes : List TypeId) (args : List AV) : Option AV :=
  match b, argTypes, args with
  | .len, t :: _, x :: _ => aLen E H t x
  | .cap, t :: _, x :: _ => aCap E t x
  | .max, _, x :: xs => aMinMax E true x xs
  | .min, _, x :: xs => aMinMax E false x xs
  | _, _, _ => none
def aPassE (E : Env) (ts : Ts) (H : AHeap) (op : Op) : Option AV :=
  match op with
  | .move x => evalO E ts x
  | .assign x => evalO E ts x
  | .pick c a b => (evalO E ts c).bind fun c => (evalO E ts a).bind fun a => (evalO E ts b).bind fun b => aPick c a b
  | .build t ps => (evalPs E ts ps.toList).bind fun ps => aBuild E t ps
  | .load t x => (evalO E ts x).bind fun p => aLoad E H t p
  | .nilCheck x => (evalO E ts x).bind fun v => aNilCheck v
  | .binOp op t x y _ => (evalO E ts x).bind fun a => (evalO E ts y).bind fun b => aBin E H op t a b
  | .unOp op _ x => (evalO E ts x).bind fun a => aUn op a
  | .convert s d x => (evalO E ts x).bind fun a => aConvert E s d a
  | .makeInterface t x => (evalO E ts x).bind fun a => aMkIface E t a
  | .makeFunc (.func f) first captured => (evalOs E ts first.toList).bind fun a => (evalOs E ts captured.toList).bind fun b => some (.fn f a b)
  | .slice t x lo hi mx => bif hi.isNone && mx.isSome then none else (evalO E ts x).bind fun x => (evalM E ts lo).bind fun lo => (evalM E ts hi).bind fun hi => (evalM E ts mx).bind fun mx => aSlice E t x lo hi mx
  | .fieldAddr s x f => (evalO E ts x).bind fun x => aFieldAddr E s x f
  | .field s x f => (evalO E ts x).bind fun x => aField E s x f
  | .indexAddr t x i => (evalO E ts x).bind fun x => (evalO E ts i).bind fun i => aIndexAddr E t x i
  | .index t x i => (evalO E ts x).bind fun x => (evalO E ts i).bind fun i => aIndex E t x i
  | .lookup t x i ok => (evalO E ts x).bind fun x => (evalO E ts i).bind fun i => aLookup E H t x i ok
  | .extract x i => (evalO E ts x).bind fun x => aExtract x i
  | .call { callee := .builtin b, args := args, argTypes := argTypes } => (evalOs E ts args.toList).bind fun vs => aPassBuiltin E H b argTypes.toList vs
  | _ => none
/-- the same, by the recursor itself: for the kernel -/
def passCall (c : Call) : Env → Ts → AHeap → Option AV := by
  induction c with
  | mk callee args argTypes =>
    induction callee with
    | builtin b => exact fun E ts H => (evalOs E ts args.toList).bind fun vs => aPassBuiltin E H b argTypes.toList vs
    | _ => exact fun _ _ _ => none
def passFn (fn : Fn) (first captured : Array Operand) : Env → Ts → AHeap → Option AV := by
  induction fn with
  | func f => exact fun E ts _ => (evalOs E ts first.toList).bind fun a => (evalOs E ts captured.toList).bind fun b => some (.fn f a b)
  | _ => exact fun _ _ _ => none
def passQ (op : Op) : Env → Ts → AHeap → Option AV := by
  induction op with
  | move x => exact fun E ts _ => evalO E ts x
  | assign x => exact fun E ts _ => evalO E ts x
  | pick c a b => exact fun E ts _ => (evalO E ts c).bind fun c => (evalO E ts a).bind fun a => (evalO E ts b).bind fun b => aPick c a b
  | build t ps => exact fun E ts _ => (evalPs E ts ps.toList).bind fun ps => aBuild E t ps
  | load t x => exact fun E ts H => (evalO E ts x).bind fun p => aLoad E H t p
  | nilCheck x => exact fun E ts _ => (evalO E ts x).bind fun v => aNilCheck v
  | binOp op t x y yt => exact fun E ts H => (evalO E ts x).bind fun a => (evalO E ts y).bind fun b => aBin E H op t a b
  | unOp op t x => exact fun E ts _ => (evalO E ts x).bind fun a => aUn op a
  | convert s d x => exact fun E ts _ => (evalO E ts x).bind fun a => aConvert E s d a
  | makeInterface t x => exact fun E ts _ => (evalO E ts x).bind fun a => aMkIface E t a
  | makeFunc fn first captured => exact passFn fn first captured
  | slice t x lo hi mx => exact fun E ts _ => bif hi.isNone && mx.isSome then none else (evalO E ts x).bind fun x => (evalM E ts lo).bind fun lo => (evalM E ts hi).bind fun hi => (evalM E ts mx).bind fun mx => aSlice E t x lo hi mx
  | fieldAddr s x f => exact fun E ts _ => (evalO E ts x).bind fun x => aFieldAddr E s x f
  | field s x f => exact fun E ts _ => (evalO E ts x).bind fun x => aField E s x f
  | indexAddr t x i => exact fun E ts _ => (evalO E ts x).bind fun x => (evalO E ts i).bind fun i => aIndexAddr E t x i
  | index t x i => exact fun E ts _ => (evalO E ts x).bind fun x => (evalO E ts i).bind fun i => aIndex E t x i
  | lookup t x i ok => exact fun E ts H => (evalO E ts x).bind fun x => (evalO E ts i).bind fun i => aLookup E H t x i ok
  | extract x i => exact fun E ts _ => (evalO E ts x).bind fun x => aExtract x i
  | call c => exact passCall c
  | _ => exact fun _ _ _ => none
def aPass (E : Env) (ts : Ts) (H : AHeap) (op : Op) : Option AV := passQ op E ts H
theorem aPass_eq (E : Env) (ts : Ts) (H : AHeap) (op : Op) : aPass E ts H op = aPassE E ts H op := by
  cases op
  case call c => obtain ⟨callee, args, argTypes⟩ := c; cases callee <;> rfl
  case makeFunc fn first captured => cases fn <;> rfl
  all_goals rfl
def aNewO (E : Env) (ts : Ts) (op : Op) : Option ANew :=
  match op with
  | .alloc t => aAlloc E t
  | .box _ x => (evalO E ts x).bind fun v => aBox v
  | .buildSlice t len ps => (evalPs E ts ps.toList).bind fun ps => aBuildSlice E t len ps
  | .makeMap _ none => some aMakeMap
  | .makeSlice t l c => (evalO E ts l).bind fun l => (evalO E ts c).bind fun c => aMakeSlice E t l c
  | _ => none
def outVH (x : Option (AV × AHeap)) : Option AOut := x.bind fun p => some (.val p.1 p.2)
def outH (x : Option AHeap) : Option AOut := x.bind fun H => some (.val .undef H)
def aEffBuiltin (E : Env) (H : AHeap) (b : Builtin) (argTypes : List TypeId) (args : List AV) : Option AOut :=
  match b, argTypes, args with
  | .append, [t, xt], [s, x] => outVH (aAppend E H t xt s x)
  | .copy, t :: _, [d, x] => outVH (aCopy E H t d x)
  | .clear, t :: _, [x] => outH (aClear E H t x)
  | .delete, t :: _, [m, k] => outH (aDelete E H t m k)
  | _, _, _ => none
def aEnter (f : AV) (vs : List AV) : Option AOut :=
  match f with
  | .fn f first captured => some (.enter f (first ++ vs ++ captured))
  | _ => none
/-- a text of bytes is turned into bytes: they are marked -/
def aMark (E : Env) (H : AHeap) (s d : TypeId) (x : AV) : Option (AV × AHeap) :=
  match x with
  | .sl b g off len lo ex es => bif Nat.beq s d then (E.ty d).bind fun a => match a.desc with
    | .slice e => (E.ty e).bind fun ae => match ae.desc with
      | .int .u8 => (aRow H b).bind fun r => bif r.1 then some (.sl b g off len lo ex es, H.set b (.row false r.2.1 r.2.2)) else none
      | _ => none
    | _ => none else none
  | x => (aConvert E s d x).bind fun v => some (v, H)
def aEffE (E : Env) (ts : Ts) (H : AHeap) (op : Op) : Option AOut :=
  match op with
  | .store t x y => (evalO E ts x).bind fun p => (evalO E ts y).bind fun v => outH (aStore E H t p v)
  | .mapUpdate t m k v => (evalO E ts m).bind fun m => (evalO E ts k).bind fun k => (evalO E ts v).bind fun v => outH (aMapUpdate E H t m k v)
  | .insert t m k v => (evalO E ts m).bind fun m => (evalO E ts k).bind fun k => (evalO E ts v).bind fun v => outH (aMapUpdate E H t m k v)
  | .mapEntry t m k => (evalO E ts m).bind fun m => (evalO E ts k).bind fun k => outVH (aMapEntry E H t m k)
  | .convert s d x => (evalO E ts x).bind fun x => outVH (aMark E H s d x)
  | .range t x => (evalO E ts x).bind fun x => outVH (aRange E H t x)
  | .next x false => (evalO E ts x).bind fun x => outVH (aNext H x)
  | .entry x => (evalO E ts x).bind fun x => outVH (aEntry H x)
  | .call { callee := .builtin b, args := args, argTypes := argTypes } => (evalOs E ts args.toList).bind fun vs => aEffBuiltin E H b argTypes.toList vs
  | .call { callee := .value f, args := args, argTypes := _ } => (evalO E ts f).bind fun f => (evalOs E ts args.toList).bind fun vs => aEnter f vs
  | _ => none
def effCall (c : Call) : Env → Ts → AHeap → Option AOut := by
  induction c with
  | mk callee args argTypes =>
    induction callee with
    | builtin b => exact fun E ts H => (evalOs E ts args.toList).bind fun vs => aEffBuiltin E H b argTypes.toList vs
    | value f => exact fun E ts _ => (evalO E ts f).bind fun f => (evalOs E ts args.toList).bind fun vs => aEnter f vs
    | _ => exact fun _ _ _ => none
def effQ (op : Op) : Env → Ts → AHeap → Option AOut := by
  induction op with
  | store t x y => exact fun E ts H => (evalO E ts x).bind fun p => (evalO E ts y).bind fun v => outH (aStore E H t p v)
  | mapUpdate t m k v => exact fun E ts H => (evalO E ts m).bind fun m => (evalO E ts k).bind fun k => (evalO E ts v).bind fun v => outH (aMapUpdate E H t m k v)
  | insert t m k v => exact fun E ts H => (evalO E ts m).bind fun m => (evalO E ts k).bind fun k => (evalO E ts v).bind fun v => outH (aMapUpdate E H t m k v)
  | mapEntry t m k => exact fun E ts H => (evalO E ts m).bind fun m => (evalO E ts k).bind fun k => outVH (aMapEntry E H t m k)
  | convert s d x => exact fun E ts H => (evalO E ts x).bind fun x => outVH (aMark E H s d x)
  | range t x => exact fun E ts H => (evalO E ts x).bind fun x => outVH (aRange E H t x)
  | next x isString => exact fun E ts H => cond isString none ((evalO E ts x).bind fun x => outVH (aNext H x))
  | entry x => exact fun E ts H => (evalO E ts x).bind fun x => outVH (aEntry H x)
  | call c => exact effCall c
  | _ => exact fun _ _ _ => none
def aEff (E : Env) (ts : Ts) (H : AHeap) (op : Op) : Option AOut := effQ op E ts H
theorem aEff_eq (E : Env) (ts : Ts) (H : AHeap) (op : Op) : aEff E ts H op = aEffE E ts H op := by
  cases op
  case call c => obtain ⟨callee, args, argTypes⟩ := c; cases callee <;> rfl
  case next x b => cases b <;> rfl
  all_goals rfl
end
end Go.AE
end
section
/- The abstract evaluator, part 2: what an abstract heap says of a world; the operations that only read are right. -/
set_option linter.unusedVariables false
set_option linter.unusedSectionVars false
set_option linter.unusedSimpArgs false
namespace Go.AE

/-- Where an abstract block's generation lies: the number of a block of the world, and that block's size. -/
abbrev Mu := Nat → Nat → Option (Nat × Nat)
def MuLe (μ μ' : Mu) : Prop := ∀ b g x, μ b g = some x → μ' b g = some x
theorem MuLe.refl (μ : Mu) : MuLe μ μ := fun _ _ _ h => h
theorem MuLe.trans {a b c : Mu} (h : MuLe a b) (k : MuLe b c) : MuLe a c := fun _ _ _ x => k _ _ _ (h _ _ _ x)

/-- how a step extends memory -/
structure Ext (A A' : AHeap) (μ μ' : Mu) (w w' : World) : Prop where
  mono : MuLe μ μ'
  above : ∀ b g, A'.n ≤ b → μ' b g = μ b g
  fresh : ∀ b g, A.n ≤ b → b < A'.n → μ b g = none
  n : A.n ≤ A'.n
  os : w'.os = w.os
  tape : w'.tape = w.tape
  output : w'.output = w.output
  size : w.heap.size ≤ w'.heap.size
  range : ∀ b g c sz, μ' b g = some (c, sz) → (∃ g', μ b g' = some (c, sz)) ∨ w.heap.size ≤ c
  wr : ∀ b, b < A.n → aWr A b = false → aWr A' b = false
  frame : ∀ c, c < w.heap.size → (∀ b g sz, μ b g = some (c, sz) → b < A.n → aWr A b = false) → w'.heap[c]? = w.heap[c]?
/-- what the unknown numbers and values are; and what stays true of the world -/
class Val where
  ρ : Nat → Int
  o : Nat → Value
  J : Mu → World → Prop
  keep : ∀ {A A' : AHeap} {μ μ' : Mu} {w w' : World}, J μ w → Ext A A' μ μ' w w' → J μ' w'
def binVal (op : BinOp) (k : IntKind) (x y : Int) : Int := match aIntBin op k x y with | some (.int _ n) => n | _ => 0
def Sy.ev (ρ : Nat → Int) : Sy → Int
  | .lit n => n
  | .var i => ρ i
  | .bin op k a b => binVal op k (a.ev ρ) (b.ev ρ)
  | .wr k a => k.wrap (a.ev ρ)
  | .md i n => ρ i % (n : Int)
  | .tab l a => l.getD (a.ev ρ).toNat 0
variable [Val]
mutual
def VR (μ : Mu) : AV → Value → Prop
  | .bool b, u => u = .bool b
  | .int k n, u => u = .int k n
  | .sym k z, u => u = .int k (z.ev Val.ρ)
  | .opq i, u => u = Val.o i ∧ ∃ a l c, u = .slice a l c
  | .str s, u => u = .string s
  | .ptr b g off, u => ∃ c sz, μ b g = some (c, sz) ∧ u = .pointer (some ⟨c, off, none⟩)
  | .sptr b g off len es z, u => ∃ c sz, μ b g = some (c, sz) ∧ (0 ≤ z.ev Val.ρ ∧ z.ev Val.ρ < (len : Int)) ∧ u = .pointer (some ⟨c, off + (z.ev Val.ρ).toNat * es, none⟩)
  | .nilPtr, u => u = .pointer none
  | .sl b g off len lo ex es, u => ∃ c sz cap off', μ b g = some (c, sz) ∧ u = .slice (some ⟨c, off', none⟩) len cap ∧ len ≤ lo ∧ lo ≤ cap ∧ (ex = true → cap = lo) ∧ (cap ≠ 0 → off' = off ∧ (ex = false → off + cap * es ≤ sz)) ∧ cap ≤ maxLen
  | .nilSl, u => u = .slice none 0 0
  | .map b, u => ∃ c sz, μ b 0 = some (c, sz) ∧ u = .map (some c)
  | .nilMap, u => u = .map none
  | .fn f first captured, u => ∃ fs cs, VRs μ first fs ∧ VRs μ captured cs ∧ u = .func (.func f) fs.toArray cs.toArray
  | .nilFn, u => u = .nilFunc
  | .iface t v, u => ∃ x, VR μ v x ∧ u = .iface t x
  | .nilIface, u => u = .nilIface
  | .agg cs, u => ∃ xs, VRs μ cs xs ∧ u = .agg xs.toArray
  | .tup cs, u => ∃ xs, VRs μ cs xs ∧ u = .tuple xs.toArray
def VRs (μ : Mu) : List AV → List Value → Prop
  | [], us => us = []
  | v :: vs, us => ∃ u us', us = u :: us' ∧ VR μ v u ∧ VRs μ vs us'
end

mutual
theorem VR.mono {μ μ' : Mu} (h : MuLe μ μ') : ∀ (v : AV) (u : Value), VR μ v u → VR μ' v u
  | .bool _, _, k | .int _ _, _, k | .sym _ _, _, k | .opq _, _, k | .str _, _, k | .nilPtr, _, k | .nilSl, _, k | .nilMap, _, k | .nilFn, _, k | .nilIface, _, k => by simpa only [VR] using k
  | .ptr _ _ _, _, k => by simp only [VR] at k ⊢; obtain ⟨c, sz, k1, k2⟩ := k; exact ⟨c, sz, h _ _ _ k1, k2⟩
  | .sptr .., _, k => by simp only [VR] at k ⊢; obtain ⟨c, sz, k1, k2⟩ := k; exact ⟨c, sz, h _ _ _ k1, k2⟩
  | .sl .., _, k => by simp only [VR] at k ⊢; obtain ⟨c, sz, cap, off', k1, k2⟩ := k; exact ⟨c, sz, cap, off', h _ _ _ k1, k2⟩
  | .map _, _, k => by simp only [VR] at k ⊢; obtain ⟨c, sz, k1, k2⟩ := k; exact ⟨c, sz, h _ _ _ k1, k2⟩
  | .fn f a b, _, k => by simp only [VR] at k ⊢; obtain ⟨fs, cs, k1, k2, k3⟩ := k; exact ⟨fs, cs, VRs.mono h a fs k1, VRs.mono h b cs k2, k3⟩
  | .iface t v, _, k => by simp only [VR] at k ⊢; obtain ⟨x, k1, k2⟩ := k; exact ⟨x, VR.mono h v x k1, k2⟩
  | .agg cs, _, k => by simp only [VR] at k ⊢; obtain ⟨xs, k1, k2⟩ := k; exact ⟨xs, VRs.mono h cs xs k1, k2⟩
  | .tup cs, _, k => by simp only [VR] at k ⊢; obtain ⟨xs, k1, k2⟩ := k; exact ⟨xs, VRs.mono h cs xs k1, k2⟩
theorem VRs.mono {μ μ' : Mu} (h : MuLe μ μ') : ∀ (vs : List AV) (us : List Value), VRs μ vs us → VRs μ' vs us
  | [], _, k => by simpa only [VRs] using k
  | v :: vs, _, k => by simp only [VRs] at k ⊢; obtain ⟨u, us', k1, k2, k3⟩ := k; exact ⟨u, us', k1, VR.mono h v u k2, VRs.mono h vs us' k3⟩
end

theorem VRs.length {μ : Mu} : ∀ {vs : List AV} {us : List Value}, VRs μ vs us → us.length = vs.length
  | [], _, k => by simp only [VRs] at k; simp [k]
  | v :: vs, _, k => by simp only [VRs] at k; obtain ⟨u, us', rfl, _, k3⟩ := k; simp [VRs.length k3]
theorem VRs.get {μ : Mu} : ∀ {vs : List AV} {us : List Value}, VRs μ vs us → ∀ {i : Nat} {v : AV}, vs[i]? = some v → ∃ u, us[i]? = some u ∧ VR μ v u
  | [], _, _, i, v, h => by simp at h
  | w :: vs, _, k, i, v, h => by
    simp only [VRs] at k
    obtain ⟨u, us', rfl, k2, k3⟩ := k
    cases i with
    | zero => simp at h; subst h; exact ⟨u, by simp, k2⟩
    | succ i => simpa using VRs.get k3 (i := i) (v := v) (by simpa using h)
theorem VRs.of_get {μ : Mu} : ∀ {vs : List AV} {us : List Value}, us.length = vs.length → (∀ (i : Nat) v u, vs[i]? = some v → us[i]? = some u → VR μ v u) → VRs μ vs us
  | [], us, hl, _ => by simp only [VRs]; exact List.eq_nil_of_length_eq_zero (by simpa using hl)
  | v :: vs, [], hl, _ => by simp at hl
  | v :: vs, u :: us, hl, h => by
    simp only [VRs]
    exact ⟨u, us, rfl, h 0 v u (by simp) (by simp), VRs.of_get (by simpa using hl) fun i v' u' h1 h2 => h (i + 1) v' u' (by simpa using h1) (by simpa using h2)⟩
theorem VRs.append {μ : Mu} : ∀ {vs ws : List AV} {us ys : List Value}, VRs μ vs us → VRs μ ws ys → VRs μ (vs ++ ws) (us ++ ys)
  | [], _, _, _, k, l => by simp only [VRs] at k; subst k; simpa using l
  | v :: vs, _, _, _, k, l => by simp only [VRs] at k; obtain ⟨u, us', rfl, k2, k3⟩ := k; simp only [List.cons_append, VRs]; exact ⟨u, _, rfl, k2, VRs.append k3 l⟩
theorem VRs.take {μ : Mu} {vs : List AV} {us : List Value} (h : VRs μ vs us) (n : Nat) : VRs μ (vs.take n) (us.take n) := by
  refine VRs.of_get (by simp [h.length]) fun i v u h1 h2 => ?_
  rw [List.getElem?_take] at h1 h2
  split at h1
  · rename_i hi
    simp only [hi, if_true] at h2
    obtain ⟨u', h3, h4⟩ := h.get h1
    rw [h3] at h2; cases h2; exact h4
  · cases h1
theorem VRs.drop {μ : Mu} {vs : List AV} {us : List Value} (h : VRs μ vs us) (n : Nat) : VRs μ (vs.drop n) (us.drop n) := by
  refine VRs.of_get (by simp [h.length]) fun i v u h1 h2 => ?_
  rw [List.getElem?_drop] at h1 h2
  obtain ⟨u', h3, h4⟩ := h.get h1
  rw [h3] at h2; cases h2; exact h4
theorem VRs.nil {μ : Mu} : VRs μ [] [] := by simp only [VRs]
theorem VRs.cons {μ : Mu} {v : AV} {u : Value} {vs : List AV} {us : List Value} (h : VR μ v u) (k : VRs μ vs us) : VRs μ (v :: vs) (u :: us) := by simp only [VRs]; exact ⟨u, us, rfl, h, k⟩
theorem VR.one {μ : Mu} {v : AV} {u : Value} (h : VR μ v u) : u.oneCell' = v.one := by
  cases v <;> simp only [VR] at h <;> first
    | (subst h; rfl)
    | (obtain ⟨_, _, _, _, rfl⟩ := h; rfl)
    | (obtain ⟨c, sz, _, rfl⟩ := h; rfl)
    | (obtain ⟨c, sz, _, _, rfl⟩ := h; rfl)
    | (obtain ⟨c, sz, cap, off', _, rfl, _⟩ := h; rfl)
    | (obtain ⟨fs, cs, _, _, rfl⟩ := h; rfl)
    | (obtain ⟨x, _, rfl⟩ := h; rfl)
theorem VR.cells {μ : Mu} {v : AV} {u : Value} (h : VR μ v u) : VRs μ v.cells u.cells.toList := by
  cases v
  case agg cs => simp only [VR] at h; obtain ⟨xs, h1, rfl⟩ := h; simpa [AV.cells, Value.cells] using h1
  case opq i =>
    have hh := h
    simp only [VR] at hh
    obtain ⟨_, _, _, _, rfl⟩ := hh
    have e : ∀ a l c, (Value.slice a l c).cells = #[Value.slice a l c] := fun _ _ _ => rfl
    rw [e]
    exact VRs.cons h VRs.nil
  all_goals
    have e : u.cells = #[u] := by
      simp only [VR] at h
      first
        | (subst h; rfl)
        | (obtain ⟨c, sz, _, rfl⟩ := h; rfl)
        | (obtain ⟨c, sz, _, _, rfl⟩ := h; rfl)
        | (obtain ⟨c, sz, cap, off', _, rfl, _⟩ := h; rfl)
        | (obtain ⟨fs, cs, _, _, rfl⟩ := h; rfl)
        | (obtain ⟨x, _, rfl⟩ := h; rfl)
    rw [e]
    exact VRs.cons h VRs.nil
theorem VRs.all_one {μ : Mu} {vs : List AV} {us : List Value} (h : VRs μ vs us) (ha : vs.all AV.one = true) : ∀ u ∈ us, u.oneCell' = true := by
  intro u hu
  obtain ⟨i, hi⟩ := List.mem_iff_getElem?.1 hu
  have hlt : i < us.length := (List.getElem?_eq_some_iff.1 hi).1
  have hlv : i < vs.length := by rw [← h.length]; exact hlt
  obtain ⟨u', h1, h2⟩ := h.get (List.getElem?_eq_getElem hlv)
  rw [hi] at h1; cases h1
  rw [h2.one]
  exact List.all_eq_true.1 ha _ (List.getElem_mem hlv)

theorem ofV1_VR {μ : Mu} : ∀ {u : Value} {v : AV}, ofV1 u = some v → VR μ v u := by
  intro u v h
  unfold ofV1 at h
  split at h <;> first | (cases h; simp only [VR]) | cases h
theorem ofVs_VRs {μ : Mu} : ∀ {us : List Value} {vs : List AV}, ofVs us = some vs → VRs μ vs us
  | [], vs, h => by simp only [ofVs] at h; cases h; exact VRs.nil
  | u :: us, vs, h => by
    simp only [ofVs, Option.bind_eq_some_iff] at h
    obtain ⟨x, h1, xs, h2, h3⟩ := h
    cases h3
    exact VRs.cons (ofV1_VR h1) (ofVs_VRs h2)
theorem ofV_VR {μ : Mu} {u : Value} {v : AV} (h : ofV u = some v) : VR μ v u := by
  unfold ofV at h
  split at h
  · simp only [Option.bind_eq_some_iff] at h
    obtain ⟨xs, h1, h2⟩ := h
    cases h2
    simp only [VR]
    exact ⟨_, ofVs_VRs h1, by simp⟩
  · simp only [Option.bind_eq_some_iff] at h
    obtain ⟨xs, h1, h2⟩ := h
    cases h2
    simp only [VR]
    exact ⟨_, ofVs_VRs h1, by simp⟩
  · simp only [Option.bind_eq_some_iff] at h
    obtain ⟨x, h1, h2⟩ := h
    cases h2
    simp only [VR]
    exact ⟨_, ofV1_VR h1, rfl⟩
  · exact ofV1_VR h

/-! ### Heaps -/
def EntR (μ : Mu) (e : AV × AV × Nat) (m : MapEntry) : Prop := VR μ e.1 m.key ∧ VR μ e.2.1 m.val ∧ m.born = e.2.2
def EntsR (μ : Mu) (es : List (AV × AV × Nat)) (ms : List MapEntry) : Prop := ms.length = es.length ∧ ∀ (i : Nat) e m, es[i]? = some e → ms[i]? = some m → EntR μ e m
/-- What a block of the world must hold for an abstract block. -/
def BlkR (μ : Mu) : ABlk → Nat → Nat → Obj → Prop
  | .row wr gen cells, g, sz, o => ∃ cs e fr, o = .cells cs e fr ∧ cs.size = sz ∧ (wr = true → fr = (0, 0)) ∧ g ≤ gen ∧ (g = gen → cells.length ≤ cs.size) ∧
      ∀ (i : Nat) v s, cells[i]? = some (v, s) → s ≤ g → ∃ u, cs[i]? = some u ∧ VR μ v u ∧ v.one = true
  | .map es clock, g, _, o => g = 0 ∧ ∃ ms, o = .map ms clock ∧ EntsR μ es ms.toList
  | .iter none since seen last, g, _, o => g = 0 ∧ o = .mapIter none since seen.toArray last
  | .iter (some b) since seen last, g, _, o => g = 0 ∧ ∃ c sz, μ b 0 = some (c, sz) ∧ o = .mapIter (some c) since seen.toArray last
theorem EntsR.mono {μ μ' : Mu} (h : MuLe μ μ') {es : List (AV × AV × Nat)} {ms : List MapEntry} (k : EntsR μ es ms) : EntsR μ' es ms :=
  ⟨k.1, fun i e m h1 h2 => let ⟨a, b, c⟩ := k.2 i e m h1 h2; ⟨VR.mono h _ _ a, VR.mono h _ _ b, c⟩⟩
theorem BlkR.mono {μ μ' : Mu} (h : MuLe μ μ') {B : ABlk} {g sz : Nat} {o : Obj} (k : BlkR μ B g sz o) : BlkR μ' B g sz o := by
  cases B with
  | row wr gen cells =>
    obtain ⟨cs, e, fr, h1, h2, h3, h4, h4', h5⟩ := k
    exact ⟨cs, e, fr, h1, h2, h3, h4, h4', fun i v s a b => let ⟨u, p, q, r⟩ := h5 i v s a b; ⟨u, p, VR.mono h _ _ q, r⟩⟩
  | map es clock => obtain ⟨h0, ms, h1, h2⟩ := k; exact ⟨h0, ms, h1, h2.mono h⟩
  | iter m since seen last =>
    cases m with
    | none => exact k
    | some b => obtain ⟨h0, c, z, h1, h2⟩ := k; exact ⟨h0, c, z, h _ _ _ h1, h2⟩

structure Rel (A : AHeap) (μ : Mu) (w : World) : Prop where
  bound : ∀ b g c sz, μ b g = some (c, sz) → c < w.heap.size
  inj : ∀ b g c sz b' g' sz', μ b g = some (c, sz) → μ b' g' = some (c, sz') → b = b'
  blk : ∀ b B, A.get b = some B → ∀ g c sz, μ b g = some (c, sz) → ∃ o, w.heap[c]? = some o ∧ BlkR μ B g sz o

structure EnvOK (P : Program) (E : Env) : Prop where
  ty : ∀ t a, E.ty t = some a → P.underlying t = some a.desc ∧ ∃ i, P.info? t = some i ∧ i.size = a.size ∧ i.bytes = a.bytes ∧
    (∀ zs, a.zero = some zs → ∃ z, i.zero = some z ∧ ofVs z.cells.toList = some zs ∧ (a.isAgg = true → ∃ cs, z = .agg cs) ∧ (a.isAgg = false → ∃ z', zs = [z'] ∧ ofV1 z = some z')) ∧
    (a.plain = true → P.stoodInHeld t = false ∧ P.eqGuardType P.depth t = false)
  fn : ∀ f F, E.fn f = some F → P.funcs[f]? = some F ∧ F.name ≠ "runtime.NumGoroutine" ∧ F.body.isSome = true
  glob : ∀ g b, E.glob g = some b → False
  le : ∀ a b r, E.le a b = some r → decide (a.ev Val.ρ ≤ b.ev Val.ρ) = r
  eq : ∀ a b r, E.eq a b = some r → decide (a.ev Val.ρ = b.ev Val.ρ) = r
  val : ∀ a n, E.val a = some n → a.ev Val.ρ = n
  opq : ∀ i b len, E.opq i = some (b, len) → len ≤ 1000000000 ∧ ∃ c cap sz, Val.o i = .slice (some ⟨c, 0, none⟩) len cap ∧ len ≤ cap ∧ cap ≤ maxLen ∧ cap ≤ sz ∧ ∀ μ w, Val.J μ w → μ b 0 = some (c, sz)
theorem norm_VR {P : Program} {E : Env} (hE : EnvOK P E) {μ : Mu} {v : AV} {u : Value} (h : VR μ v u) : VR μ (E.norm v) u := by
  rw [Env.norm_eq]; unfold Env.normO
  split
  · rename_i k z
    split
    · rename_i n hn
      simp only [VR] at h ⊢
      rw [h, hE.val z n hn]
    · exact h
  · exact h
theorem toSy_VR {μ : Mu} {v : AV} {u : Value} (h : VR μ v u) {k : IntKind} {z : Sy} (hz : toSy v = some (k, z)) : u = .int k (z.ev Val.ρ) := by
  cases v <;> simp only [toSy] at hz <;> try (cases hz; done)
  · cases hz; simpa only [VR, Sy.ev] using h
  · cases hz; simpa only [VR] using h

/-- The temporaries. -/
def TR (μ : Mu) (ts : Ts) (tmps : Array Value) : Prop := tmps.size = ts.n ∧ ∀ (t : Nat) v, ts.get t = some v → ∃ u, tmps[t]? = some u ∧ VR μ v u
theorem TR.get {μ : Mu} {ts : Ts} {tmps : Array Value} (h : TR μ ts tmps) {t : Nat} {v : AV} (hv : ts.get t = some v) : VR μ v (tmps.getD t undef) := by
  obtain ⟨u, h1, h2⟩ := h.2 t v hv
  simpa [Array.getD_eq_getD_getElem?, h1] using h2
theorem evalO_VR {P : Program} {E : Env} (hE : EnvOK P E) {μ : Mu} {ts : Ts} {a : Act} (T : TR μ ts a.tmps) {x : Operand} {v : AV} (h : evalO E ts x = some v) : VR μ v (a.eval x) := by
  cases x with
  | tmp t =>
    simp only [evalO, Option.bind_eq_some_iff, Option.some.injEq] at h
    obtain ⟨v', h1, rfl⟩ := h
    exact norm_VR hE (T.get h1)
  | const u => exact ofV_VR h
  | global g =>
    simp only [evalO, Option.bind_eq_some_iff] at h
    obtain ⟨b, h1, _⟩ := h
    exact (hE.glob g b h1).elim
  | func f =>
    simp only [evalO, Option.some.injEq] at h
    subst h
    simp only [VR, VRs]
    exact ⟨[], [], rfl, rfl, rfl⟩
theorem evalOs_VRs {P : Program} {E : Env} (hE : EnvOK P E) {μ : Mu} {ts : Ts} {a : Act} (T : TR μ ts a.tmps) : ∀ {xs : List Operand} {vs : List AV}, evalOs E ts xs = some vs → VRs μ vs (xs.map a.eval)
  | [], vs, h => by simp only [evalOs] at h; cases h; exact VRs.nil
  | x :: xs, vs, h => by
    simp only [evalOs, Option.bind_eq_some_iff] at h
    obtain ⟨v, h1, vs', h2, h3⟩ := h
    cases h3
    exact VRs.cons (evalO_VR hE T h1) (evalOs_VRs hE T h2)

/-! ### Reading -/
section
variable {P : Program} {E : Env} (hE : EnvOK P E) {A : AHeap} {μ : Mu} {w : World} (R : Rel A μ w)
include R
theorem Rel.row {b : Nat} {wr : Bool} {gen : Nat} {cells : List (AV × Nat)} (h : aRow A b = some (wr, gen, cells)) {g c sz : Nat} (hm : μ b g = some (c, sz)) :
    ∃ cs e fr, w.heap[c]? = some (.cells cs e fr) ∧ cs.size = sz ∧ (wr = true → fr = (0, 0)) ∧ g ≤ gen ∧ (g = gen → cells.length ≤ cs.size) ∧ ∀ (i : Nat) v s, cells[i]? = some (v, s) → s ≤ g → ∃ u, cs[i]? = some u ∧ VR μ v u ∧ v.one = true := by
  unfold aRow at h
  split at h
  · rename_i wr' gen' cells' hg
    simp only [Option.some.injEq, Prod.mk.injEq] at h
    obtain ⟨rfl, rfl, rfl⟩ := h
    obtain ⟨o, h1, cs, e, fr, h2, h3⟩ := R.blk b _ hg g c sz hm
    subst h2
    exact ⟨cs, e, fr, h1, h3⟩
  · cases h
omit R in
theorem readFrom_get {g : Nat} : ∀ {n : Nat} {cells : List (AV × Nat)} {vs : List AV}, readFrom g n cells = some vs → vs.length = n ∧ ∀ (i : Nat) v, vs[i]? = some v → ∃ s, cells[i]? = some (v, s) ∧ s ≤ g
  | 0, cells, vs, h => by simp only [readFrom] at h; cases h; simp
  | n + 1, [], vs, h => by simp [readFrom] at h
  | n + 1, (v, s) :: r, vs, h => by
    simp only [readFrom, ble_dec] at h
    by_cases hs : s ≤ g
    · simp only [hs, decide_true, cond_true, Option.bind_eq_some_iff] at h
      obtain ⟨vs', h1, h2⟩ := h
      cases h2
      obtain ⟨l, k⟩ := readFrom_get h1
      refine ⟨by simp [l], fun i v' hi => ?_⟩
      cases i with
      | zero => simp at hi; subst hi; exact ⟨s, by simp, hs⟩
      | succ i => simpa using k i v' (by simpa using hi)
    · simp [hs] at h
/-- what a reading of cells finds in the world -/
theorem aRead_sound {b g off n : Nat} {vs : List AV} (h : aRead A b g off n = some vs) {c sz : Nat} (hm : μ b g = some (c, sz)) :
    ∃ us, VRs μ vs us ∧ us.length = n ∧ vs.all AV.one = true ∧ ∀ j u, us[j]? = some u → w.cell? ((⟨c, off, none⟩ : Addr).add j) = some u := by
  simp only [aRead, Option.bind_eq_some_iff, ble_dec] at h
  obtain ⟨⟨wr, gen, cells⟩, h1, h2⟩ := h
  by_cases hg : g ≤ gen
  · simp only [hg, decide_true, cond_true, readCells, dropC_eq] at h2
    obtain ⟨cs, e, fr, hw, hs, _, _, _, hc⟩ := Rel.row R h1 hm
    obtain ⟨hl, hk⟩ := readFrom_get h2
    have key : ∀ (i : Nat) v, vs[i]? = some v → ∃ u, cs[off + i]? = some u ∧ VR μ v u ∧ v.one = true := fun i v hi => by
      obtain ⟨s, h3, h4⟩ := hk i v hi
      rw [List.getElem?_drop] at h3
      exact hc _ v s h3 h4
    refine ⟨vs.zipIdx.map fun p => cs.getD (off + p.2) undef, ?_, by simp [hl], ?_, ?_⟩
    · refine VRs.of_get (by simp) fun i v u hv hu => ?_
      obtain ⟨u', h3, h4, _⟩ := key i v hv
      simp [List.getElem?_zipIdx, hv, Array.getD_eq_getD_getElem?, h3] at hu
      subst hu; exact h4
    · rw [List.all_eq_true]
      intro v hv
      obtain ⟨i, hi⟩ := List.mem_iff_getElem?.1 hv
      obtain ⟨_, _, _, h1⟩ := key i v hi
      exact h1
    · intro j u hu
      have hj : j < vs.length := by have := (List.getElem?_eq_some_iff.1 hu).1; simpa using this
      obtain ⟨u', h3, h4, _⟩ := key j vs[j] (List.getElem?_eq_getElem hj)
      simp [List.getElem?_zipIdx, List.getElem?_eq_getElem hj, Array.getD_eq_getD_getElem?, h3] at hu
      subst hu
      rw [Addr.add_lit]
      simp [World.cell?, hw, h3]
  · simp [hg] at h2
theorem aRead1_sound {b g off : Nat} {v : AV} (h : aRead1 A b g off = some v) {c sz : Nat} (hm : μ b g = some (c, sz)) :
    ∃ u, VR μ v u ∧ v.one = true ∧ w.cell? ⟨c, off, none⟩ = some u := by
  simp only [aRead1, Option.bind_eq_some_iff, ble_dec] at h
  obtain ⟨⟨wr, gen, cells⟩, h1, h2⟩ := h
  by_cases hg : g ≤ gen
  · simp only [hg, decide_true, cond_true, readCell, ble_dec] at h2
    obtain ⟨cs, e, fr, hw, hs, _, _, _, hc⟩ := Rel.row R h1 hm
    split at h2
    · rename_i v' s' tl hcell
      rw [dropC_eq] at hcell
      replace hcell : cells[off]? = some (v', s') := by rw [← List.head?_drop, hcell]; rfl
      by_cases hs' : s' ≤ g
      · simp [hs'] at h2
        subst h2
        obtain ⟨u, h3, h4, h5⟩ := hc _ _ _ hcell hs'
        exact ⟨u, h4, h5, by simp [World.cell?, hw, h3]⟩
      · simp [hs'] at h2
    · cases h2
  · simp [hg] at h2
end

section
variable {P : Program} {E : Env} (hE : EnvOK P E) (w : World)
include hE
theorem run_und {t : TypeId} {a : ATy} (h : E.ty t = some a) : (underlying t).run P w = .ok a.desc w := run_underlying (hE.ty t a h).1 w
theorem run_szo {t : TypeId} {a : ATy} (h : E.ty t = some a) : (sizeOf t).run P w = .ok a.size w := by
  obtain ⟨_, i, hi, hs, _⟩ := hE.ty t a h
  simp [sizeOf, typeInfo, hi, hs]
theorem run_agg {t : TypeId} {a : ATy} (h : E.ty t = some a) : (isAgg t).run P w = .ok a.isAgg w := by
  simp only [isAgg, Sem.run_bind, run_und hE w h, Result.andThen_ok, ATy.isAgg]
  cases a.desc <;> rfl
theorem run_info {t : TypeId} {a : ATy} (h : E.ty t = some a) : ∃ i, (typeInfo t).run P w = .ok i w ∧ i.bytes = a.bytes ∧ i.size = a.size ∧ P.info? t = some i := by
  obtain ⟨_, i, hi, hs, hb, _⟩ := hE.ty t a h
  exact ⟨i, by simp [typeInfo, hi], hb, hs, hi⟩
theorem run_zero {t : TypeId} {a : ATy} (h : E.ty t = some a) {zs : List AV} (hz : a.zero = some zs) (μ : Mu) : ∃ z, (zeroValue t).run P w = .ok z w ∧ VRs μ zs z.cells.toList ∧
    VR μ (bif a.isAgg then AV.agg zs else zs.headD .undef) z := by
  obtain ⟨_, i, hi, hs, hb, hzz, _⟩ := hE.ty t a h
  obtain ⟨z, h1, h2, h3, h4⟩ := hzz zs hz
  refine ⟨z, by simp [zeroValue, typeInfo, hi, h1], ofVs_VRs h2, ?_⟩
  cases hag : a.isAgg with
  | true =>
    obtain ⟨cs, rfl⟩ := h3 hag
    simp only [cond_true, VR]
    exact ⟨cs.toList, by simpa [Value.cells] using (ofVs_VRs h2 : VRs μ zs _), by simp⟩
  | false =>
    obtain ⟨z', rfl, h5⟩ := h4 hag
    exact ofV1_VR h5
end
end Go.AE
end
section
/- The abstract evaluator, part 3: the operations that only read are right. -/
set_option linter.unusedVariables false
set_option linter.unusedSectionVars false
set_option linter.unusedSimpArgs false
namespace Go.AE
variable [Val]
section
variable {P : Program} {E : Env} (hE : EnvOK P E) {A : AHeap} {μ : Mu} {w : World} (R : Rel A μ w)

/-! ### Parts and builds -/
include hE in
theorem part_sound {t : TypeId} {cs : List AV} {off : Nat} {v : AV} (h : aPart E t cs off = some v) {us : List Value} (k : VRs μ cs us) :
    ∃ u, (part t us.toArray off).run P w = .ok u w ∧ VR μ v u := by
  simp only [aPart, Option.bind_eq_some_iff, ble_dec] at h
  obtain ⟨a, ha, h⟩ := h
  cases hag : a.isAgg with
  | true =>
    simp only [hag, cond_true] at h
    by_cases hl : off + a.size ≤ cs.length
    · simp only [hl, decide_true, cond_true, Option.some.injEq] at h
      subst h
      refine ⟨.agg (us.toArray.extract off (off + a.size)), by simp [part, run_agg hE w ha, hag, run_szo hE w ha], ?_⟩
      simp only [VR]
      exact ⟨(us.drop off).take a.size, (k.drop off).take _, by congr 1; apply Array.ext'; simp [List.extract_eq_take_drop]⟩
    · simp [hl] at h
  | false =>
    simp only [hag, cond_false] at h
    obtain ⟨u, h1, h2⟩ := k.get h
    exact ⟨u, by simp [part, run_agg hE w ha, hag, h1], h2⟩

theorem foldl_set (off : Nat) : ∀ (vs : List Value) (j : Nat) (cells : Array Value), off + j + vs.length ≤ cells.size →
    ((vs.zipIdx j).foldl (fun cs (p : Value × Nat) => cs.setIfInBounds (off + p.2) p.1) cells) = (cells.toList.take (off + j) ++ vs ++ cells.toList.drop (off + j + vs.length)).toArray
  | [], j, cells, h => by simp
  | v :: vs, j, cells, h => by
    simp only [List.zipIdx_cons, List.foldl_cons]
    rw [foldl_set off vs (j + 1) _ (by simp at h ⊢; omega)]
    apply Array.ext'
    simp only [Array.toList_setIfInBounds]
    have e := list_seg_step cells.toList (off + j) v vs (by simp at h ⊢; omega)
    simpa [Nat.add_assoc] using e
theorem fill_sound {place place' : Nat → Option (Nat × Nat)} (hp : ∀ i x, place i = some x → place' i = some x) : ∀ {parts : List (Nat × AV)} {cells out : List AV} {parts' : List (Nat × Value)} {cells' : Array Value},
    aFill place cells parts = some out → VRs μ cells cells'.toList → parts'.length = parts.length → (∀ (i : Nat) p p', parts[i]? = some p → parts'[i]? = some p' → p.1 = p'.1 ∧ VR μ p.2 p'.2) →
    ∃ out', Instr.fill place' cells' parts' = some out' ∧ VRs μ out out'.toList
  | [], cells, out, [], cells', h, hc, _, _ => by
    simp only [aFill, Option.some.injEq] at h
    subst h
    exact ⟨cells', rfl, hc⟩
  | [], _, _, _ :: _, _, _, _, hl, _ => by simp at hl
  | _ :: _, _, _, [], _, _, _, hl, _ => by simp at hl
  | (i, v) :: parts, cells, out, (i', u) :: parts', cells', h, hc, hl, hps => by
    obtain ⟨hi, hvu⟩ := hps 0 (i, v) (i', u) (by simp) (by simp)
    simp only at hi hvu
    subst hi
    simp only [aFill, Option.bind_eq_some_iff, beq_dec, ble_dec] at h
    obtain ⟨⟨off, size⟩, h1, h2⟩ := h
    have hvc := hvu.cells
    have hlen := hvc.length
    by_cases hs : v.cells.length = size ∧ off + size ≤ cells.length
    · obtain ⟨hs1, hs2⟩ := hs
      simp only [hs1, hs2, decide_true, Bool.and_self, cond_true] at h2
      have hcl := hc.length
      have hus : u.cells.size = size := by rw [← hs1, ← hlen]; simp
      have hcs : cells'.size = cells.length := by simpa using hcl
      have hfold := foldl_set off u.cells.toList 0 cells' (by simp [hus, hcs]; omega)
      have hx : VRs μ (cells.take off ++ v.cells ++ cells.drop (off + size)) (cells'.toList.take (off + 0) ++ u.cells.toList ++ cells'.toList.drop (off + 0 + u.cells.toList.length)) := by
        have : off + 0 + u.cells.toList.length = off + size := by simp [hus]
        rw [this]
        exact ((hc.take off).append hvc).append (hc.drop _)
      obtain ⟨out', h3, h4⟩ := fill_sound hp h2 (cells' := (cells'.toList.take (off + 0) ++ u.cells.toList ++ cells'.toList.drop (off + 0 + u.cells.toList.length)).toArray) (by simpa using hx) (by simpa using hl)
        (fun j p p' a b => hps (j + 1) p p' (by simpa using a) (by simpa using b))
      refine ⟨out', ?_, h4⟩
      simp only [Instr.fill, hp _ _ h1]
      have c1 : (u.cells.size ≠ size || decide (off + u.cells.size > cells'.size)) = false := by simp [hus, hcs]; omega
      simp only [c1, Bool.false_eq_true, if_false]
      have : (Array.zipIdx u.cells).foldl (fun cs (x : Value × Nat) => match x with | (c, j) => cs.setIfInBounds (off + j) c) cells' = (cells'.toList.take (off + 0) ++ u.cells.toList ++ cells'.toList.drop (off + 0 + u.cells.toList.length)).toArray := by
        rw [← hfold, ← Array.foldl_toList]
        simp
      rw [this]
      exact h3
    · exfalso
      have : (decide (v.cells.length = size) && decide (off + size ≤ cells.length)) = false := by
        simp only [Bool.and_eq_false_iff, decide_eq_false_iff_not]
        omega
      rw [this] at h2
      cases h2
theorem evalPs_VR {ts : Ts} {a : Act} (T : TR μ ts a.tmps) (hE : EnvOK P E) : ∀ {ps : List (Nat × Operand)} {vs : List (Nat × AV)}, evalPs E ts ps = some vs →
    (ps.map fun p => (p.1, a.eval p.2)).length = vs.length ∧ ∀ (i : Nat) p p', vs[i]? = some p → (ps.map fun p => (p.1, a.eval p.2))[i]? = some p' → p.1 = p'.1 ∧ VR μ p.2 p'.2
  | [], vs, h => by simp only [evalPs] at h; cases h; simp
  | (n, x) :: ps, vs, h => by
    simp only [evalPs, Option.bind_eq_some_iff] at h
    obtain ⟨v, h1, vs', h2, h3⟩ := h
    cases h3
    obtain ⟨l, k⟩ := evalPs_VR T hE h2
    refine ⟨by simpa using l, fun i p p' hp hp' => ?_⟩
    cases i with
    | zero => simp at hp hp'; subst hp; subst hp'; exact ⟨rfl, evalO_VR hE T h1⟩
    | succ i => exact k i p p' (by simpa using hp) (by simpa using hp')
include hE in
theorem places_sound : ∀ {fs : List Field} {ps : List (Nat × Nat)}, aPlaces E fs = some ps → (fs.mapM (m := Sem) fun f => do pure (f.offset, ← sizeOf f.type)).run P w = .ok ps w
  | [], ps, h => by simp only [aPlaces] at h; cases h; simp
  | f :: fs, ps, h => by
    simp only [aPlaces, Option.bind_eq_some_iff] at h
    obtain ⟨a, h1, ps', h2, h3⟩ := h
    cases h3
    have ih := places_sound h2
    rw [List.mapM_cons]
    simp only [Sem.run_bind, run_szo hE w h1, Result.andThen_ok, Sem.run_pure]
    rw [ih]
    rfl
include hE in
theorem build_sound {t : TypeId} {parts : List (Nat × AV)} {v : AV} (h : aBuild E t parts = some v) {parts' : List (Nat × Value)} (hl : parts'.length = parts.length)
    (hps : ∀ (i : Nat) p p', parts[i]? = some p → parts'[i]? = some p' → p.1 = p'.1 ∧ VR μ p.2 p'.2) : ∃ u, (Instr.build t parts'.toArray).run P w = .ok u w ∧ VR μ v u := by
  simp only [aBuild, Option.bind_eq_some_iff] at h
  obtain ⟨a, ha, z, hz, h⟩ := h
  obtain ⟨z', hz1, hz2, _⟩ := run_zero hE w ha hz μ
  split at h
  · rename_i fields hd
    simp only [Option.bind_eq_some_iff] at h
    obtain ⟨ps, h1, cs, h2, h3⟩ := h
    cases h3
    have hpl := places_sound hE (w := w) h1
    obtain ⟨out', h4, h5⟩ := fill_sound (place' := (ps.toArray[·]?)) (by simp) h2 hz2 hl hps
    refine ⟨.agg out', ?_, by simp only [VR]; exact ⟨out'.toList, h5, by simp⟩⟩
    have hpl' : (fields.mapM (m := Sem) fun f => do pure (f.offset, ← sizeOf f.type)).run P w = .ok ps.toArray w := by
      rw [Array.mapM_eq_mapM_toList]
      simp only [Sem.run_map, hpl, Result.andThen_ok]
    simp only [Instr.build, Sem.run_bind, hz1, Result.andThen_ok, run_und hE w ha, hd, hpl', h4, Sem.run_pure, List.toList_toArray]
  · rename_i n elem hd
    simp only [Option.bind_eq_some_iff] at h
    obtain ⟨e, h1, cs, h2, h3⟩ := h
    cases h3
    obtain ⟨out', h4, h5⟩ := fill_sound (place' := fun i => some (i * e.size, e.size)) (fun _ _ h => h) h2 hz2 hl hps
    refine ⟨.agg out', ?_, by simp only [VR]; exact ⟨out'.toList, h5, by simp⟩⟩
    simp only [Instr.build, Sem.run_bind, hz1, Result.andThen_ok, run_und hE w ha, hd, run_szo hE w h1, h4, Sem.run_pure, List.toList_toArray]
  · cases h

/-! ### Loads -/
include R in
theorem tab_sound {b g es : Nat} {k : IntKind} {c sz : Nat} (hm : μ b g = some (c, sz)) : ∀ (n off : Nat) (l : List Int), aTab A b g es k n off = some l → ∀ j, j < n → w.cell? ⟨c, off + j * es, none⟩ = some (.int k (l.getD j 0))
  | 0, _, _, _, j, hj => by omega
  | n + 1, off, l, h, j, hj => by
    simp only [aTab, Option.bind_eq_some_iff] at h
    obtain ⟨v, h1, h⟩ := h
    split at h
    · rename_i k' m
      by_cases hk : k' = k
      · subst hk
        simp only [decide_true, cond_true, Option.bind_eq_some_iff, Option.some.injEq] at h
        obtain ⟨l', h2, rfl⟩ := h
        cases j with
        | zero =>
          obtain ⟨x, h3, h4, h5⟩ := aRead1_sound R h1 hm
          simp only [VR] at h3
          subst h3
          simpa using h5
        | succ j =>
          have := tab_sound hm n (off + es) l' h2 j (by omega)
          rw [show off + (j + 1) * es = off + es + j * es by rw [Nat.add_mul]; omega]
          simpa using this
      · simp [hk] at h
    · cases h
include hE R in
theorem load_sound {t : TypeId} {p v : AV} (h : aLoad E A t p = some v) {u : Value} (hu : VR μ p u) : ∃ x, (Instr.loadAt t u).run P w = .ok x w ∧ VR μ v x := by
  rw [aLoad_eq] at h; unfold aLoadO at h
  split at h
  · rename_i b g off
    simp only [VR] at hu
    obtain ⟨c, sz, hm, rfl⟩ := hu
    simp only [Option.bind_eq_some_iff] at h
    obtain ⟨a, ha, h⟩ := h
    cases hag : a.isAgg with
    | true =>
      simp only [hag, cond_true, Option.bind_eq_some_iff] at h
      obtain ⟨vs, h1, h2⟩ := h
      cases h2
      obtain ⟨us, h3, h4, _, h5⟩ := aRead_sound R h1 hm
      have hl := run_loadCells_list (P := P) w ⟨c, off, none⟩ us h5
      refine ⟨.agg us.toArray, ?_, by simp only [VR]; exact ⟨us, h3, rfl⟩⟩
      simp only [Instr.loadAt, Instr.sureAddr, loadVar, Sem.run_bind, Sem.run_pure, Result.andThen_ok, run_agg hE w ha, hag, if_true, run_szo hE w ha]
      rw [← h4, hl]
      rfl
    | false =>
      simp only [hag, cond_false] at h
      obtain ⟨x, h3, h4, h5⟩ := aRead1_sound R h hm
      refine ⟨x, ?_, h3⟩
      simp [Instr.loadAt, Instr.sureAddr, loadVar, run_agg hE w ha, hag, h5]
  · rename_i b g off len es z
    simp only [VR] at hu
    obtain ⟨c, sz, hm, ⟨hz1, hz2⟩, rfl⟩ := hu
    simp only [Option.bind_eq_some_iff] at h
    obtain ⟨a, ha, h⟩ := h
    split at h
    · rename_i k hd
      simp only [Option.bind_eq_some_iff, Option.some.injEq] at h
      obtain ⟨l, hl, rfl⟩ := h
      have h5 := tab_sound R hm len off l hl (z.ev Val.ρ).toNat (by omega)
      have hag : a.isAgg = false := by simp [ATy.isAgg, hd]
      refine ⟨_, ?_, by simp only [VR]; rfl⟩
      simp [Instr.loadAt, Instr.sureAddr, loadVar, run_agg hE w ha, hag, h5, Sy.ev]
    · cases h
  · cases h

/-! ### Numbers, strings -/
omit [Val] in
theorem lt_dec (a b : Int) : decide (a < b) = !decide (b ≤ a) := by by_cases h : a < b <;> simp [h] <;> omega
include hE in
theorem symBin_sound {op : BinOp} {k : IntKind} {a b : Sy} {v : AV} (h : aSymBin E op k a b = some v) (t : TypeId) (μ : Mu) : ∃ u, (binOp op t (.int k (a.ev Val.ρ)) (.int k (b.ev Val.ρ))).run P w = .ok u w ∧ VR μ v u := by
  cases op <;> simp only [aSymBin] at h
  case shl => cases h
  case shr => cases h
  case quo =>
    split at h
    · rename_i n
      split at h
      · cases h
      · rename_i h0
        cases h
        simp only [VR, exists_eq_right]
        simp [binOp, Op.intDiv, h0, Sy.ev, binVal, aIntBin]
    · cases h
  case rem =>
    split at h
    · rename_i n
      split at h
      · cases h
      · rename_i h0
        cases h
        simp only [VR, exists_eq_right]
        simp [binOp, Op.intDiv, h0, Sy.ev, binVal, aIntBin]
    · cases h
  case eql => simp only [Option.bind_eq_some_iff, Option.some.injEq] at h; obtain ⟨r, h1, rfl⟩ := h; simp only [VR, exists_eq_right]; rw [← hE.eq _ _ _ h1]; simp [binOp, Op.intCmp]; rfl
  case neq => simp only [Option.bind_eq_some_iff, Option.some.injEq] at h; obtain ⟨r, h1, rfl⟩ := h; simp only [VR, exists_eq_right]; rw [← hE.eq _ _ _ h1]; simp [binOp, Op.intCmp]; rfl
  case lss => simp only [Option.bind_eq_some_iff, Option.some.injEq] at h; obtain ⟨r, h1, rfl⟩ := h; simp only [VR, exists_eq_right]; rw [← hE.le _ _ _ h1]; simp [binOp, Op.intCmp, lt_dec]
  case leq => simp only [Option.bind_eq_some_iff, Option.some.injEq] at h; obtain ⟨r, h1, rfl⟩ := h; simp only [VR, exists_eq_right]; rw [← hE.le _ _ _ h1]; simp [binOp, Op.intCmp]
  case gtr => simp only [Option.bind_eq_some_iff, Option.some.injEq] at h; obtain ⟨r, h1, rfl⟩ := h; simp only [VR, exists_eq_right]; rw [← hE.le _ _ _ h1]; simp [binOp, Op.intCmp, lt_dec]
  case geq => simp only [Option.bind_eq_some_iff, Option.some.injEq] at h; obtain ⟨r, h1, rfl⟩ := h; simp only [VR, exists_eq_right]; rw [← hE.le _ _ _ h1]; simp [binOp, Op.intCmp]
  all_goals
    cases h
    simp only [VR, exists_eq_right]
    unfold binOp
    simp only [ne_eq, not_true_eq_false, if_false, Sy.ev, binVal, aIntBin]
    rfl
theorem intBin_sound {op : BinOp} {k : IntKind} {a b : Int} {v : AV} (h : aIntBin op k a b = some v) (t : TypeId) (μ : Mu) : ∃ u, (binOp op t (.int k a) (.int k b)).run P w = .ok u w ∧ VR μ v u := by
  cases op <;> simp only [aIntBin] at h
  case shl => cases h
  case shr => cases h
  case quo =>
    split at h
    · cases h
    · rename_i h0
      cases h
      simp only [VR, exists_eq_right]
      simp [binOp, Op.intDiv, h0]
  case rem =>
    split at h
    · cases h
    · rename_i h0
      cases h
      simp only [VR, exists_eq_right]
      simp [binOp, Op.intDiv, h0]
  all_goals
    cases h
    simp only [VR, exists_eq_right]
    unfold binOp
    simp only [ne_eq, not_true_eq_false, if_false]
    rfl
theorem shift_sound {op : BinOp} {k : IntKind} {a b : Int} {v : AV} (h : aShift op k a b = some v) (yk : IntKind) (μ : Mu) : ∃ u, (Op.shift op k a yk b).run P w = .ok u w ∧ VR μ v u := by
  unfold aShift at h
  split at h
  · cases h
  · rename_i h0
    split at h <;> first
      | (cases h; simp only [VR, exists_eq_right]; simp [Op.shift, h0])
      | cases h
theorem strBin_sound {op : BinOp} {x y : ByteArray} {v : AV} (h : aStrBin op x y = some v) (t : TypeId) (μ : Mu) : ∃ u, (binOp op t (.string x) (.string y)).run P w = .ok u w ∧ VR μ v u := by
  cases op <;> simp only [aStrBin] at h
  case add =>
    by_cases hl : x.size + y.size ≤ 9223372036854775807
    · simp only [ble_dec, hl, decide_true, cond_true] at h
      cases h
      refine ⟨.string (x ++ y), ?_, by simp only [VR]⟩
      have : ¬ (((x.size + y.size : Nat) : Int) > IntKind.i64.max) := by simp [IntKind.max, IntKind.bits, IntKind.signed]; omega
      simp only [binOp, Op.stringOp, this, if_false, Sem.run_pure]
    · simp [ble_dec, hl] at h
  all_goals first
    | (cases h; simp only [VR, exists_eq_right, ← ByteArray.toList_eq]; rfl)
    | cases h

/-! ### '==' -/
theorem cellsOf_ty (hE : EnvOK P E) {t : TypeId} {a : ATy} (h : E.ty t = some a) : P.cellsOf t = a.size := by
  obtain ⟨_, i, hi, hs, _⟩ := hE.ty t a h
  simp [Program.cellsOf, hi, hs]
include R in
theorem wr_cells {b g c sz : Nat} (hm : μ b g = some (c, sz)) (hw : aWrRow A b = true) : ∃ cs e, w.heap[c]? = some (.cells cs e (0, 0)) := by
  unfold aWrRow at hw
  split at hw
  · rename_i wr gen cells hg
    obtain ⟨o, h1, cs, e, fr, h2, h3, h4, _⟩ := R.blk b _ hg g c sz hm
    rw [h2, h4 hw] at h1
    exact ⟨cs, e, h1⟩
  · cases hw
include hE R in
set_option maxHeartbeats 2000000 in
theorem eq_sound : ∀ (d : Nat) (t : TypeId) (x y : AV) (r : Bool), aEq E A d t x y = some r → ∀ (u v : Value), VR μ x u → VR μ y v → ∀ D, d ≤ D → (Op.equalIn D t u v).run P w = .ok r w
  | 0, _, _, _, _, h, _, _, _, _, _, _ => by simp [aEq] at h
  | d + 1, t, x, y, r, h, u, v, hu, hv, 0, hD => by omega
  | d + 1, t, x, y, r, h, u, v, hu, hv, D + 1, hD => by
    have ih := eq_sound d
    simp only [aEq, Option.bind_eq_some_iff] at h
    obtain ⟨a, ha, h⟩ := h
    have hund := (hE.ty t a ha).1
    split at h
    case h_1 => rename_i hd; simp only [VR] at hu hv; subst hu; subst hv; cases h; simp [Op.equalIn, run_underlying hund, hd]
    case h_2 =>
      rename_i hd
      simp only [VR] at hu hv
      subst hu; subst hv
      split at h
      · rename_i hk; subst hk; cases h; simp [Op.equalIn, run_underlying hund, hd]
      · cases h
    case h_3 => rename_i hd; simp only [VR] at hu hv; subst hu; subst hv; cases h; simp only [Op.equalIn, Sem.run_bind, run_underlying hund, hd, Result.andThen_ok, Sem.run_pure, beq_toListBytes, ByteArray.toList_eq]
    case h_4 => rename_i hd; simp only [VR] at hu hv; subst hu; subst hv; cases h; simp [Op.equalIn, run_underlying hund, hd]
    case h_5 => rename_i hd; simp only [VR] at hu hv; subst hu; obtain ⟨c, sz, _, rfl⟩ := hv; cases h; simp [Op.equalIn, run_underlying hund, hd]
    case h_6 => rename_i hd; simp only [VR] at hu hv; obtain ⟨c, sz, _, rfl⟩ := hu; subst hv; cases h; simp [Op.equalIn, run_underlying hund, hd]
    case h_7 =>
      rename_i e b g o b' g' o' hd
      simp only [Option.bind_eq_some_iff, beq_dec] at h
      obtain ⟨ae, hae, h⟩ := h
      simp only [VR] at hu hv
      obtain ⟨c, sz, hm, rfl⟩ := hu
      obtain ⟨c', sz', hm', rfl⟩ := hv
      by_cases hz : ae.size = 0
      · simp [hz] at h
      · simp only [hz, decide_false, cond_false] at h
        have key : (Op.equalIn (D + 1) t (.pointer (some ⟨c, o, none⟩)) (.pointer (some ⟨c', o', none⟩))).run P w = (sameAddr ⟨c, o, none⟩ ⟨c', o', none⟩).run P w := by
          simp only [Op.equalIn, Sem.run_bind, run_underlying hund, hd, Result.andThen_ok, run_szo hE w hae]
          simp [hz]
        rw [key]
        by_cases hb : b = b'
        · subst hb
          simp only [decide_true, cond_true] at h
          by_cases hg : g = g'
          · subst hg
            simp only [decide_true, cond_true, Option.some.injEq] at h
            subst h
            rw [hm] at hm'; cases hm'
            have e1 : ((⟨c, o, none⟩ : Addr) == ⟨c, o', none⟩) = decide (o = o') := by
              by_cases ho : o = o'
              · subst ho; simp
              · simp [ho]
            simp [sameAddr, e1]
          · simp [hg] at h
        · simp only [hb, decide_false, cond_false] at h
          cases hw1 : aWrRow A b <;> cases hw2 : aWrRow A b' <;> simp [hw1, hw2] at h
          subst h
          have hne : c ≠ c' := fun e => hb (R.inj b g c sz b' g' sz' hm (e ▸ hm'))
          obtain ⟨cs1, e1, q1⟩ := wr_cells R hm hw1
          obtain ⟨cs2, e2, q2⟩ := wr_cells R hm' hw2
          exact run_sameAddr_other w (fun e => hne (by cases e; rfl)) q1 q2
    case h_8 => rename_i hd; simp only [VR] at hu hv; subst hu; subst hv; cases h; simp [Op.equalIn, run_underlying hund, hd]
    case h_9 => rename_i hd; simp only [VR] at hu hv; subst hu; obtain ⟨x', _, rfl⟩ := hv; cases h; simp [Op.equalIn, run_underlying hund, hd]
    case h_10 => rename_i hd; simp only [VR] at hu hv; obtain ⟨x', _, rfl⟩ := hu; subst hv; cases h; simp [Op.equalIn, run_underlying hund, hd]
    case h_11 => rename_i hd; simp only [VR] at hu hv; subst hu; subst hv; cases h; simp [Op.equalIn, run_underlying hund, hd]
    case h_12 => rename_i hd; simp only [VR] at hu hv; subst hu; obtain ⟨_, _, _, _, _, rfl, _⟩ := hv; cases h; simp [Op.equalIn, run_underlying hund, hd]
    case h_13 => rename_i hd; simp only [VR] at hu hv; subst hv; obtain ⟨_, _, _, _, _, rfl, _⟩ := hu; cases h; simp [Op.equalIn, run_underlying hund, hd]
    case h_14 => rename_i hd; simp only [VR] at hu hv; subst hu; subst hv; cases h; simp [Op.equalIn, run_underlying hund, hd]
    case h_15 => rename_i hd; simp only [VR] at hu hv; subst hu; obtain ⟨c, sz, _, rfl⟩ := hv; cases h; simp [Op.equalIn, run_underlying hund, hd]
    case h_16 => rename_i hd; simp only [VR] at hu hv; subst hv; obtain ⟨c, sz, _, rfl⟩ := hu; cases h; simp [Op.equalIn, run_underlying hund, hd]
    case h_17 => rename_i hd; simp only [VR] at hu hv; subst hu; subst hv; cases h; simp [Op.equalIn, run_underlying hund, hd]
    case h_18 => rename_i hd; simp only [VR] at hu hv; subst hu; obtain ⟨fs, cs, _, _, rfl⟩ := hv; cases h; simp [Op.equalIn, run_underlying hund, hd]
    case h_19 => rename_i hd; simp only [VR] at hu hv; subst hv; obtain ⟨fs, cs, _, _, rfl⟩ := hu; cases h; simp [Op.equalIn, run_underlying hund, hd]
    case h_20 =>
      rename_i fields xs ys hd
      cases hp : a.plain with
      | false => simp [hp] at h
      | true =>
        simp only [hp, cond_true] at h
        obtain ⟨_, i, _, _, _, _, hpl⟩ := hE.ty t a ha
        simp only [VR] at hu hv
        obtain ⟨us, k1, rfl⟩ := hu
        obtain ⟨vs, k2, rfl⟩ := hv
        have hf : P.fieldsOf t = fields := by simp [Program.fieldsOf, hund, hd]
        rw [run_equalIn_struct w D t _ _ (by rw [hf, hund, hd]) (hpl hp).1, hf]
        generalize fields.toList = fs at h
        induction fs with
        | nil => simp only [aEqFields] at h; cases h; simp [Op.eqFields]
        | cons f fs ihf =>
          simp only [aEqFields] at h
          simp only [Op.eqFields]
          split at h
          · rename_i hn
            simp only [Option.bind_eq_some_iff] at h
            obtain ⟨p, hp1, q, hq1, r1, hr1, h⟩ := h
            obtain ⟨u1, e1, e2⟩ := part_sound hE (w := w) hp1 k1
            obtain ⟨v1, e3, e4⟩ := part_sound hE (w := w) hq1 k2
            have e5 := ih f.type p q r1 hr1 u1 v1 e2 e4 D (by omega)
            rw [if_pos hn]
            simp only [Sem.run_bind, e1, e3, e5, Result.andThen_ok]
            cases r1 with
            | true => simp only [cond_true] at h; simpa using ihf h
            | false => simp only [cond_false, Option.some.injEq] at h; subst h; simp
          · rename_i hn
            rw [if_neg hn]
            exact ihf h
    case h_21 =>
      rename_i n e xs ys hd
      simp only [Option.bind_eq_some_iff] at h
      obtain ⟨ae, hae, h⟩ := h
      obtain ⟨_, ie, hie, _⟩ := hE.ty e ae hae
      simp only [VR] at hu hv
      obtain ⟨us, k1, rfl⟩ := hu
      obtain ⟨vs, k2, rfl⟩ := hv
      rw [run_equalIn_array w D _ _ (by rw [hund, hd]) hie, cellsOf_ty hE hae]
      generalize List.range n = is at h
      induction is with
      | nil => simp only [aEqItems] at h; cases h; simp [Op.eqItems]
      | cons j is ihf =>
        simp only [aEqItems, Option.bind_eq_some_iff] at h
        obtain ⟨p, hp1, q, hq1, r1, hr1, h⟩ := h
        obtain ⟨u1, e1, e2⟩ := part_sound hE (w := w) hp1 k1
        obtain ⟨v1, e3, e4⟩ := part_sound hE (w := w) hq1 k2
        have e5 := ih e p q r1 hr1 u1 v1 e2 e4 D (by omega)
        simp only [Op.eqItems, Sem.run_bind, e1, e3, e5, Result.andThen_ok]
        cases r1 with
        | true => simp only [cond_true] at h; simpa using ihf h
        | false => simp only [cond_false, Option.some.injEq] at h; subst h; simp
    case h_22 =>
      rename_i kk hd _
      simp only [Option.bind_eq_some_iff] at h
      obtain ⟨⟨k, p⟩, e1, ⟨k', q⟩, e2, h⟩ := h
      split at h
      · rename_i hk
        simp only at hk
        subst hk
        have q1 := toSy_VR hu e1
        have q2 := toSy_VR hv e2
        subst q1; subst q2
        have e3 := hE.eq _ _ _ h
        rw [← e3]
        simp [Op.equalIn, run_underlying hund, hd]
        rfl
      · cases h
    case h_23 => cases h
end
end Go.AE
end
section
/- The abstract evaluator, part 4: every operation that only reads is right. -/
set_option linter.unusedVariables false
set_option linter.unusedSectionVars false
set_option linter.unusedSimpArgs false
namespace Go.AE
variable [Val]
section
variable {μ : Mu}
theorem VR.inv_nilIface {x : AV} (h : VR μ x .nilIface) : x = .nilIface := by cases x <;> simp [VR] at h ⊢
theorem VR.inv_agg {x : AV} {cs : Array Value} (h : VR μ x (.agg cs)) : ∃ xs, x = .agg xs ∧ VRs μ xs cs.toList := by
  cases x <;> simp [VR] at h ⊢
  obtain ⟨xs, h1, h2⟩ := h
  subst h2
  simpa using h1
theorem VR.inv_int {x : AV} {k : IntKind} {n : Int} (h : VR μ x (.int k n)) (hs : isSym x = false) : x = .int k n := by
  cases x <;> simp [VR, isSym] at h hs ⊢
  exact ⟨h.1.symm, h.2.symm⟩
theorem VR.inv_string {x : AV} {s : ByteArray} (h : VR μ x (.string s)) : x = .str s := by
  cases x <;> simp [VR] at h ⊢
  exact h.symm
theorem VR.inv_bool {x : AV} {s : Bool} (h : VR μ x (.bool s)) : x = .bool s := by
  cases x <;> simp [VR] at h ⊢
  exact h.symm
theorem VR.inv_float {x : AV} {k : FloatKind} {n : Nat} (h : VR μ x (.float k n)) : False := by cases x <;> simp [VR] at h
theorem VR.inv_complex {x : AV} {k : FloatKind} {n m : Nat} (h : VR μ x (.complex k n m)) : False := by cases x <;> simp [VR] at h
end
section
variable {P : Program} {E : Env} (hE : EnvOK P E) {A : AHeap} {μ : Mu} {w : World} (R : Rel A μ w)
theorem guard_plain {t : TypeId} {op : BinOp} {o1 o2 : Operand} {u1 u2 : Value} (h1 : ¬ (u1 = .nilIface ∧ u2 = .nilIface)) (h2 : ¬ ((∃ a, u1 = .agg a) ∧ ∃ a, u2 = .agg a)) : (eqGuard op t o1 o2 u1 u2).run P w = .ok () w := by
  cases op <;> try rfl
  all_goals
    cases u1 <;> cases u2 <;> first
      | rfl
      | exact absurd ⟨rfl, rfl⟩ h1
      | exact absurd ⟨⟨_, rfl⟩, _, rfl⟩ h2
theorem guard_noteq {t : TypeId} {op : BinOp} {o1 o2 : Operand} {u1 u2 : Value} (h1 : op ≠ .eql) (h2 : op ≠ .neq) : (eqGuard op t o1 o2 u1 u2).run P w = .ok () w := by
  unfold eqGuard
  cases op <;> first | rfl | exact absurd rfl h1 | exact absurd rfl h2
theorem binOp_eql_gen {t : TypeId} {u1 u2 : Value} (h1 : ¬ ((∃ k n, u1 = .int k n) ∧ ∃ k n, u2 = .int k n)) (h2 : ¬ ((∃ n, u1 = .string n) ∧ ∃ n, u2 = .string n)) (h3 : ∀ k n, u1 ≠ .float k n) (h4 : ∀ k n m, u1 ≠ .complex k n m) :
    binOp .eql t u1 u2 = (do pure (.bool (← Op.equal t u1 u2))) ∧ binOp .neq t u1 u2 = (do pure (.bool (!(← Op.equal t u1 u2)))) := by
  cases u1 <;> cases u2 <;> first
    | exact ⟨rfl, rfl⟩
    | exact absurd ⟨⟨_, _, rfl⟩, _, _, rfl⟩ h1
    | exact absurd ⟨⟨_, rfl⟩, _, rfl⟩ h2
    | exact absurd rfl (h3 _ _)
    | exact absurd rfl (h4 _ _ _)
include hE R in
theorem bin_sound {op : BinOp} {t : TypeId} {x y v : AV} (h : aBin E A op t x y = some v) {u1 u2 : Value} (h1 : VR μ x u1) (h2 : VR μ y u2) (o1 o2 : Operand) :
    ∃ u, (eqGuard op t o1 o2 u1 u2).run P w = .ok () w ∧ (binOp op t u1 u2).run P w = .ok u w ∧ VR μ v u := by
  have num : ∀ {op : BinOp} {k k' : IntKind} {a b : Int}, (eqGuard op t o1 o2 (.int k a) (.int k' b)).run P w = .ok () w :=
    fun {op k k' a b} => guard_plain (fun h => by cases h.1) (fun h => by obtain ⟨⟨_, h⟩, _⟩ := h; cases h)
  rw [aBin_eq] at h; unfold aBinO at h
  cases hss : (isSym x || isSym y) with
  | true =>
    rw [hss] at h
    simp only [cond_true, Option.bind_eq_some_iff] at h
    obtain ⟨⟨k, a⟩, e1, ⟨k', b⟩, e2, h⟩ := h
    split at h
    · rename_i hk
      simp only at hk
      subst hk
      have q1 := toSy_VR h1 e1
      have q2 := toSy_VR h2 e2
      subst q1; subst q2
      obtain ⟨u, e3, e4⟩ := symBin_sound (w := w) (P := P) hE h t μ
      exact ⟨u, num, e3, e4⟩
    · cases h
  | false =>
  rw [hss] at h
  simp only [cond_false] at h
  simp only [Bool.or_eq_false_iff] at hss
  obtain ⟨hsx, hsy⟩ := hss
  have key : ∀ {r : Bool}, aEq E A 20 t x y = some r → aGuard E t x y = true → ¬ ((∃ k a, x = .int k a) ∧ ∃ k b, y = .int k b) → ¬ ((∃ a, x = .str a) ∧ ∃ b, y = .str b) →
      (∀ op, (eqGuard op t o1 o2 u1 u2).run P w = .ok () w) ∧ (binOp .eql t u1 u2).run P w = .ok (.bool r) w ∧ (binOp .neq t u1 u2).run P w = .ok (.bool !r) w := by
    intro r hr hg hn1 hn2
    have e : (Op.equal t u1 u2).run P w = .ok r w := eq_sound hE R 20 t x y r hr u1 u2 h1 h2 10000 (by omega)
    obtain ⟨b1, b2⟩ := binOp_eql_gen (t := t) (u1 := u1) (u2 := u2)
      (fun ⟨⟨k, n, hu⟩, k', n', hu'⟩ => by subst hu; subst hu'; exact hn1 ⟨⟨k, n, h1.inv_int hsx⟩, k', n', h2.inv_int hsy⟩)
      (fun ⟨⟨n, hu⟩, n', hu'⟩ => by subst hu; subst hu'; exact hn2 ⟨⟨n, h1.inv_string⟩, n', h2.inv_string⟩)
      (fun k n hu => by subst hu; exact h1.inv_float) (fun k n m hu => by subst hu; exact h1.inv_complex)
    refine ⟨fun op => ?_, by rw [b1]; simp [e], by rw [b2]; simp [e]⟩
    by_cases ha : (∃ a, u1 = .agg a) ∧ ∃ a, u2 = .agg a
    · obtain ⟨⟨a1, rfl⟩, a2, rfl⟩ := ha
      obtain ⟨xs, rfl, _⟩ := h1.inv_agg
      obtain ⟨ys, rfl, _⟩ := h2.inv_agg
      simp only [aGuard] at hg
      split at hg
      · rename_i a ha
        obtain ⟨_, i, _, _, _, _, hpl⟩ := hE.ty t a ha
        exact run_eqGuard_agg w op t o1 o2 _ _ ((hpl hg).2)
      · cases hg
    · refine guard_plain (fun ⟨e1, e2⟩ => ?_) ha
      subst e1; subst e2
      rw [h1.inv_nilIface, h2.inv_nilIface] at hg
      cases hg
  split at h
  · rename_i r hs
    unfold aBinS at hs
    split at hs
    · rename_i k1 a1 k2 b1
      simp only [Option.some.injEq] at hs
      subst hs
      simp only [VR] at h1 h2
      subst h1; subst h2
      obtain ⟨u, e1, e2⟩ := shift_sound (w := w) (P := P) h k2 μ
      exact ⟨u, num, e1, e2⟩
    · rename_i k1 a1 k2 b1
      simp only [Option.some.injEq] at hs
      subst hs
      simp only [VR] at h1 h2
      subst h1; subst h2
      obtain ⟨u, e1, e2⟩ := shift_sound (w := w) (P := P) h k2 μ
      exact ⟨u, num, e1, e2⟩
    · simp only [Option.some.injEq] at hs
      subst hs
      split at h
      · rename_i hk
        subst hk
        simp only [VR] at h1 h2
        subst h1; subst h2
        obtain ⟨u, e1, e2⟩ := intBin_sound (w := w) (P := P) h t μ
        exact ⟨u, num, e1, e2⟩
      · cases h
    · simp only [Option.some.injEq] at hs
      subst hs
      simp only [VR] at h1 h2
      subst h1; subst h2
      obtain ⟨u, e1, e2⟩ := strBin_sound (w := w) (P := P) h t μ
      exact ⟨u, guard_plain (fun h => by cases h.1) (fun h => by obtain ⟨⟨_, h⟩, _⟩ := h; cases h), e1, e2⟩
    · cases hs
  · rename_i hs
    have hn1 : ¬ ((∃ k a, x = .int k a) ∧ ∃ k b, y = .int k b) := fun ⟨⟨k, a, e1⟩, k', b, e2⟩ => by
      subst e1; subst e2
      cases op <;> simp [aBinS] at hs
    have hn2 : ¬ ((∃ a, x = .str a) ∧ ∃ b, y = .str b) := fun ⟨⟨a, e1⟩, b, e2⟩ => by
      subst e1; subst e2
      cases op <;> simp [aBinS] at hs
    unfold aBinE at h
    split at h
    · cases hg : aGuard E t x y with
      | false => simp [hg] at h
      | true =>
        simp only [hg, cond_true, Option.bind_eq_some_iff, Option.some.injEq] at h
        obtain ⟨r, hr, rfl⟩ := h
        obtain ⟨k1, k2, k3⟩ := key hr hg hn1 hn2
        exact ⟨_, k1 _, k2, by simp only [VR]⟩
    · cases hg : aGuard E t x y with
      | false => simp [hg] at h
      | true =>
        simp only [hg, cond_true, Option.bind_eq_some_iff, Option.some.injEq] at h
        obtain ⟨r, hr, rfl⟩ := h
        obtain ⟨k1, k2, k3⟩ := key hr hg hn1 hn2
        exact ⟨_, k1 _, k3, by simp only [VR]⟩
    · cases h
theorem un_sound {op : UnOp} {x v : AV} (h : aUn op x = some v) {u : Value} (h1 : VR μ x u) : ∃ y, (Op.unary op u).run P w = .ok y w ∧ VR μ v y := by
  unfold aUn at h
  split at h
  · simp only [VR] at h1; subst h1
    simp only [aIntBin, Option.some.injEq] at h
    subst h
    simp only [VR, exists_eq_right]; rfl
  · simp only [VR] at h1; subst h1
    simp only [aIntBin, Option.some.injEq] at h
    subst h
    simp only [VR, exists_eq_right]; rfl
  · simp only [VR] at h1; subst h1; cases h; simp only [VR, exists_eq_right]; rfl
  · simp only [VR] at h1; subst h1
    simp only [Option.some.injEq] at h
    subst h
    simp only [VR, exists_eq_right, Sy.ev, binVal, aIntBin]; rfl
  · cases h
theorem mkWr_ev (k : IntKind) (z : Sy) : (mkWr k z).ev Val.ρ = k.wrap (z.ev Val.ρ) := by
  unfold mkWr
  split
  · rename_i a
    simp only [Sy.ev, IntKind.wrap, IntKind.bits, IntKind.signed]
    simp
  · rfl
include hE in
theorem convert_sound {s d : TypeId} {x v : AV} (h : aConvert E s d x = some v) {u : Value} (h1 : VR μ x u) : ∃ y, (convert s d u).run P w = .ok y w ∧ VR μ v y := by
  simp only [aConvert, Option.bind_eq_some_iff] at h
  obtain ⟨as, has, ad, had, h⟩ := h
  have e1 := (hE.ty _ _ has).1
  have e2 := (hE.ty _ _ had).1
  split at h
  · rename_i hd1 hd2
    simp only [VR] at h1; subst h1; cases h
    simp only [VR, exists_eq_right]
    simp only [convert, Sem.run_bind, run_underlying e1, run_underlying e2, Result.andThen_ok, hd1, hd2]
    rfl
  · rename_i hd1 hd2
    simp only [VR] at h1; subst h1; cases h
    simp only [VR, exists_eq_right, mkWr_ev]
    simp only [convert, Sem.run_bind, run_underlying e1, run_underlying e2, Result.andThen_ok, hd1, hd2]
    rfl
  · rename_i hd1 hd2
    simp only [VR] at h1; subst h1; cases h
    simp only [VR, exists_eq_right]
    simp only [convert, Sem.run_bind, run_underlying e1, run_underlying e2, Result.andThen_ok, hd1, hd2]
    rfl
  · cases h

/-! ### Slices -/
theorem bound_sound {x : Option AV} {y : Nat} {i d : Nat} (h : aSlBound x d y = some i) {u : Option Value} (hu : ∀ v, x = some v → ∃ z, u = some z ∧ VR μ v z) (hn : x = none → u = none) (code : BoundsCode) (y' : Nat) (hy : y ≤ y') :
    (∃ z, u = some z ∧ (Instr.sliceBound z y' code).run P w = .ok i w ∧ i ≤ y) ∨ (u = none ∧ i = d) := by
  cases x with
  | none => simp only [aSlBound, Option.some.injEq] at h; exact .inr ⟨hn rfl, h.symm⟩
  | some v =>
    obtain ⟨z, rfl, hz⟩ := hu v rfl
    cases v <;> simp only [aSlBound] at h <;> try (cases h; done)
    rename_i k n
    simp only [VR] at hz
    subst hz
    by_cases hb : 0 ≤ n ∧ n ≤ (y : Int)
    · simp only [hb.1, hb.2, decide_true, Bool.and_self, cond_true, Option.some.injEq] at h
      subst h
      have : n ≤ (y' : Int) := by omega
      exact .inl ⟨_, rfl, by simp [Instr.sliceBound, asIntOf, hb.1, this], by omega⟩
    · exfalso
      have : (decide (0 ≤ n) && decide (n ≤ (y : Int))) = false := by simp only [Bool.and_eq_false_iff, decide_eq_false_iff_not]; omega
      rw [this] at h
      cases h
def OptR (μ : Mu) (x : Option AV) (u : Option Value) : Prop := (∀ v, x = some v → ∃ z, u = some z ∧ VR μ v z) ∧ (x = none → u = none)
theorem OptR.of {E : Env} (hE : EnvOK P E) {ts : Ts} {a : Act} (T : TR μ ts a.tmps) {o : Option Operand} {x : Option AV} (h : evalM E ts o = some x) : OptR μ x (o.map a.eval) := by
  cases o with
  | none => simp only [evalM, Option.some.injEq] at h; subst h; exact ⟨by simp, by simp⟩
  | some y =>
    simp only [evalM, Option.bind_eq_some_iff] at h
    obtain ⟨v, h1, h2⟩ := h
    cases h2
    exact ⟨fun v' hv => by cases hv; exact ⟨_, rfl, evalO_VR hE T h1⟩, by simp⟩
def sbM (isSl : Bool) (cap : Nat) : Option Value → Sem Nat
  | some v => Instr.sliceBound v cap (if isSl then .slice3Acap else .slice3Alen)
  | none => pure cap
def sbH (isSl : Bool) (len m : Nat) : Option Value → Option Value → Sem Nat
  | some v, some _ => Instr.sliceBound v m .slice3B
  | some v, none => Instr.sliceBound v m (if isSl then .sliceAcap else .sliceAlen)
  | none, none => pure len
  | none, some _ => stuck "Slice: max without high"
def sbL (mx : Bool) (h : Nat) : Option Value → Sem Nat
  | some v => Instr.sliceBound v h (if mx then .slice3C else .sliceB)
  | none => pure 0
theorem sliceBounds_eq (isSl : Bool) (len cap : Nat) (lo hi mx : Option Value) : Instr.sliceBounds isSl len cap lo hi mx = (sbM isSl cap mx >>= fun m => sbH isSl len m hi mx >>= fun h => sbL mx.isSome h lo >>= fun l => pure (l, h, m)) := by
  cases lo <;> cases hi <;> cases mx <;> rfl
/-- the three bounds of a slice expression; the true capacity may be larger than what is known of it -/
theorem bounds_sound {lo hi mx : Option AV} {ulo uhi umx : Option Value} (hlo : OptR μ lo ulo) (hhi : OptR μ hi uhi) (hmx : OptR μ mx umx) {len cap cap' l h m : Nat} (hcap : cap ≤ cap')
    (e1 : aSlBound mx cap cap = some m) (e2 : aSlBound hi len m = some h) (e3 : aSlBound lo 0 h = some l) (hlen : len ≤ cap) (isSl : Bool) (hh : hi = none → mx = none) :
    ∃ m', (Instr.sliceBounds isSl len cap' ulo uhi umx).run P w = .ok (l, h, m') w ∧ m ≤ m' ∧ (mx.isSome = true → m' = m) ∧ (mx = none → m' = cap' ∧ m = cap) ∧ (l ≤ h) ∧ (h ≤ m) ∧ m' ≤ cap' := by
  have hm : ∃ m', (sbM isSl cap' umx).run P w = .ok m' w ∧ m ≤ m' ∧ (mx.isSome = true → m' = m) ∧ (mx = none → m' = cap' ∧ m = cap) ∧ m' ≤ cap' := by
    rcases bound_sound (P := P) (w := w) e1 hmx.1 hmx.2 (if isSl then .slice3Acap else .slice3Alen) cap' hcap with ⟨z, rfl, r, hle⟩ | ⟨rfl, rfl⟩
    · refine ⟨m, r, Nat.le_refl _, fun _ => rfl, fun hn => ?_, by omega⟩
      have := hmx.2 hn
      cases this
    · have hn : mx = none := by
        cases mx with
        | none => rfl
        | some v => obtain ⟨z, hz, _⟩ := hmx.1 v rfl; cases hz
      refine ⟨cap', rfl, hcap, ?_, fun _ => ⟨rfl, rfl⟩, Nat.le_refl _⟩
      intro hs
      rw [hn] at hs
      cases hs
  obtain ⟨m', r1, hmm, hs1, hs2, hs3⟩ := hm
  have hlm : len ≤ m ∨ hi.isSome = true := by
    cases hi with
    | some v => exact .inr rfl
    | none => exact .inl (by have := hs2 (hh rfl); omega)
  have hh2 : (sbH isSl len m' uhi umx).run P w = .ok h w ∧ h ≤ m := by
    cases hi with
    | none =>
      have hu := hhi.2 rfl
      have hx : umx = none := hmx.2 (hh rfl)
      subst hu; subst hx
      simp only [aSlBound, Option.some.injEq] at e2
      subst e2
      exact ⟨rfl, by rcases hlm with h | h; exact h; cases h⟩
    | some v =>
      obtain ⟨z, rfl, hz⟩ := hhi.1 v rfl
      cases umx with
      | none =>
        rcases bound_sound (P := P) (w := w) e2 hhi.1 hhi.2 (if isSl then .sliceAcap else .sliceAlen) m' hmm with ⟨z', h1, r, hle⟩ | ⟨h1, _⟩
        · cases h1; exact ⟨r, hle⟩
        · cases h1
      | some q =>
        rcases bound_sound (P := P) (w := w) e2 hhi.1 hhi.2 .slice3B m' hmm with ⟨z', h1, r, hle⟩ | ⟨h1, _⟩
        · cases h1; exact ⟨r, hle⟩
        · cases h1
  have hl2 : (sbL umx.isSome h ulo).run P w = .ok l w ∧ l ≤ h := by
    rcases bound_sound (P := P) (w := w) e3 hlo.1 hlo.2 (if umx.isSome then .slice3C else .sliceB) h (Nat.le_refl _) with ⟨z, rfl, r, hle⟩ | ⟨rfl, rfl⟩
    · exact ⟨r, hle⟩
    · exact ⟨rfl, Nat.zero_le _⟩
  refine ⟨m', ?_, hmm, hs1, hs2, hl2.2, hh2.2, hs3⟩
  obtain ⟨hh2, -⟩ := hh2
  obtain ⟨hl2, -⟩ := hl2
  rw [sliceBounds_eq]
  simp only [Sem.run_bind, r1, Result.andThen_ok, hh2, hl2, Sem.run_pure]

include hE in
theorem slice_sound {t : TypeId} {x v : AV} {lo hi mx : Option AV} (h : aSlice E t x lo hi mx = some v) {u : Value} (hu : VR μ x u) {ulo uhi umx : Option Value} (hlo : OptR μ lo ulo) (hhi : OptR μ hi uhi) (hmx : OptR μ mx umx)
    (hh : hi = none → mx = none) : ∃ y, (Instr.sliceAt t u ulo uhi umx).run P w = .ok y w ∧ VR μ v y := by
  simp only [aSlice, Option.bind_eq_some_iff] at h
  obtain ⟨a, ha, h⟩ := h
  have hund := (hE.ty _ _ ha).1
  split at h
  · rename_i s hd
    simp only [VR] at hu; subst hu
    split at h
    · simp only [Option.bind_eq_some_iff] at h
      obtain ⟨hb, e2, lb, e3, h⟩ := h
      cases h
      obtain ⟨m', r, _, _, _, _⟩ := bounds_sound (P := P) (w := w) hlo hhi hmx (cap := s.size) (cap' := s.size) (len := s.size) (Nat.le_refl _) rfl e2 e3 (Nat.le_refl _) false hh
      have hm0 := hmx.2 rfl
      subst hm0
      simp only [VR, exists_eq_right]
      simp only [Instr.sliceAt, Instr.slice, Sem.run_bind, run_underlying hund, hd, Result.andThen_ok, r]
      simp [r]
    · cases h
  · rename_i elem b g off len lo' ex es hd
    simp only [VR] at hu
    obtain ⟨c, sz, cap, off', hm, rfl, q1, q2, q3, q4, q5⟩ := hu
    simp only [Option.bind_eq_some_iff, beq_dec] at h
    obtain ⟨e, he, h⟩ := h
    by_cases hes : e.size = es
    · simp only [hes, decide_true, cond_true, Option.bind_eq_some_iff] at h
      obtain ⟨m, e1, hb, e2, lb, e3, h⟩ := h
      cases h
      obtain ⟨m', r, p1, p2, p3, p4, p5, p6⟩ := bounds_sound (P := P) (w := w) hlo hhi hmx (cap := lo') (cap' := cap) (len := len) q2 e1 e2 e3 q1 true hh
      refine ⟨.slice (if m' = lb then some ⟨c, off', none⟩ else some ⟨c, off' + lb * es, none⟩) (hb - lb) (m' - lb), ?_, ?_⟩
      · simp only [Instr.sliceAt, Instr.slice, Sem.run_bind, run_underlying hund, hd, Result.andThen_ok, r, run_szo hE w he, hes, Sem.run_pure, Option.map_some, Addr.add_lit]
      · simp only [VR]
        refine ⟨c, sz, m' - lb, if m' = lb then off' else off' + lb * es, hm, by split <;> rfl, by omega, by omega, ?_, ?_, by omega⟩
        · intro hx
          simp only [Bool.or_eq_true] at hx
          rcases hx with hx | hx
          · cases hmxx : mx with
            | none => obtain ⟨a1, a2⟩ := p3 hmxx; have := q3 hx; omega
            | some z => have := p2 (by simp [hmxx]); omega
          · have := p2 hx; omega
        · intro hc
          have hne : m' ≠ lb := by omega
          rw [if_neg hne]
          obtain ⟨b1, b2⟩ := q4 (by omega)
          refine ⟨by rw [b1], fun hx => ?_⟩
          simp only [Bool.or_eq_false_iff] at hx
          have b3 := b2 hx.1
          have : lb * es + (m' - lb) * es = m' * es := by rw [← Nat.add_mul]; congr 1; omega
          have : m' * es ≤ cap * es := Nat.mul_le_mul_right _ p6
          omega
    · simp [hes] at h
  · rename_i elem hd
    simp only [VR] at hu; subst hu
    simp only [Option.bind_eq_some_iff] at h
    obtain ⟨e, he, m, e1, hb, e2, lb, e3, h⟩ := h
    cases h
    obtain ⟨m', r, p1, p2, p3, p4, p5, p6⟩ := bounds_sound (P := P) (w := w) hlo hhi hmx (cap := 0) (cap' := 0) (len := 0) (Nat.le_refl _) e1 e2 e3 (Nat.le_refl _) true hh
    obtain rfl : m' = 0 := by omega
    obtain rfl : m = 0 := by omega
    obtain rfl : hb = 0 := by omega
    obtain rfl : lb = 0 := by omega
    simp only [VR, exists_eq_right]
    simp only [Instr.sliceAt, Instr.slice, Sem.run_bind, run_underlying hund, hd, Result.andThen_ok, r, run_szo hE w he, Sem.run_pure]
    rfl
  · rename_i n elem b g off hd
    simp only [VR] at hu
    obtain ⟨c, sz, hm, rfl⟩ := hu
    simp only [Option.bind_eq_some_iff, ble_dec] at h
    obtain ⟨e, he, h⟩ := h
    by_cases hn : n ≤ 9223372036854775807
    case neg => simp [hn] at h
    simp only [hn, decide_true, cond_true, Option.bind_eq_some_iff] at h
    obtain ⟨m, e1, hb, e2, lb, e3, h⟩ := h
    cases h
    obtain ⟨m', r, p1, p2, p3, p4, p5, p6⟩ := bounds_sound (P := P) (w := w) hlo hhi hmx (cap := n) (cap' := n) (len := n) (Nat.le_refl _) e1 e2 e3 (Nat.le_refl _) false hh
    have hmm : m' = m := by
      cases hmxx : mx with
      | none => obtain ⟨a1, a2⟩ := p3 hmxx; omega
      | some z => exact p2 (by simp [hmxx])
    subst hmm
    refine ⟨.slice (some (if m' = lb then ⟨c, off, none⟩ else ⟨c, off + lb * e.size, none⟩)) (hb - lb) (m' - lb), ?_, ?_⟩
    · simp only [Instr.sliceAt, Instr.sureAddr, Sem.run_bind, run_underlying hund, hd, Result.andThen_ok, r, run_szo hE w he, Sem.run_pure, Addr.add_lit]
    · simp only [VR]
      refine ⟨c, sz, m' - lb, if m' = lb then off else off + lb * e.size, hm, by split <;> rfl, by omega, by omega, fun _ => rfl, fun hc => ?_, ?_⟩
      · rw [if_neg (by omega)]
        exact ⟨rfl, fun hx => by cases hx⟩
      · simp only [maxLen]; omega
  · cases h

/-! ### Addresses, fields, elements -/
include hE in
theorem fieldAddr_sound {s : TypeId} {x v : AV} {f : Nat} (h : aFieldAddr E s x f = some v) {u : Value} (hu : VR μ x u) : ∃ y, (Instr.fieldAt s u f).run P w = .ok y w ∧ VR μ v y := by
  simp only [aFieldAddr, Option.bind_eq_some_iff] at h
  obtain ⟨a, ha, h⟩ := h
  have hund := (hE.ty _ _ ha).1
  split at h
  · rename_i fields b g off hd
    simp only [VR] at hu
    obtain ⟨c, sz, hm, rfl⟩ := hu
    simp only [Option.bind_eq_some_iff, beq_dec] at h
    obtain ⟨fd, hf, e, he, h⟩ := h
    by_cases hz : e.size = 0
    · simp [hz] at h
    · simp only [hz, decide_false, cond_false, Option.some.injEq] at h
      subst h
      refine ⟨.pointer (some ⟨c, off + fd.offset, none⟩), ?_, by simp only [VR]; exact ⟨c, sz, hm, rfl⟩⟩
      simp [Instr.fieldAt, run_underlying hund, hd, hf, Instr.sureAddr, fieldPlace, run_szo hE w he, hz, Addr.add_lit]
  · cases h
include hE in
theorem field_sound {s : TypeId} {x v : AV} {f : Nat} (h : aField E s x f = some v) {u : Value} (hu : VR μ x u) : ∃ y, (Instr.field s u f).run P w = .ok y w ∧ VR μ v y := by
  simp only [aField, Option.bind_eq_some_iff] at h
  obtain ⟨a, ha, h⟩ := h
  have hund := (hE.ty _ _ ha).1
  split at h
  · rename_i fields cs hd
    simp only [VR] at hu
    obtain ⟨xs, k, rfl⟩ := hu
    simp only [Option.bind_eq_some_iff] at h
    obtain ⟨fd, hf, h⟩ := h
    obtain ⟨y, h1, h2⟩ := part_sound hE (w := w) h k
    exact ⟨y, by simp [Instr.field, run_underlying hund, hd, hf, asAgg, h1], h2⟩
  · cases h
theorem and_dec {p q : Prop} [Decidable p] [Decidable q] : (decide p && decide q) = decide (p ∧ q) := by simp
include hE in
theorem indexAddr_sound {t : TypeId} {x i v : AV} (h : aIndexAddr E t x i = some v) {u j : Value} (hu : VR μ x u) (hj : VR μ i j) : ∃ y, (Instr.indexAt t u j).run P w = .ok y w ∧ VR μ v y := by
  unfold aIndexAddr at h
  split at h
  case h_3 => cases h
  case h_2 =>
    rename_i k z
    simp only [VR] at hj; subst hj
    simp only [Option.bind_eq_some_iff] at h
    obtain ⟨a, ha, h⟩ := h
    have hund := (hE.ty _ _ ha).1
    split at h
    · rename_i elem b g off len lo ex es hd
      simp only [VR] at hu
      obtain ⟨c, sz, cap, off', hm, rfl, q1, q2, q3, q4, q5⟩ := hu
      simp only [Option.bind_eq_some_iff] at h
      obtain ⟨e, he, h⟩ := h
      split at h
      · rename_i e1 e2 e3
        cases h
        have z1 : 0 ≤ z.ev Val.ρ := of_decide_eq_true (hE.le _ _ _ e1)
        have z2 : ¬ (len : Int) ≤ z.ev Val.ρ := of_decide_eq_false (hE.le _ _ _ e2)
        have e3 : e.size = es := by simpa using e3
        have hlen : z.ev Val.ρ < (len : Int) := by omega
        obtain ⟨rfl, _⟩ := q4 (by omega)
        refine ⟨.pointer (some ⟨c, off' + (z.ev Val.ρ).toNat * es, none⟩), ?_, by simp only [VR]; exact ⟨c, sz, hm, ⟨z1, hlen⟩, rfl⟩⟩
        simp [Instr.indexAt, asIntOf, run_underlying hund, hd, z1, hlen, e3, run_szo hE w he, Addr.add_lit]
      · cases h
    · cases h
  rename_i k n
  simp only [VR] at hj; subst hj
  simp only [Option.bind_eq_some_iff] at h
  obtain ⟨a, ha, h⟩ := h
  have hund := (hE.ty _ _ ha).1
  split at h
  · rename_i len elem b g off hd
    simp only [VR] at hu
    obtain ⟨c, sz, hm, rfl⟩ := hu
    simp only [Option.bind_eq_some_iff, and_dec] at h
    obtain ⟨e, he, h⟩ := h
    by_cases hb : 0 ≤ n ∧ n < (len : Int)
    · simp only [hb, and_self, decide_true, cond_true, Option.some.injEq] at h
      subst h
      refine ⟨.pointer (some ⟨c, off + n.toNat * e.size, none⟩), ?_, by simp only [VR]; exact ⟨c, sz, hm, rfl⟩⟩
      simp [Instr.indexAt, asIntOf, run_underlying hund, hd, Instr.sureAddr, hb, run_szo hE w he, Addr.add_lit]
    · simp [hb] at h
  · rename_i elem b g off len lo ex es hd
    simp only [VR] at hu
    obtain ⟨c, sz, cap, off', hm, rfl, q1, q2, q3, q4, q5⟩ := hu
    simp only [Option.bind_eq_some_iff, and_dec, beq_dec] at h
    obtain ⟨e, he, h⟩ := h
    by_cases hb : (0 ≤ n ∧ n < (len : Int)) ∧ e.size = es
    · simp only [hb, and_self, decide_true, cond_true, Option.some.injEq] at h
      subst h
      obtain ⟨rfl, _⟩ := q4 (by omega)
      refine ⟨.pointer (some ⟨c, off' + n.toNat * es, none⟩), ?_, by simp only [VR]; exact ⟨c, sz, hm, rfl⟩⟩
      simp [Instr.indexAt, asIntOf, run_underlying hund, hd, hb, run_szo hE w he, Addr.add_lit]
    · simp [hb] at h
  · cases h
include hE in
theorem index_sound {t : TypeId} {x i v : AV} (h : aIndex E t x i = some v) {u j : Value} (hu : VR μ x u) (hj : VR μ i j) : ∃ y, (Instr.index t u j).run P w = .ok y w ∧ VR μ v y := by
  unfold aIndex at h
  split at h
  case h_2 => cases h
  rename_i k n
  simp only [VR] at hj; subst hj
  simp only [Option.bind_eq_some_iff] at h
  obtain ⟨a, ha, h⟩ := h
  have hund := (hE.ty _ _ ha).1
  split at h
  · rename_i len elem cs hd
    simp only [VR] at hu
    obtain ⟨xs, k, rfl⟩ := hu
    simp only [Option.bind_eq_some_iff, and_dec] at h
    obtain ⟨e, he, h⟩ := h
    by_cases hb : 0 ≤ n ∧ n < (len : Int)
    · simp only [hb, and_self, decide_true, cond_true] at h
      obtain ⟨y, h1, h2⟩ := part_sound hE (w := w) h k
      refine ⟨y, ?_, h2⟩
      simp [Instr.index, asIntOf, run_underlying hund, hd, hb, run_szo hE w he, h1]
    · simp [hb] at h
  · rename_i s hd
    simp only [VR] at hu; subst hu
    split at h
    · rename_i h0
      simp only [Option.bind_eq_some_iff, Option.some.injEq] at h
      obtain ⟨c, h1, h2⟩ := h
      subst h2
      simp only [VR, exists_eq_right]
      simp [Instr.index, asIntOf, run_underlying hund, hd, h0, h1]
    · cases h
  · cases h
theorem extract_sound {x v : AV} {i : Nat} (h : aExtract x i = some v) {u : Value} (hu : VR μ x u) : ∃ y, (Instr.extract u i).run P w = .ok y w ∧ VR μ v y := by
  unfold aExtract at h
  split at h
  · simp only [VR] at hu
    obtain ⟨xs, k, rfl⟩ := hu
    obtain ⟨y, h1, h2⟩ := k.get h
    exact ⟨y, by simp [Instr.extract, h1], h2⟩
  · cases h
include hE in
theorem mkIface_sound {t : TypeId} {x v : AV} (h : aMkIface E t x = some v) {u : Value} (hu : VR μ x u) : ∃ y, (Instr.makeInterface t u).run P w = .ok y w ∧ VR μ v y := by
  simp only [aMkIface, Option.bind_eq_some_iff] at h
  obtain ⟨a, ha, h⟩ := h
  have hund := (hE.ty _ _ ha).1
  split at h
  · cases h
  · rename_i hn
    cases h
    refine ⟨.iface t u, ?_, by simp only [VR]; exact ⟨u, hu, rfl⟩⟩
    simp only [Instr.makeInterface, Sem.run_bind, run_underlying hund, Result.andThen_ok]
    cases hd : a.desc <;> first | rfl | exact (hn _ hd).elim

/-! ### Maps -/
theorem sameNow_sound {k k' : AV} {r : Bool} (h : aScalarEq k k' = some r) {u u' : Value} (hu : VR μ k u) (hu' : VR μ k' u') {d : TypeDesc} (hd : keyKind d k = true) : Instr.sameNow d u u' = some r := by
  cases k <;> cases k' <;> simp only [aScalarEq] at h <;> try (cases h; done)
  all_goals (simp only [VR] at hu hu'; subst hu; subst hu'; cases d <;> simp [keyKind] at hd)
  · cases h; rfl
  · split at h
    · rename_i hk; subst hk; cases h; simp [Instr.sameNow]
    · cases h
  · cases h
    simp only [Instr.sameNow]
theorem findNow_sound {k : AV} {u : Value} (hu : VR μ k u) {d : TypeDesc} (hd : keyKind d k = true) :
    ∀ {es : List (AV × AV × Nat)} {ms : List MapEntry} {i : Nat} {r : Option (Nat × AV × Nat)}, aFind k es i = some r → EntsR μ es ms →
      ∃ r', Instr.findNow d u ms i = some r' ∧ (r = none → r' = none) ∧ (∀ j v s, r = some (j, v, s) → ∃ y k0, r' = some (j, y) ∧ VR μ v y ∧ i ≤ j ∧ es[j - i]? = some (k0, v, s) ∧ aScalarEq k k0 = some true)
  | [], [], i, r, h, _ => by simp only [aFind, Option.some.injEq] at h; subst h; exact ⟨none, rfl, by simp, by simp⟩
  | [], _ :: _, _, _, _, he => by have := he.1; simp at this
  | _ :: _, [], _, _, _, he => by have := he.1; simp at this
  | (k', v, s) :: es, m :: ms, i, r, h, he => by
    obtain ⟨e1, e2, e3⟩ := he.2 0 (k', v, s) m (by simp) (by simp)
    simp only at e1 e2 e3
    simp only [aFind, Option.bind_eq_some_iff] at h
    obtain ⟨q, h1, h2⟩ := h
    have hs := sameNow_sound h1 hu e1 hd
    simp only [Instr.findNow, hs]
    cases q with
    | true =>
      simp only [cond_true, Option.some.injEq] at h2
      subst h2
      exact ⟨_, rfl, by simp, fun j v' s' hj => by cases hj; exact ⟨_, k', rfl, e2, Nat.le_refl _, by simp, h1⟩⟩
    | false =>
      simp only [cond_false] at h2
      obtain ⟨r', h3, h4, h5⟩ := findNow_sound hu hd h2 (ms := ms) ⟨by have := he.1; simpa using this, fun j e m' a b => he.2 (j + 1) e m' (by simpa using a) (by simpa using b)⟩
      refine ⟨r', h3, h4, fun j v' s' hj => ?_⟩
      obtain ⟨y, k0, a1, a2, a3, a4, a5⟩ := h5 j v' s' hj
      refine ⟨y, k0, a1, a2, by omega, ?_, a5⟩
      have : j - i = (j - (i + 1)) + 1 := by omega
      rw [this]
      simpa using a4
theorem checkKey_plain {t : TypeId} {d : TypeDesc} (hund : P.underlying t = some d) {k : AV} (hd : keyKind d k = true) {u : Value} (hu : VR μ k u) (em : Bool) (n : Nat) : (Instr.checkKey em (n + 1) t u).run P w = .ok () w := by
  simp only [Instr.checkKey, Sem.run_bind, run_underlying hund, Result.andThen_ok]
  cases d <;> cases k <;> simp [keyKind] at hd <;> (simp only [VR] at hu; subst hu; rfl)
include hE in
theorem key_sound {t : TypeId} {k : AV} (h : aKeyOK E t k = true) {u : Value} (hu : VR μ k u) : ∃ a, E.ty t = some a ∧ keyKind a.desc k = true ∧ ∀ em, (Instr.checkKey em 10000 t u).run P w = .ok () w := by
  unfold aKeyOK at h
  split at h
  · rename_i a ha
    exact ⟨a, ha, h, fun em => checkKey_plain (hE.ty _ _ ha).1 h hu em 9999⟩
  · cases h
include R in
theorem map_sound {b : Nat} {es : List (AV × AV × Nat)} {clock : Nat} (h : aMap A b = some (es, clock)) {g c sz : Nat} (hm : μ b g = some (c, sz)) : ∃ ms, w.heap[c]? = some (.map ms clock) ∧ EntsR μ es ms.toList := by
  unfold aMap at h
  split at h
  · rename_i es' clock' hg
    cases h
    obtain ⟨o, h1, _, ms, h2, h3⟩ := R.blk b _ hg g c sz hm
    subst h2
    exact ⟨ms, h1, h3⟩
  · cases h
theorem run_getObj_map {c : Nat} {ms : Array MapEntry} {clock : Nat} (h : w.heap[c]? = some (.map ms clock)) : (getObj c).run P w = .ok (.map ms clock) w := by simp [getObj, Sem.run, h]
def lookTail (kt et : TypeId) (j : Value) (ok : Bool) (es : Array MapEntry) : Sem Value := do
  Instr.checkKey es.isEmpty 10000 kt j
  let (v, ok') ← match ← Instr.findKey kt j es.toList with
    | some (_, v) => pure (v, true)
    | none => pure (← zeroValue et, false)
  pure (if ok then .tuple #[v, .bool ok'] else v)
theorem lookup_nil {t kt et : TypeId} {j : Value} {ok : Bool} (h : P.underlying t = some (.map kt et)) : (Instr.lookup t (.map none) j ok).run P w = (lookTail kt et j ok #[]).run P w := by
  simp only [Instr.lookup, lookTail, Sem.run_bind, run_underlying h, Result.andThen_ok]
  rfl
theorem lookup_some {t kt et : TypeId} {j : Value} {ok : Bool} (h : P.underlying t = some (.map kt et)) {c : Nat} {ms : Array MapEntry} {clock : Nat} (hc : w.heap[c]? = some (.map ms clock)) :
    (Instr.lookup t (.map (some c)) j ok).run P w = (lookTail kt et j ok ms).run P w := by
  simp only [Instr.lookup, lookTail, Sem.run_bind, run_underlying h, Result.andThen_ok, run_getObj_map hc]
  rfl
include hE in
theorem zeroV_sound {t : TypeId} {e : ATy} (he : E.ty t = some e) {v : AV} (hv : aZeroV e = some v) (μ : Mu) : ∃ zv, (zeroValue t).run P w = .ok zv w ∧ VR μ v zv := by
  simp only [aZeroV, Option.bind_eq_some_iff] at hv
  obtain ⟨z, hz, hv⟩ := hv
  obtain ⟨zv, z1, z2, z3⟩ := run_zero hE w he hz μ
  refine ⟨zv, z1, ?_⟩
  cases hag : e.isAgg with
  | true => simp [hag] at hv z3; subst hv; exact z3
  | false =>
    simp only [hag, cond_false] at hv z3
    cases z with
    | nil => simp at hv
    | cons a l => simp at hv z3; subst hv; exact z3
include hE in
theorem lookTail_sound {kt et : TypeId} {k v : AV} {ok : Bool} {es : List (AV × AV × Nat)} {r : Option (Nat × AV × Nat)} (hk : aKeyOK E kt k = true) (h2 : aFind k es 0 = some r)
    (h3 : lookRes E et ok r = some v)
    {j : Value} (hj : VR μ k j) {ms : Array MapEntry} (hent : EntsR μ es ms.toList) : ∃ y, (lookTail kt et j ok ms).run P w = .ok y w ∧ VR μ v y := by
  obtain ⟨ak, hak, hmd, hck⟩ := key_sound hE (w := w) hk hj
  obtain ⟨r', e1, e2, e3⟩ := findNow_sound hj hmd h2 hent
  have hfind : (Instr.findKey kt j ms.toList).run P w = .ok r' w := by
    simp only [Instr.findKey, Sem.run_bind, run_underlying (hE.ty _ _ hak).1, Result.andThen_ok, e1]
    rfl
  simp only [lookTail, Sem.run_bind, hck, Result.andThen_ok, hfind]
  cases r with
  | some p =>
    obtain ⟨i, v', s⟩ := p
    obtain ⟨y, k0, rfl, hy, _⟩ := e3 i v' s rfl
    simp only [lookRes, Option.some.injEq] at h3
    subst h3
    cases ok with
    | true => exact ⟨_, rfl, by simp only [cond_true, VR, VRs]; exact ⟨_, ⟨_, _, rfl, hy, _, _, rfl, rfl, rfl⟩, rfl⟩⟩
    | false => exact ⟨_, rfl, hy⟩
  | none =>
    rw [e2 rfl]
    simp only [lookRes, Option.bind_eq_some_iff] at h3
    obtain ⟨e, he, v', hv', h4⟩ := h3
    obtain ⟨zv, z1, hv⟩ := zeroV_sound hE (w := w) he hv' μ
    simp only [Sem.run_bind, z1, Result.andThen_ok, Sem.run_pure]
    simp only [Option.some.injEq] at h4
    subst h4
    cases ok with
    | true => exact ⟨_, rfl, by simp only [cond_true, VR, VRs]; exact ⟨_, ⟨_, _, rfl, hv, _, _, rfl, rfl, rfl⟩, rfl⟩⟩
    | false => exact ⟨_, rfl, hv⟩
include hE R in
theorem lookup_sound {t : TypeId} {x k v : AV} {ok : Bool} (h : aLookup E A t x k ok = some v) {u j : Value} (hu : VR μ x u) (hj : VR μ k j) : ∃ y, (Instr.lookup t u j ok).run P w = .ok y w ∧ VR μ v y := by
  simp only [aLookup, Option.bind_eq_some_iff] at h
  obtain ⟨a, ha, h⟩ := h
  have hund := (hE.ty _ _ ha).1
  split at h
  case h_2 => cases h
  rename_i kt et hd
  rw [hd] at hund
  cases hk : aKeyOK E kt k with
  | false => simp [hk] at h
  | true =>
    simp only [hk, cond_true, Option.bind_eq_some_iff] at h
    obtain ⟨es, h1, r, h2, h3⟩ := h
    cases x <;> simp only [aEnts] at h1 <;> try (cases h1; done)
    case nilMap =>
      simp only [VR] at hu; subst hu; cases h1
      rw [lookup_nil hund]
      exact lookTail_sound hE hk h2 h3 hj (by simp [EntsR])
    case map b =>
      simp only [VR] at hu
      obtain ⟨c, sz, hm, rfl⟩ := hu
      simp only [Option.bind_eq_some_iff] at h1
      obtain ⟨⟨es', clock⟩, e1, e2⟩ := h1
      cases e2
      obtain ⟨ms, e3, e4⟩ := map_sound R e1 hm
      rw [lookup_some hund e3]
      exact lookTail_sound hE hk h2 h3 hj e4

/-! ### Builtins -/
include hE R in
theorem len_sound {t : TypeId} {x v : AV} (h : aLen E A t x = some v) {u : Value} (hu : VR μ x u) (ts : List TypeId) (us : List Value) (ty : TypeId) :
    ∃ y, (Builtin.len_ (t :: ts).toArray ty (u :: us).toArray).run P w = .ok y w ∧ VR μ v y := by
  simp only [aLen, Option.bind_eq_some_iff] at h
  obtain ⟨a, ha, h⟩ := h
  have hund := (hE.ty _ _ ha).1
  split at h
  · rename_i hd; rw [hd] at hund; simp only [VR] at hu; subst hu; cases h; simp only [VR, exists_eq_right]; simp [Builtin.len_, run_underlying hund, goInt]
  · rename_i hd; rw [hd] at hund; cases h; simp only [VR, exists_eq_right]
    simp only [Builtin.len_, List.getElem?_toArray, List.getElem?_cons_zero, Sem.run_bind, run_underlying hund, Result.andThen_ok]
    cases u <;> rfl
  · rename_i hd; rw [hd] at hund
    simp only [Option.bind_eq_some_iff] at h
    obtain ⟨e, he, h⟩ := h
    have hund2 := (hE.ty _ _ he).1
    split at h
    · rename_i hd2; rw [hd2] at hund2; cases h; simp only [VR, exists_eq_right]
      simp only [Builtin.len_, List.getElem?_toArray, List.getElem?_cons_zero, Sem.run_bind, run_underlying hund, Result.andThen_ok]
      cases u <;> simp only [run_underlying hund2, Sem.run_bind, Result.andThen_ok, Sem.run_pure, goInt]
    · cases h
  · rename_i hd; rw [hd] at hund; simp only [VR] at hu; obtain ⟨_, _, _, _, _, rfl, _⟩ := hu; cases h; simp only [VR, exists_eq_right]; simp [Builtin.len_, run_underlying hund, goInt]
  · rename_i hd; rw [hd] at hund; simp only [VR] at hu; subst hu; cases h; simp only [VR, exists_eq_right]; simp [Builtin.len_, run_underlying hund, goInt]
  · rename_i hd; rw [hd] at hund; simp only [VR] at hu; obtain ⟨hu, _⟩ := hu
    simp only [Option.bind_eq_some_iff, Option.some.injEq] at h
    obtain ⟨⟨b, len⟩, h1, rfl⟩ := h
    obtain ⟨_, c, cap, _, h3, _⟩ := hE.opq _ _ _ h1
    rw [h3] at hu; subst hu
    simp only [VR, exists_eq_right]; simp [Builtin.len_, run_underlying hund, goInt]
  · rename_i hd; rw [hd] at hund; simp only [VR] at hu; subst hu; cases h; simp only [VR, exists_eq_right]; simp [Builtin.len_, run_underlying hund, goInt]
  · rename_i hd; rw [hd] at hund; simp only [VR] at hu
    obtain ⟨c, sz, hm, rfl⟩ := hu
    simp only [Option.bind_eq_some_iff] at h
    obtain ⟨⟨es, clock⟩, e1, e2⟩ := h
    obtain ⟨ms, e3, e4⟩ := map_sound R e1 hm
    cases e2
    simp only [VR, exists_eq_right]
    have := e4.1
    simp at this
    simp [Builtin.len_, run_underlying hund, run_getObj_map e3, goInt, this]
  · cases h
include hE in
theorem cap_sound {t : TypeId} {x v : AV} (h : aCap E t x = some v) {u : Value} (hu : VR μ x u) (ts : List TypeId) (us : List Value) (ty : TypeId) :
    ∃ y, (Builtin.cap_ (t :: ts).toArray ty (u :: us).toArray).run P w = .ok y w ∧ VR μ v y := by
  simp only [aCap, Option.bind_eq_some_iff] at h
  obtain ⟨a, ha, h⟩ := h
  have hund := (hE.ty _ _ ha).1
  split at h
  · rename_i hd; rw [hd] at hund; simp only [VR] at hu; obtain ⟨_, _, cap, _, _, rfl, _, _, hx, _⟩ := hu; cases h; simp only [VR, exists_eq_right]; simp [Builtin.cap_, run_underlying hund, goInt]; have := hx trivial; omega
  · rename_i hd; rw [hd] at hund; simp only [VR] at hu; subst hu; cases h; simp only [VR, exists_eq_right]; simp [Builtin.cap_, run_underlying hund, goInt]
  · rename_i hd; rw [hd] at hund; cases h; simp only [VR, exists_eq_right]
    simp only [Builtin.cap_, List.getElem?_toArray, List.getElem?_cons_zero, Sem.run_bind, run_underlying hund, Result.andThen_ok]
    cases u <;> rfl
  · cases h
include hE in
theorem minmax_sound (mx : Bool) : ∀ {xs : List AV} {x v : AV}, aMinMax E mx x xs = some v → ∀ {u : Value} {us : List Value}, VR μ x u → VRs μ xs us → ∃ y, (us.foldlM (if mx then Builtin.max2 else Builtin.min2) u).run P w = .ok y w ∧ VR μ v y
  | [], x, v, h, u, us, hu, hus => by
    simp only [VRs] at hus; subst hus
    cases x <;> simp only [aMinMax] at h <;> try (cases h; done)
    · cases h; exact ⟨u, rfl, hu⟩
    · cases h; exact ⟨u, rfl, hu⟩
  | z :: xs, x, v, h, u, us, hu, hus => by
    simp only [VRs] at hus
    obtain ⟨u', us', rfl, h1, h2⟩ := hus
    have gen : ∀ {k k' : IntKind} {a b : Sy}, toSy x = some (k, a) → toSy z = some (k', b) → k = k' → (bif mx then E.le b a else E.le a b).bind (fun c => aMinMax E mx (bif c then x else z) xs) = some v →
        ∃ y, ((u' :: us').foldlM (if mx then Builtin.max2 else Builtin.min2) u).run P w = .ok y w ∧ VR μ v y := by
      intro k k' a b e1 e2 hk hh
      subst hk
      have q1 := toSy_VR hu e1
      have q2 := toSy_VR h1 e2
      simp only [Option.bind_eq_some_iff] at hh
      obtain ⟨c, hc, hh⟩ := hh
      obtain ⟨y, e3, e4⟩ := minmax_sound mx hh (u := bif c then u else u') (by cases c; exact h1; exact hu) h2
      refine ⟨y, ?_, e4⟩
      rw [List.foldlM_cons]
      simp only [Sem.run_bind]
      subst q1; subst q2
      cases mx
      · simp only [cond_false] at hc
        have := hE.le _ _ _ hc
        cases c
        · simp at this
          simpa [Builtin.min2, this] using e3
        · simp at this
          have h3 : ¬ (b.ev Val.ρ < a.ev Val.ρ) := by omega
          simpa [Builtin.min2, h3] using e3
      · simp only [cond_true] at hc
        have := hE.le _ _ _ hc
        cases c
        · simp at this
          simpa [Builtin.max2, this] using e3
        · simp at this
          have h3 : ¬ (b.ev Val.ρ > a.ev Val.ρ) := by omega
          simpa [Builtin.max2, h3] using e3
    unfold aMinMax at h
    split at h
    · rename_i hx; cases hx
    · rename_i hx; cases hx
    · rename_i k a k' b r hx
      cases hx
      split at h
      · rename_i hk
        subst hk
        simp only [VR] at hu h1; subst hu; subst h1
        obtain ⟨y, e1, e2⟩ := minmax_sound mx h (u := .int k (if mx then (if b > a then b else a) else (if b < a then b else a))) (by simp only [VR]) h2
        refine ⟨y, ?_, e2⟩
        rw [List.foldlM_cons]
        simp only [Sem.run_bind]
        cases mx
        · simpa [Builtin.min2] using e1
        · simpa [Builtin.max2] using e1
      · cases h
    · rename_i hx
      cases hx
      simp only [Option.bind_eq_some_iff] at h
      obtain ⟨⟨k, a⟩, e1, ⟨k', b⟩, e2, h⟩ := h
      split at h
      · rename_i hk
        exact gen e1 e2 hk h
      · cases h
    · cases h

/-- EVERY OPERATION THAT ONLY READS. -/
theorem pass_kind {op : Op} (h : opKind op = .pass) : ∀ cs b, op ≠ .select cs b := by intro cs b e; subst e; cases h
include hE R in
theorem pass_sound {o : Oper} {ts : Ts} {v : AV} (h : aPass E ts A o.op = some v) {a : Act} (T : TR μ ts a.tmps) (hk : opKind o.op = .pass) :
    ∃ u, (execOp a.eval o).run P w = .ok (.value u) w ∧ VR μ v u := by
  obtain ⟨dst, op, type, pos, after, guard⟩ := o
  simp only at h hk
  cases op <;> try (cases hk; done)
  case move x => exact ⟨_, rfl, evalO_VR hE T h⟩
  case assign x => exact ⟨_, rfl, evalO_VR hE T h⟩
  case pick c x y =>
    simp only [aPass_eq, aPassE, Option.bind_eq_some_iff] at h
    obtain ⟨cv, h1, xv, h2, yv, h3, h4⟩ := h
    have r1 := evalO_VR hE T h1
    unfold aPick at h4
    split at h4
    · simp only [VR] at r1
      cases h4
      rename_i b
      refine ⟨if b then a.eval x else a.eval y, by simp [execOp, r1, asBool], ?_⟩
      cases b
      · exact evalO_VR hE T h3
      · exact evalO_VR hE T h2
    · cases h4
  case build t ps =>
    simp only [aPass_eq, aPassE, Option.bind_eq_some_iff] at h
    obtain ⟨vs, h1, h2⟩ := h
    obtain ⟨l, k⟩ := evalPs_VR T hE h1
    obtain ⟨u, e1, e2⟩ := build_sound hE (w := w) h2 l k
    refine ⟨u, ?_, e2⟩
    have : (Array.map (fun (x : Nat × Operand) => match x with | (i, x) => (i, a.eval x)) ps) = (List.map (fun p => (p.1, a.eval p.2)) ps.toList).toArray := by
      apply Array.ext'
      simp
    simp only [execOp, Sem.run_bind]
    rw [this, e1]
    rfl
  case load t x =>
    simp only [aPass_eq, aPassE, Option.bind_eq_some_iff] at h
    obtain ⟨p, h1, h2⟩ := h
    obtain ⟨u, e1, e2⟩ := load_sound hE R h2 (evalO_VR hE T h1)
    exact ⟨u, by simp [execOp, e1], e2⟩
  case nilCheck x =>
    simp only [aPass_eq, aPassE, Option.bind_eq_some_iff] at h
    obtain ⟨p, h1, h2⟩ := h
    have r1 := evalO_VR hE T h1
    unfold aNilCheck at h2
    split at h2
    · cases h2
      simp only [VR] at r1
      obtain ⟨c, sz, hm, e⟩ := r1
      exact ⟨_, by simp only [execOp, e]; rfl, by simp only [VR]; exact ⟨c, sz, hm, rfl⟩⟩
    · cases h2
      have r2 := r1
      simp only [VR] at r1
      obtain ⟨fs, cs, _, _, e⟩ := r1
      rw [e] at r2
      exact ⟨_, by simp only [execOp, e]; rfl, r2⟩
    · cases h2
      simp only [VR] at r1
      obtain ⟨c, sz, hm, e⟩ := r1
      exact ⟨_, by simp only [execOp, e]; rfl, by simp only [VR]; exact ⟨c, sz, hm, rfl⟩⟩
    · cases h2
  case binOp op t x y yt =>
    simp only [aPass_eq, aPassE, Option.bind_eq_some_iff] at h
    obtain ⟨xv, h1, yv, h2, h3⟩ := h
    obtain ⟨u, e1, e2, e3⟩ := bin_sound hE R h3 (evalO_VR hE T h1) (evalO_VR hE T h2) x y
    exact ⟨u, by simp [execOp, e1, e2], e3⟩
  case unOp op t x =>
    simp only [aPass_eq, aPassE, Option.bind_eq_some_iff] at h
    obtain ⟨p, h1, h2⟩ := h
    obtain ⟨u, e1, e2⟩ := un_sound (P := P) (w := w) h2 (evalO_VR hE T h1)
    exact ⟨u, by simp [execOp, e1], e2⟩
  case convert s d x =>
    simp only [aPass_eq, aPassE, Option.bind_eq_some_iff] at h
    obtain ⟨p, h1, h2⟩ := h
    obtain ⟨u, e1, e2⟩ := convert_sound hE (w := w) h2 (evalO_VR hE T h1)
    exact ⟨u, by simp [execOp, e1], e2⟩
  case makeInterface t x =>
    simp only [aPass_eq, aPassE, Option.bind_eq_some_iff] at h
    obtain ⟨p, h1, h2⟩ := h
    obtain ⟨u, e1, e2⟩ := mkIface_sound hE (w := w) h2 (evalO_VR hE T h1)
    exact ⟨u, by simp [execOp, e1], e2⟩
  case makeFunc fn first captured =>
    cases fn <;> simp only [aPass_eq, aPassE] at h <;> try (cases h; done)
    simp only [Option.bind_eq_some_iff, Option.some.injEq] at h
    obtain ⟨p, h1, q, h2, h3⟩ := h
    subst h3
    have r1 := evalOs_VRs hE T h1
    have r2 := evalOs_VRs hE T h2
    refine ⟨_, rfl, ?_⟩
    simp only [VR]
    exact ⟨_, _, r1, r2, by congr 1 <;> (apply Array.ext'; simp)⟩
  case slice t x lo hi mx =>
    have hmx : ¬ (hi = none ∧ ∃ m, mx = some m) := fun ⟨h1, m, h2⟩ => by subst h1; subst h2; simp [aPass_eq, aPassE] at h
    have hmx' : (hi.isNone && mx.isSome) = false := by
      cases hi <;> cases mx <;> first | rfl | exact absurd ⟨rfl, _, rfl⟩ hmx
    simp only [aPass_eq, aPassE, hmx', cond_false, Option.bind_eq_some_iff] at h
    obtain ⟨xv, h1, lov, h2, hiv, h3, mxv, h4, h5⟩ := h
    obtain ⟨u, e1, e2⟩ := slice_sound hE (w := w) h5 (evalO_VR hE T h1) (OptR.of hE T h2) (OptR.of hE T h3) (OptR.of hE T h4) (fun hn => by
      cases hi with
      | some y => simp only [evalM, Option.bind_eq_some_iff] at h3; obtain ⟨_, _, h6⟩ := h3; rw [hn] at h6; cases h6
      | none =>
        cases mx with
        | none => simp only [evalM, Option.some.injEq] at h4; exact h4.symm
        | some m => exact absurd ⟨rfl, m, rfl⟩ hmx)
    exact ⟨u, by simp [execOp, e1], e2⟩
  case fieldAddr s x f =>
    simp only [aPass_eq, aPassE, Option.bind_eq_some_iff] at h
    obtain ⟨p, h1, h2⟩ := h
    obtain ⟨u, e1, e2⟩ := fieldAddr_sound hE (w := w) h2 (evalO_VR hE T h1)
    exact ⟨u, by simp [execOp, e1], e2⟩
  case field s x f =>
    simp only [aPass_eq, aPassE, Option.bind_eq_some_iff] at h
    obtain ⟨p, h1, h2⟩ := h
    obtain ⟨u, e1, e2⟩ := field_sound hE (w := w) h2 (evalO_VR hE T h1)
    exact ⟨u, by simp [execOp, e1], e2⟩
  case indexAddr t x i =>
    simp only [aPass_eq, aPassE, Option.bind_eq_some_iff] at h
    obtain ⟨p, h1, q, h2, h3⟩ := h
    obtain ⟨u, e1, e2⟩ := indexAddr_sound hE (w := w) h3 (evalO_VR hE T h1) (evalO_VR hE T h2)
    exact ⟨u, by simp [execOp, e1], e2⟩
  case index t x i =>
    simp only [aPass_eq, aPassE, Option.bind_eq_some_iff] at h
    obtain ⟨p, h1, q, h2, h3⟩ := h
    obtain ⟨u, e1, e2⟩ := index_sound hE (w := w) h3 (evalO_VR hE T h1) (evalO_VR hE T h2)
    exact ⟨u, by simp [execOp, e1], e2⟩
  case lookup t x i ok =>
    simp only [aPass_eq, aPassE, Option.bind_eq_some_iff] at h
    obtain ⟨p, h1, q, h2, h3⟩ := h
    obtain ⟨u, e1, e2⟩ := lookup_sound hE R h3 (evalO_VR hE T h1) (evalO_VR hE T h2)
    exact ⟨u, by simp [execOp, e1], e2⟩
  case extract x i =>
    simp only [aPass_eq, aPassE, Option.bind_eq_some_iff] at h
    obtain ⟨p, h1, h2⟩ := h
    obtain ⟨u, e1, e2⟩ := extract_sound (P := P) (w := w) h2 (evalO_VR hE T h1)
    exact ⟨u, by simp [execOp, e1], e2⟩
  case call c =>
    obtain ⟨callee, args, argTypes⟩ := c
    cases callee <;> try (cases hk; done)
    rename_i b
    simp only [aPass_eq, aPassE, Option.bind_eq_some_iff] at h
    obtain ⟨vs, h1, h2⟩ := h
    have r := evalOs_VRs hE T h1
    have ea : args.map a.eval = (args.toList.map a.eval).toArray := by apply Array.ext'; simp
    have et : argTypes = argTypes.toList.toArray := by simp
    generalize args.toList.map a.eval = us at r ea
    generalize argTypes.toList = tl at h2 et
    subst et
    cases b <;> try (cases hk; done)
    case len =>
      cases tl <;> cases vs <;> simp only [aPassBuiltin] at h2 <;> try (cases h2; done)
      rename_i t tl x vs
      simp only [VRs] at r
      obtain ⟨u, us', rfl, r1, r2⟩ := r
      obtain ⟨y, e1, e2⟩ := len_sound hE R h2 r1 tl us' type
      exact ⟨y, by simp only [execOp, resolve, ea, Sem.run_bind, Sem.run_pure, Result.andThen_ok, invoke, builtin, e1], e2⟩
    case cap =>
      cases tl <;> cases vs <;> simp only [aPassBuiltin] at h2 <;> try (cases h2; done)
      rename_i t tl x vs
      simp only [VRs] at r
      obtain ⟨u, us', rfl, r1, r2⟩ := r
      obtain ⟨y, e1, e2⟩ := cap_sound hE (w := w) h2 r1 tl us' type
      exact ⟨y, by simp only [execOp, resolve, ea, Sem.run_bind, Sem.run_pure, Result.andThen_ok, invoke, builtin, e1], e2⟩
    case max =>
      cases vs <;> simp only [aPassBuiltin] at h2 <;> try (cases h2; done)
      rename_i x vs
      simp only [VRs] at r
      obtain ⟨u, us', rfl, r1, r2⟩ := r
      obtain ⟨y, e1, e2⟩ := minmax_sound (P := P) (w := w) hE true h2 r1 r2
      exact ⟨y, by simp only [execOp, resolve, ea, Sem.run_bind, Sem.run_pure, Result.andThen_ok, invoke, builtin, Builtin.max_, if_true] at e1 ⊢; simp only [e1, Result.andThen_ok, Sem.run_pure], e2⟩
    case min =>
      cases vs <;> simp only [aPassBuiltin] at h2 <;> try (cases h2; done)
      rename_i x vs
      simp only [VRs] at r
      obtain ⟨u, us', rfl, r1, r2⟩ := r
      obtain ⟨y, e1, e2⟩ := minmax_sound (P := P) (w := w) hE false h2 r1 r2
      exact ⟨y, by simp only [execOp, resolve, ea, Sem.run_bind, Sem.run_pure, Result.andThen_ok, invoke, builtin, Builtin.min_, if_false, Bool.false_eq_true] at e1 ⊢; simp only [e1, Result.andThen_ok, Sem.run_pure], e2⟩
end
end Go.AE
end
section
/- The abstract evaluator, part 5: how a step extends memory; operations that make a block, and those that write. -/
set_option linter.unusedVariables false
set_option linter.unusedSectionVars false
set_option linter.unusedSimpArgs false
namespace Go.AE
variable [Val]

theorem Ext.refl (A : AHeap) (μ : Mu) (w : World) : Ext A A μ μ w w :=
  ⟨MuLe.refl _, fun _ _ _ => rfl, fun b g h k => by omega, Nat.le_refl _, rfl, rfl, rfl, Nat.le_refl _, fun b g c sz h => .inl ⟨g, h⟩, fun _ _ h => h, fun _ _ _ => rfl⟩
theorem Ext.drew (A : AHeap) (μ : Mu) (w : World) : Ext A A μ μ w { w with drawn := w.drawn + 1 } :=
  ⟨MuLe.refl _, fun _ _ _ => rfl, fun b g h k => by omega, Nat.le_refl _, rfl, rfl, rfl, Nat.le_refl _, fun b g c sz h => .inl ⟨g, h⟩, fun _ _ h => h, fun _ _ _ => rfl⟩
theorem Ext.trans {A A1 A2 : AHeap} {μ μ1 μ2 : Mu} {w w1 w2 : World} (h : Ext A A1 μ μ1 w w1) (k : Ext A1 A2 μ1 μ2 w1 w2) : Ext A A2 μ μ2 w w2 where
  mono := h.mono.trans k.mono
  above b g hb := by rw [k.above b g hb, h.above b g (Nat.le_trans k.n hb)]
  fresh b g h1 h2 := by
    by_cases hb : b < A1.n
    · exact h.fresh b g h1 hb
    · rw [← h.above b g (by omega)]; exact k.fresh b g (by omega) h2
  n := Nat.le_trans h.n k.n
  os := k.os.trans h.os
  tape := k.tape.trans h.tape
  output := k.output.trans h.output
  size := Nat.le_trans h.size k.size
  range b g c sz hm := by
    rcases k.range b g c sz hm with ⟨g', h1⟩ | h1
    · exact h.range b g' c sz h1
    · exact .inr (Nat.le_trans h.size h1)
  wr b hb h0 := k.wr b (Nat.lt_of_lt_of_le hb h.n) (h.wr b hb h0)
  frame c hc hf := by
    rw [k.frame c (Nat.lt_of_lt_of_le hc h.size) fun b g sz hm hb => ?_, h.frame c hc hf]
    rcases h.range b g c sz hm with ⟨g', h1⟩ | h1
    · by_cases hbn : b < A.n
      · exact h.wr b hbn (hf b g' sz h1 hbn)
      · have := h.fresh b g' (by omega) hb
        rw [h1] at this; cases this
    · omega

def upd (μ : Mu) (b g : Nat) (x : Nat × Nat) : Mu := fun b' g' => if b' = b ∧ g' = g then some x else μ b' g'
theorem upd_same (μ : Mu) (b g : Nat) (x : Nat × Nat) : upd μ b g x b g = some x := by simp [upd]
theorem upd_other (μ : Mu) {b g b' g' : Nat} (x : Nat × Nat) (h : ¬ (b' = b ∧ g' = g)) : upd μ b g x b' g' = μ b' g' := by simp [upd, h]
theorem MuLe.upd {μ : Mu} {b g : Nat} {x : Nat × Nat} (h : μ b g = none) : MuLe μ (upd μ b g x) := by
  intro b' g' y hy
  by_cases e : b' = b ∧ g' = g
  · obtain ⟨rfl, rfl⟩ := e; rw [h] at hy; cases hy
  · rw [upd_other _ _ e]; exact hy

def objSize : Obj → Nat
  | .cells c _ _ => c.size
  | _ => 0
/-- a new block of the world stands for a new abstract block -/
theorem Rel.push {A : AHeap} {μ : Mu} {w : World} (R : Rel A μ w) {B : ABlk} {o : Obj} (hn : ∀ g, μ A.n g = none) (hB : BlkR μ B 0 (objSize o) o) :
    Rel (A.push B) (upd μ A.n 0 (w.heap.size, objSize o)) (w.alloc o) := by
  have hle : MuLe μ (Go.AE.upd μ A.n 0 (w.heap.size, objSize o)) := MuLe.upd (hn 0)
  refine ⟨fun b g c sz h => ?_, fun b g c sz b' g' sz' h h' => ?_, fun b B' hb g c sz h => ?_⟩
  · by_cases e : b = A.n ∧ g = 0
    · obtain ⟨rfl, rfl⟩ := e; rw [upd_same] at h; cases h; simp
    · rw [upd_other _ _ e] at h; have := R.bound b g c sz h; simp; omega
  · by_cases e : b = A.n ∧ g = 0 <;> by_cases e' : b' = A.n ∧ g' = 0
    · exact e.1.trans e'.1.symm
    · obtain ⟨rfl, rfl⟩ := e; rw [upd_same] at h; cases h; rw [upd_other _ _ e'] at h'; have := R.bound _ _ _ _ h'; omega
    · obtain ⟨rfl, rfl⟩ := e'; rw [upd_same] at h'; cases h'; rw [upd_other _ _ e] at h; have := R.bound _ _ _ _ h; omega
    · rw [upd_other _ _ e] at h; rw [upd_other _ _ e'] at h'; exact R.inj _ _ _ _ _ _ _ h h'
  · rw [AHeap.get_push] at hb
    by_cases e : b = A.n
    · subst e
      simp only [if_true, Option.some.injEq] at hb
      subst hb
      by_cases eg : g = 0
      · subst eg
        rw [upd_same] at h
        cases h
        exact ⟨o, heap_alloc_new w o, hB.mono hle⟩
      · rw [upd_other _ _ (fun h => eg h.2), hn] at h; cases h
    · rw [if_neg e] at hb
      rw [upd_other _ _ (fun h => e h.1)] at h
      obtain ⟨o', h1, h2⟩ := R.blk b B' hb g c sz h
      exact ⟨o', by rw [heap_alloc_old w o c (R.bound _ _ _ _ h)]; exact h1, h2.mono hle⟩
theorem Ext.push {A : AHeap} {μ : Mu} {w : World} {B : ABlk} {o : Obj} (hn : ∀ g, μ A.n g = none) :
    Ext A (A.push B) μ (upd μ A.n 0 (w.heap.size, objSize o)) w (w.alloc o) where
  mono := MuLe.upd (hn 0)
  above b g hb := upd_other _ _ (fun h => by simp at hb; omega)
  fresh b g h1 h2 := by
    obtain rfl : b = A.n := by simp at h2; omega
    exact hn g
  n := by simp
  os := rfl
  tape := rfl
  output := rfl
  size := by simp
  range b g c sz hm := by
    by_cases e : b = A.n ∧ g = 0
    · obtain ⟨rfl, rfl⟩ := e; rw [upd_same] at hm; cases hm; exact .inr (Nat.le_refl _)
    · rw [upd_other _ _ e] at hm; exact .inl ⟨g, hm⟩
  wr b hb h0 := by unfold aWr at h0 ⊢; rw [AHeap.get_push, if_neg (by omega)]; exact h0
  frame c hc _ := heap_alloc_old w o c hc
/-- a block is changed -/
theorem Rel.change {A : AHeap} {μ μ' : Mu} {w w' : World} (R : Rel A μ w) {b : Nat} {B' : ABlk} (hb : b < A.n)
    (hle : MuLe μ μ') (hμ : ∀ b' g, b' ≠ b → μ' b' g = μ b' g) (hsize : w.heap.size ≤ w'.heap.size)
    (hother : ∀ b' g c sz, b' ≠ b → μ b' g = some (c, sz) → w'.heap[c]? = w.heap[c]?)
    (hnew : ∀ g c sz, μ' b g = some (c, sz) → c < w'.heap.size ∧ (∀ b' g' sz', b' ≠ b → μ b' g' ≠ some (c, sz')) ∧ ∃ o, w'.heap[c]? = some o ∧ BlkR μ' B' g sz o) : Rel (A.set b B') μ' w' := by
  refine ⟨fun b1 g c sz h => ?_, fun b1 g c sz b2 g' sz' h h' => ?_, fun b1 B hB g c sz h => ?_⟩
  · by_cases e : b1 = b
    · subst e; exact (hnew g c sz h).1
    · rw [hμ _ _ e] at h; exact Nat.lt_of_lt_of_le (R.bound _ _ _ _ h) hsize
  · by_cases e : b1 = b <;> by_cases e' : b2 = b
    · rw [e, e']
    · subst e; rw [hμ _ _ e'] at h'; exact absurd h' ((hnew g c sz h).2.1 _ _ _ e')
    · subst e'; rw [hμ _ _ e] at h; exact absurd h ((hnew g' c sz' h').2.1 _ _ _ e)
    · rw [hμ _ _ e] at h; rw [hμ _ _ e'] at h'; exact R.inj _ _ _ _ _ _ _ h h'
  · rw [AHeap.get_set _ _ _ _ hb] at hB
    by_cases e : b1 = b
    · subst e
      simp only [if_true, Option.some.injEq] at hB
      subst hB
      exact (hnew g c sz h).2.2
    · rw [if_neg e] at hB
      rw [hμ _ _ e] at h
      obtain ⟨o, h1, h2⟩ := R.blk _ _ hB g c sz h
      exact ⟨o, by rw [hother _ _ _ _ e h]; exact h1, h2.mono hle⟩
theorem Ext.change {A : AHeap} {μ μ' : Mu} {w w' : World} {b : Nat} {B' : ABlk} (hb : b < A.n) (hle : MuLe μ μ') (hμ : ∀ b' g, b' ≠ b → μ' b' g = μ b' g) (hsize : w.heap.size ≤ w'.heap.size)
    (h1 : w'.os = w.os) (h2 : w'.tape = w.tape) (h3 : w'.output = w.output) (hwr : aWr A b = false → aWr (A.set b B') b = false)
    (hrange : ∀ g c sz, μ' b g = some (c, sz) → (∃ g', μ b g' = some (c, sz)) ∨ w.heap.size ≤ c)
    (hframe : ∀ c, c < w.heap.size → (∀ b g sz, μ b g = some (c, sz) → b < A.n → aWr A b = false) → w'.heap[c]? = w.heap[c]?) : Ext A (A.set b B') μ μ' w w' where
  mono := hle
  above b' g hb' := hμ b' g (by simp at hb'; omega)
  fresh b' g h1 h2 := by simp at h2; omega
  n := by simp
  os := h1
  tape := h2
  output := h3
  size := hsize
  range b' g c sz hm := by
    by_cases e : b' = b
    · subst e; exact hrange g c sz hm
    · rw [hμ _ _ e] at hm; exact .inl ⟨g, hm⟩
  wr b' hb' h0 := by
    by_cases e : b' = b
    · subst e; exact hwr h0
    · unfold aWr at h0 ⊢; rw [AHeap.get_set _ _ _ _ hb, if_neg e]; exact h0
  frame := hframe

section
variable {P : Program} {E : Env} (hE : EnvOK P E) {A : AHeap} {μ : Mu} {w : World} (R : Rel A μ w)

/-! ### New blocks -/
theorem rowR_of {vs : List AV} {cs : Array Value} {e : TypeId} (h : VRs μ vs cs.toList) (ha : vs.all AV.one = true) : BlkR μ (.row true 0 (stamp0 vs)) 0 (objSize (.cells cs e)) (.cells cs e) := by
  refine ⟨cs, e, (0, 0), rfl, rfl, fun _ => rfl, Nat.le_refl _, fun _ => by have := h.length; simp [stamp0] at this ⊢; omega, fun i v s hi _ => ?_⟩
  simp only [stamp0, List.getElem?_map, Option.map_eq_some_iff, Prod.mk.injEq] at hi
  obtain ⟨v', h1, rfl, _⟩ := hi
  obtain ⟨u, h2, h3⟩ := h.get h1
  exact ⟨u, by simpa using h2, h3, List.all_eq_true.1 ha _ (List.mem_of_getElem? h1)⟩
theorem rowR_of2 {vs : List AV} {cs : Array Value} {e : TypeId} (h : VRs μ vs cs.toList) (ha : vs.all AV.one = true) : BlkR μ (.row true 0 (stamp0 vs)) 0 (objSize (.cells cs e)) (.cells cs e) ∧ ∀ wr gen cells, ABlk.row true 0 (stamp0 vs) = .row wr gen cells → cells.length = objSize (.cells cs e) :=
  ⟨rowR_of h ha, fun wr gen cells he => by cases he; have := h.length; simp [stamp0, objSize] at this ⊢; omega⟩
theorem rng0 : Array.range 0 = #[] := rfl
theorem aZeros_len (z : List AV) : ∀ n, (aZeros z n).length = n * z.length
  | 0 => by simp [aZeros]
  | n + 1 => by simp [aZeros, aZeros_len z n, Nat.add_mul]; omega
theorem aZeros_get (z : List AV) : ∀ (n i : Nat), i < n * z.length → (aZeros z n)[i]? = z[i % z.length]?
  | 0, i, h => by simp at h
  | n + 1, i, h => by
    simp only [aZeros]
    by_cases hi : i < z.length
    · rw [List.getElem?_append_left hi, Nat.mod_eq_of_lt hi]
    · rw [List.getElem?_append_right (by omega), aZeros_get z n (i - z.length) (by rw [Nat.add_mul] at h; omega)]
      rw [Nat.mod_eq_sub_mod (show i ≥ z.length by omega)]
theorem zeros_VRs {z : List AV} {zc : Array Value} (h : VRs μ z zc.toList) (n m : Nat) (hm : m = n * z.length) : VRs μ (aZeros z n) ((Array.range m).map (zc[· % zc.size]!)).toList := by
  have hl : zc.size = z.length := by simpa using h.length
  refine VRs.of_get (by simp [aZeros_len, hm]) fun i v u hv hu => ?_
  have hi : i < n * z.length := by have := (List.getElem?_eq_some_iff.1 hv).1; rwa [aZeros_len] at this
  rw [aZeros_get z n i hi] at hv
  obtain ⟨u', h1, h2⟩ := h.get hv
  have h3 : zc[i % z.length]? = some u' := by simpa using h1
  simp [hm, hi, hl, getElem!_def, h3] at hu
  subst hu
  exact h2
include hE in
theorem new_sound2 {o : Oper} {ts : Ts} {B : ABlk} {mk : Nat → AV} (h : aNewO E ts o.op = some (B, mk)) {a : Act} (T : TR μ ts a.tmps) :
    ∃ ob u, (execOp a.eval o).run P w = .ok (.value u) (w.alloc ob) ∧ (BlkR μ B 0 (objSize ob) ob ∧ ∀ wr gen cells, B = .row wr gen cells → cells.length = objSize ob) ∧ ∀ (μ' : Mu) id, μ' id 0 = some (w.heap.size, objSize ob) → VR μ' (mk id) u := by
  obtain ⟨dst, op, type, pos, after, guard⟩ := o
  simp only at h
  cases op <;> simp only [aNewO] at h <;> try (cases h; done)
  case alloc t =>
    simp only [aAlloc, Option.bind_eq_some_iff] at h
    obtain ⟨at', ha, z, hz, h⟩ := h
    cases hall : z.all AV.one with
    | false => simp [hall] at h
    | true =>
      simp only [hall, cond_true, Option.some.injEq, Prod.mk.injEq] at h
      obtain ⟨rfl, rfl⟩ := h
      obtain ⟨zv, z1, z2, _⟩ := run_zero hE w ha hz μ
      refine ⟨.cells zv.cells t, .pointer (some ⟨w.heap.size, 0, none⟩), ?_, rowR_of2 z2 hall, fun μ' id hm => by simp only [VR]; exact ⟨_, _, hm, rfl⟩⟩
      simp [execOp, Instr.alloc, z1, newVar, newRow]
  case box t x =>
    simp only [Option.bind_eq_some_iff] at h
    obtain ⟨v, h1, h⟩ := h
    have r := evalO_VR hE T h1
    unfold aBox at h
    cases hall : v.cells.all AV.one with
    | false => simp [hall] at h
    | true =>
      simp only [hall, cond_true, Option.some.injEq, Prod.mk.injEq] at h
      obtain ⟨rfl, rfl⟩ := h
      refine ⟨.cells (a.eval x).cells t, .pointer (some ⟨w.heap.size, 0, none⟩), ?_, rowR_of2 r.cells hall, fun μ' id hm => by simp only [VR]; exact ⟨_, _, hm, rfl⟩⟩
      simp [execOp, Instr.box, newVar, newRow]
  case buildSlice t len ps =>
    simp only [Option.bind_eq_some_iff] at h
    obtain ⟨vs, h1, h⟩ := h
    obtain ⟨pl, pk⟩ := evalPs_VR T hE h1
    simp only [aBuildSlice, Option.bind_eq_some_iff] at h
    obtain ⟨at', ha, h⟩ := h
    have hund := (hE.ty _ _ ha).1
    split at h
    case h_2 => cases h
    rename_i elem hd
    rw [hd] at hund
    simp only [Option.bind_eq_some_iff, ble_dec, beq_dec, blt_dec] at h
    obtain ⟨e, he, z, hz, h⟩ := h
    by_cases hc : (len * e.size ≤ 16777216 ∧ z.length = e.size) ∧ 0 < e.size
    case neg =>
      exfalso
      have : (decide (len * e.size ≤ 16777216) && decide (z.length = e.size) && decide (0 < e.size)) = false := by simp only [and_dec, decide_eq_false_iff_not]; exact hc
      rw [this] at h; cases h
    obtain ⟨⟨hc1, hc2⟩, hc3⟩ := hc
    simp only [hc1, hc2, hc3, decide_true, Bool.and_self, cond_true, Option.bind_eq_some_iff] at h
    obtain ⟨cs, hf, h⟩ := h
    cases hall : cs.all AV.one with
    | false => simp [hall] at h
    | true =>
      simp only [hall, cond_true, Option.some.injEq, Prod.mk.injEq] at h
      obtain ⟨rfl, rfl⟩ := h
      obtain ⟨zv, z1, z2, _⟩ := run_zero hE w he hz μ
      have hzs : zv.cells.size = e.size := by have := z2.length; simp at this; omega
      have hzz := zeros_VRs z2 len (len * e.size) (by rw [hc2])
      obtain ⟨out', f1, f2⟩ := fill_sound (place' := fun i => some (i * e.size, e.size)) (fun _ _ h => h) hf hzz pl pk
      refine ⟨.cells out' elem, .slice (some ⟨w.heap.size, 0, none⟩) len len, ?_, rowR_of2 f2 hall, fun μ' id hm => ?_⟩
      · have epx : (Array.map (fun (x : Nat × Operand) => match x with | (i, x) => (i, a.eval x)) ps).toList = (List.map (fun p => (p.1, a.eval p.2)) ps.toList) := by simp
        have h24 : ¬ (len * e.size > 2 ^ 24) := by omega
        simp only [execOp, Instr.buildSlice, Sem.run_bind, run_underlying hund, Result.andThen_ok, run_szo hE w he, if_neg h24, Sem.run_pure]
        by_cases h0 : len * e.size = 0
        · have hl0 : len = 0 := by rcases Nat.mul_eq_zero.1 h0 with h | h; exact h; omega
          subst hl0
          rw [epx]
          simp only [Nat.zero_mul, rng0, Array.map_empty] at f1
          simp [f1, newRow, rng0]
        · simp only [if_neg h0, Sem.run_bind, z1, Result.andThen_ok, Sem.run_pure]
          rw [epx, f1]
          simp [newRow]
      · simp only [VR]
        refine ⟨_, _, len, 0, hm, rfl, Nat.le_refl _, Nat.le_refl _, fun _ => rfl, fun _ => ⟨rfl, fun hx => by cases hx⟩, ?_⟩
        have : len ≤ len * e.size := Nat.le_mul_of_pos_right _ hc3
        simp only [maxLen]; omega
  case makeMap t r =>
    cases r <;> simp only [aNewO] at h <;> try (cases h; done)
    simp only [aMakeMap, Option.some.injEq, Prod.mk.injEq] at h
    obtain ⟨rfl, rfl⟩ := h
    refine ⟨.map #[] 0, .map (some w.heap.size), by simp [execOp, Instr.makeMap], ⟨⟨rfl, #[], rfl, by simp [EntsR]⟩, fun _ _ _ h => by cases h⟩, fun μ' id hm => by simp only [VR]; exact ⟨_, _, hm, rfl⟩⟩
  case makeSlice t l c =>
    simp only [Option.bind_eq_some_iff] at h
    obtain ⟨lv, h1, cv, h2, h⟩ := h
    have r1 := evalO_VR hE T h1
    have r2 := evalO_VR hE T h2
    unfold aMakeSlice at h
    split at h
    case h_2 => cases h
    rename_i l' c'
    simp only [VR] at r1 r2
    simp only [Option.bind_eq_some_iff] at h
    obtain ⟨at', ha, h⟩ := h
    have hund := (hE.ty _ _ ha).1
    split at h
    case h_2 => cases h
    rename_i elem hd
    rw [hd] at hund
    simp only [Option.bind_eq_some_iff, beq_dec, blt_dec] at h
    obtain ⟨e, he, z, hz, h⟩ := h
    by_cases hc : (((((0 ≤ l' ∧ l' ≤ c') ∧ c' ≤ 9223372036854775807) ∧ e.bytes * c' ≤ 281474976710656) ∧ z.length = e.size) ∧ z.all AV.one = true) ∧ 0 < e.size
    case neg =>
      exfalso
      have : (decide (0 ≤ l') && decide (l' ≤ c') && decide (c' ≤ 9223372036854775807) && decide (e.bytes * c' ≤ 281474976710656) && decide (z.length = e.size) && z.all AV.one && decide (0 < e.size)) = false := by
        cases hz : z.all AV.one with
        | false => simp
        | true => simp only [and_dec, Bool.and_true, decide_eq_false_iff_not]; intro hx; exact hc ⟨⟨hx.1, hz⟩, hx.2⟩
      rw [this] at h; cases h
    obtain ⟨⟨⟨⟨⟨⟨c1, c2⟩, c3⟩, c4⟩, c5⟩, c6⟩, c7⟩ := hc
    simp only [c1, c2, c3, c4, c5, c6, c7, decide_true, Bool.and_self, cond_true, Option.some.injEq, Prod.mk.injEq] at h
    obtain ⟨rfl, rfl⟩ := h
    obtain ⟨i, ri, hby, hsz, hinfo⟩ := run_info hE w he
    obtain ⟨zv, z1, z2, _⟩ := run_zero hE w he hz μ
    have hzz := zeros_VRs z2 c'.toNat (c'.toNat * e.size) (by rw [c5])
    have hall : (aZeros z c'.toNat).all AV.one = true := by
      rw [List.all_eq_true]
      intro v hv
      obtain ⟨j, hj⟩ := List.mem_iff_getElem?.1 hv
      have hjl : j < c'.toNat * z.length := by have := (List.getElem?_eq_some_iff.1 hj).1; rwa [aZeros_len] at this
      rw [aZeros_get z _ j hjl] at hj
      exact List.all_eq_true.1 c6 _ (List.mem_of_getElem? hj)
    have wl : IntKind.i64.wrap l' = l' := by unfold IntKind.wrap; simp [IntKind.bits, IntKind.signed]; omega
    have wc : IntKind.i64.wrap c' = c' := by unfold IntKind.wrap; simp [IntKind.bits, IntKind.signed]; omega
    refine ⟨.cells ((Array.range (c'.toNat * e.size)).map (zv.cells[· % zv.cells.size]!)) elem, .slice (some ⟨w.heap.size, 0, none⟩) l'.toNat c'.toNat, ?_, rowR_of2 hzz hall, fun μ' id hm => ?_⟩
    · have hb : ¬ (i.bytes * c' > 2 ^ 48) := by rw [hby]; omega
      have hb' : ¬ (281474976710656 < (i.bytes : Int) * c') := by rw [hby]; omega
      have g1 : ¬ c' < 0 := by omega
      have g2 : ¬ l' < 0 := by omega
      have g3 : ¬ c' < l' := by omega
      simp only [execOp, r1, r2, Instr.makeSlice, Sem.run_bind, run_underlying hund, Result.andThen_ok, asInt, asIntOf, Sem.run_pure, ri, wl, wc]
      by_cases h0 : c'.toNat * e.size = 0
      · simp [newRow, hb', g1, g2, g3, run_szo hE w he, h0, rng0]
      · simp [newRow, hb', g1, g2, g3, run_szo hE w he, h0, z1]
    · simp only [VR]
      refine ⟨_, _, c'.toNat, 0, hm, rfl, by omega, Nat.le_refl _, fun _ => rfl, fun _ => ⟨rfl, fun hx => by cases hx⟩, by simp only [maxLen]; omega⟩
include hE in
theorem new_sound {o : Oper} {ts : Ts} {B : ABlk} {mk : Nat → AV} (h : aNewO E ts o.op = some (B, mk)) {a : Act} (T : TR μ ts a.tmps) :
    ∃ ob u, (execOp a.eval o).run P w = .ok (.value u) (w.alloc ob) ∧ BlkR μ B 0 (objSize ob) ob ∧ ∀ (μ' : Mu) id, μ' id 0 = some (w.heap.size, objSize ob) → VR μ' (mk id) u := by
  obtain ⟨ob, u, h1, h2, h3⟩ := new_sound2 hE h T
  exact ⟨ob, u, h1, h2.1, h3⟩
end
end Go.AE
end
