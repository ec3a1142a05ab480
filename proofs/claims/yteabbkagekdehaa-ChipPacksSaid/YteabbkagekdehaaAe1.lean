/- The abstract evaluator, part 1: abstract values, the abstract heap, the meaning of the operations on them. -/
import Derived.Orders
import Derived.Below
import Derived.Laws.Append
import Derived.Laws.CopyRow
set_option linter.unusedVariables false
set_option linter.unusedSimpArgs false
namespace Go.AE

/-! ### 1. A map from numbers, by bits -/
inductive Tr (α : Type) where
  | leaf
  | node (v : Option α) (l r : Tr α)
namespace Tr
variable {α : Type}
def getF : Nat → Tr α → Nat → Option α
  | 0, _, _ => none
  | _ + 1, .leaf, _ => none
  | f + 1, .node v l r, k => bif Nat.beq k 0 then v else bif Nat.beq (k % 2) 1 then getF f l (k / 2) else getF f r (k / 2 - 1)
def setF : Nat → Tr α → Nat → α → Tr α
  | 0, t, _, _ => t
  | f + 1, .leaf, k, x => bif Nat.beq k 0 then .node (some x) .leaf .leaf else bif Nat.beq (k % 2) 1 then .node none (setF f .leaf (k / 2) x) .leaf else .node none .leaf (setF f .leaf (k / 2 - 1) x)
  | f + 1, .node v l r, k, x => bif Nat.beq k 0 then .node (some x) l r else bif Nat.beq (k % 2) 1 then .node v (setF f l (k / 2) x) r else .node v l (setF f r (k / 2 - 1) x)
theorem getF_leaf (f k : Nat) : getF f (.leaf : Tr α) k = none := by cases f <;> rfl
theorem beq_dec (a b : Nat) : Nat.beq a b = decide (a = b) := by
  by_cases h : a = b
  · subst h; simp
  · cases hb : Nat.beq a b with
    | true => exact absurd (Nat.eq_of_beq_eq_true hb) h
    | false => simp [h]
theorem getF_more : ∀ (f g k : Nat) (t : Tr α), k < f → k < g → getF f t k = getF g t k
  | 0, _, _, _, h, _ => by omega
  | _ + 1, 0, _, _, _, h => by omega
  | f + 1, g + 1, k, .leaf, _, _ => rfl
  | f + 1, g + 1, k, .node v l r, h1, h2 => by
    simp only [getF, beq_dec]
    by_cases h0 : k = 0
    · simp [h0]
    · by_cases h3 : k % 2 = 1
      · simp [h0, h3]; exact getF_more f g _ l (by omega) (by omega)
      · simp [h0, h3]; exact getF_more f g _ r (by omega) (by omega)
theorem getF_setF : ∀ (f k j : Nat) (t : Tr α) (x : α), k < f → j < f → getF f (setF f t k x) j = if j = k then some x else getF f t j
  | 0, _, _, _, _, h, _ => by omega
  | f + 1, k, j, t, x, hk, hj => by
    have key : ∀ (v : Option α) (l r : Tr α), getF (f + 1) (bif Nat.beq k 0 then .node (some x) l r else bif Nat.beq (k % 2) 1 then .node v (setF f l (k / 2) x) r else .node v l (setF f r (k / 2 - 1) x)) j
        = if j = k then some x else getF (f + 1) (.node v l r) j := by
      intro v l r
      simp only [beq_dec]
      by_cases h0 : k = 0
      · subst h0
        simp only [decide_true, cond_true, getF, beq_dec]
        by_cases hj0 : j = 0
        · simp [hj0]
        · simp [hj0]
      · by_cases h1 : k % 2 = 1
        · simp only [h0, h1, decide_true, decide_false, cond_true, cond_false, getF, beq_dec]
          by_cases hj0 : j = 0
          · have : ¬ 0 = k := by omega
            simp [hj0, this]
          · by_cases hj1 : j % 2 = 1
            · have hd : (j / 2 = k / 2) = (j = k) := by rw [eq_iff_iff]; omega
              simp only [hj0, hj1, decide_true, decide_false, cond_true, cond_false]
              rw [getF_setF f (k / 2) (j / 2) l x (by omega) (by omega)]
              simp only [hd]
            · have : ¬ j = k := by omega
              simp [hj0, hj1, this]
        · simp only [h0, h1, decide_true, decide_false, cond_true, cond_false, getF, beq_dec]
          by_cases hj0 : j = 0
          · have : ¬ 0 = k := by omega
            simp [hj0, this]
          · by_cases hj1 : j % 2 = 1
            · have : ¬ j = k := by omega
              simp [hj0, hj1, this]
            · have hd : (j / 2 - 1 = k / 2 - 1) = (j = k) := by rw [eq_iff_iff]; omega
              simp only [hj0, hj1, decide_true, decide_false, cond_true, cond_false]
              rw [getF_setF f (k / 2 - 1) (j / 2 - 1) r x (by omega) (by omega)]
              simp only [hd]
    cases t with
    | leaf =>
      have h := key none .leaf .leaf
      have e : getF (f + 1) (.node none .leaf .leaf : Tr α) j = getF (f + 1) .leaf j := by
        simp only [getF, getF_leaf]; cases Nat.beq j 0 <;> cases Nat.beq (j % 2) 1 <;> rfl
      rw [e] at h
      exact h
    | node v l r => exact key v l r
def get (t : Tr α) (k : Nat) : Option α := getF (k + 1) t k
def set (t : Tr α) (k : Nat) (x : α) : Tr α := setF (k + 1) t k x
theorem setF_more : ∀ (f g k : Nat) (t : Tr α) (x : α), k < f → k < g → setF f t k x = setF g t k x
  | 0, _, _, _, _, h, _ => by omega
  | _ + 1, 0, _, _, _, _, h => by omega
  | f + 1, g + 1, k, t, x, h1, h2 => by
    cases t with
    | leaf =>
      simp only [setF, beq_dec]
      by_cases h0 : k = 0
      · simp [h0]
      · by_cases h3 : k % 2 = 1
        · simp [h0, h3]; exact setF_more f g _ _ x (by omega) (by omega)
        · simp [h0, h3]; exact setF_more f g _ _ x (by omega) (by omega)
    | node v l r =>
      simp only [setF, beq_dec]
      by_cases h0 : k = 0
      · simp [h0]
      · by_cases h3 : k % 2 = 1
        · simp [h0, h3]; exact setF_more f g _ l x (by omega) (by omega)
        · simp [h0, h3]; exact setF_more f g _ r x (by omega) (by omega)
theorem get_set (t : Tr α) (k j : Nat) (x : α) : (t.set k x).get j = if j = k then some x else t.get j := by
  unfold get set
  have h := getF_setF (k + j + 1) k j t x (by omega) (by omega)
  rw [getF_more (j + 1) (k + j + 1) j _ (by omega) (by omega), setF_more (k + 1) (k + j + 1) k t x (by omega) (by omega), h,
    getF_more (k + j + 1) (j + 1) j t (by omega) (by omega)]
end Tr

/-! ### 2. Values -/
/-- a number that is not known but for what the tables say of it -/
inductive Sy where
  | lit (n : Int)
  | var (i : Nat)
  /-- an operation with wrapping -/
  | bin (op : BinOp) (k : IntKind) (a b : Sy)
  | wr (k : IntKind) (a : Sy)
  /-- the variable's rest -/
  | md (i : Nat) (n : Nat)
  /-- one of some numbers -/
  | tab (l : List Int) (a : Sy)
  deriving DecidableEq, Inhabited
inductive AV where
  | bool (b : Bool)
  | int (k : IntKind) (n : Int)
  | sym (k : IntKind) (z : Sy)
  /-- a slice of which nothing is asked -/
  | opq (i : Nat)
  | str (s : ByteArray)
  | ptr (b g off : Nat)
  /-- a pointer to one of so many elements of 'es' cells each from cell 'off' on -/
  | sptr (b g off len es : Nat) (z : Sy)
  | nilPtr
  /-- a slice of 'len' elements of 'es' cells from cell 'off' of block b's generation g on; its capacity is at least 'lo', and just 'lo' if 'exact' -/
  | sl (b g off len lo : Nat) (exact : Bool) (es : Nat)
  | nilSl
  | map (b : Nat)
  | nilMap
  | fn (f : FuncId) (first captured : List AV)
  | nilFn
  | iface (t : TypeId) (v : AV)
  | nilIface
  | agg (cs : List AV)
  | tup (vs : List AV)
  deriving Inhabited

def AV.undef : AV := .tup []
def AV.cells : AV → List AV
  | .agg cs => cs
  | v => [v]
def AV.one : AV → Bool
  | .agg _ | .tup _ => false
  | _ => true

/-- A value of the program's text. -/
def ofV1 : Value → Option AV
  | .bool b => some (.bool b)
  | .int k n => some (.int k n)
  | .string s => some (.str s)
  | .pointer none => some .nilPtr
  | .slice none 0 0 => some .nilSl
  | .map none => some .nilMap
  | .nilFunc => some .nilFn
  | .nilIface => some .nilIface
  | _ => none
def ofVs : List Value → Option (List AV)
  | [] => some []
  | v :: vs => (ofV1 v).bind fun x => (ofVs vs).bind fun xs => some (x :: xs)
def ofV : Value → Option AV
  | .agg cs => (ofVs cs.toList).bind fun xs => some (.agg xs)
  | .tuple cs => (ofVs cs.toList).bind fun xs => some (.tup xs)
  | .iface t v => (ofV1 v).bind fun x => some (.iface t x)
  | v => ofV1 v

/-! ### 3. The heap -/
inductive ABlk where
  /-- cells, each with the generation that wrote it; 'wr': it may be written -/
  | row (wr : Bool) (gen : Nat) (cells : List (AV × Nat))
  | map (es : List (AV × AV × Nat)) (clock : Nat)
  | iter (s : ByteArray) (pos : Nat)
  deriving Inhabited

structure AHeap where
  t : Tr ABlk
  n : Nat
theorem beq_dec (a b : Nat) : Nat.beq a b = decide (a = b) := Tr.beq_dec a b
theorem blt_dec (a b : Nat) : Nat.blt a b = decide (a < b) := by
  cases h : Nat.blt a b with
  | true => simp [Nat.blt_eq] at h; simp [h]
  | false =>
    have : ¬ a < b := fun hlt => by rw [← Nat.blt_eq] at hlt; rw [h] at hlt; cases hlt
    simp [this]
theorem ble_dec (a b : Nat) : Nat.ble a b = decide (a ≤ b) := by
  cases h : Nat.ble a b with
  | true => simp [Nat.le_of_ble_eq_true h]
  | false =>
    have : ¬ a ≤ b := fun hle => by rw [Nat.ble_eq_true_of_le hle] at h; cases h
    simp [this]
namespace AHeap
def get (H : AHeap) (b : Nat) : Option ABlk := bif Nat.blt b H.n then H.t.get b else none
def set (H : AHeap) (b : Nat) (x : ABlk) : AHeap := ⟨H.t.set b x, H.n⟩
def push (H : AHeap) (x : ABlk) : AHeap := ⟨H.t.set H.n x, H.n + 1⟩
theorem get_lt {H : AHeap} {b : Nat} {x : ABlk} (h : H.get b = some x) : b < H.n := by
  unfold get at h
  cases hb : Nat.blt b H.n with
  | true => simpa [Nat.blt_eq] using hb
  | false => simp [hb] at h
theorem get_none {H : AHeap} {b : Nat} (h : H.n ≤ b) : H.get b = none := by
  unfold get
  have : Nat.blt b H.n = false := by simp [blt_dec]; omega
  simp [this]
theorem get_of_lt {H : AHeap} {b : Nat} (h : b < H.n) : H.get b = H.t.get b := by
  unfold get
  have : Nat.blt b H.n = true := by simp [Nat.blt_eq]; exact h
  simp [this]
@[simp] theorem n_set (H : AHeap) (b : Nat) (x : ABlk) : (H.set b x).n = H.n := rfl
@[simp] theorem n_push (H : AHeap) (x : ABlk) : (H.push x).n = H.n + 1 := rfl
theorem get_set (H : AHeap) (b j : Nat) (x : ABlk) (hb : b < H.n) : (H.set b x).get j = if j = b then some x else H.get j := by
  by_cases hj : j < H.n
  · rw [get_of_lt (by simpa using hj)]
    simp only [set, Tr.get_set]
    rw [get_of_lt hj]
  · rw [get_none (by simp; omega), if_neg (by omega), get_none (by omega)]
theorem get_push (H : AHeap) (j : Nat) (x : ABlk) : (H.push x).get j = if j = H.n then some x else H.get j := by
  by_cases hj : j < H.n
  · rw [get_of_lt (by simp; omega)]
    simp only [push, Tr.get_set]
    rw [get_of_lt hj]
  · by_cases he : j = H.n
    · subst he
      rw [get_of_lt (by simp)]
      simp [push, Tr.get_set]
    · rw [get_none (by simp; omega), if_neg he, get_none (by omega)]
end AHeap

/-! ### 4. Types, functions -/
structure ATy where
  desc : TypeDesc
  size : Nat
  bytes : Nat
  zero : Option (List AV)
  /-- nothing that the model's comparison looks after stands in its way -/
  plain : Bool
def ATy.isAgg (a : ATy) : Bool := match a.desc with | .struct _ | .array _ _ => true | _ => false
structure Env where
  ty : TypeId → Option ATy
  fn : FuncId → Option Func
  glob : Nat → Option Nat
  /-- what is known of numbers that are not known -/
  le : Sy → Sy → Option Bool
  eq : Sy → Sy → Option Bool
  val : Sy → Option Int
def isSym : AV → Bool
  | .sym _ _ => true
  | _ => false
def toSy : AV → Option (IntKind × Sy)
  | .int k n => some (k, .lit n)
  | .sym k z => some (k, z)
  | _ => none
def Env.norm (E : Env) (v : AV) : AV := match v with
  | .sym k z => match E.val z with
    | some n => .int k n
    | none => .sym k z
  | v => v

/-! ### 5. Cells of a row -/
def stamp0 (vs : List AV) : List (AV × Nat) := vs.map fun v => (v, 0)
/-- the cells from 'off' on, n of them, as generation g sees them -/
def readFrom (g : Nat) : Nat → List (AV × Nat) → Option (List AV)
  | 0, _ => some []
  | _ + 1, [] => none
  | n + 1, (v, s) :: r => bif Nat.ble s g then (readFrom g n r).bind fun vs => some (v :: vs) else none
def readCells (g off n : Nat) (cells : List (AV × Nat)) : Option (List AV) := readFrom g n (cells.drop off)
/-- one cell -/
def readCell (g off : Nat) (cells : List (AV × Nat)) : Option AV :=
  match cells[off]? with
  | some (v, s) => bif Nat.ble s g then some v else none
  | none => none
/-- write vs from 'off' on, all in range -/
def writeCells (g off : Nat) (vs : List AV) (cells : List (AV × Nat)) : Option (List (AV × Nat)) :=
  bif Nat.ble (off + vs.length) cells.length then some (cells.take off ++ vs.map (fun v => (v, g)) ++ cells.drop (off + vs.length)) else none

def aRow (H : AHeap) (b : Nat) : Option (Bool × Nat × List (AV × Nat)) :=
  match H.get b with
  | some (.row wr gen cells) => some (wr, gen, cells)
  | _ => none
def aRead (H : AHeap) (b g off n : Nat) : Option (List AV) := (aRow H b).bind fun (_, gen, cells) => bif Nat.ble g gen then readCells g off n cells else none
def aRead1 (H : AHeap) (b g off : Nat) : Option AV := (aRow H b).bind fun (_, gen, cells) => bif Nat.ble g gen then readCell g off cells else none
def aWrite (H : AHeap) (b g off : Nat) (vs : List AV) : Option AHeap :=
  (aRow H b).bind fun (wr, gen, cells) => bif wr && Nat.beq g gen && vs.all AV.one then (writeCells g off vs cells).bind fun cs => some (H.set b (.row wr gen cs)) else none
/-! ### 6. Operations -/
/-- the numbers in every so-many-th cell -/
def aTab (H : AHeap) (b g es : Nat) (k : IntKind) : Nat → Nat → Option (List Int)
  | 0, _ => some []
  | n + 1, off => (aRead1 H b g off).bind fun v => match v with
    | .int k' m => bif decide (k' = k) then (aTab H b g es k n (off + es)).bind fun l => some (m :: l) else none
    | _ => none
def aLoad (E : Env) (H : AHeap) (t : TypeId) (p : AV) : Option AV :=
  match p with
  | .ptr b g off => (E.ty t).bind fun a => bif a.isAgg then (aRead H b g off a.size).bind fun vs => some (.agg vs) else aRead1 H b g off
  | .sptr b g off len es z => (E.ty t).bind fun a => match a.desc with
    | .int k => (aTab H b g es k len off).bind fun l => some (.sym k (.tab l z))
    | _ => none
  | _ => none
def aStore (E : Env) (H : AHeap) (t : TypeId) (p v : AV) : Option AHeap :=
  match p with
  | .ptr b g off => (E.ty t).bind fun a => bif Nat.beq v.cells.length a.size then aWrite H b g off v.cells else none
  | _ => none
/-- a new block, and the value that leads to it, by its number -/
abbrev ANew := ABlk × (Nat → AV)
def aAlloc (E : Env) (t : TypeId) : Option ANew := (E.ty t).bind fun a => a.zero.bind fun z => bif z.all AV.one then some (.row true 0 (stamp0 z), fun b => .ptr b 0 0) else none
def aBox (v : AV) : Option ANew := bif v.cells.all AV.one then some (.row true 0 (stamp0 v.cells), fun b => .ptr b 0 0) else none

def aFill (place : Nat → Option (Nat × Nat)) (cells : List AV) : List (Nat × AV) → Option (List AV)
  | [] => some cells
  | (i, v) :: rest => (place i).bind fun (off, size) =>
      bif Nat.beq v.cells.length size && Nat.ble (off + size) cells.length then aFill place (cells.take off ++ v.cells ++ cells.drop (off + size)) rest else none
def aPlaces (E : Env) : List Field → Option (List (Nat × Nat))
  | [] => some []
  | f :: fs => (E.ty f.type).bind fun a => (aPlaces E fs).bind fun ps => some ((f.offset, a.size) :: ps)
def aBuild (E : Env) (t : TypeId) (parts : List (Nat × AV)) : Option AV :=
  (E.ty t).bind fun a => a.zero.bind fun z => match a.desc with
    | .struct fields => (aPlaces E fields.toList).bind fun ps => (aFill (ps[·]?) z parts).bind fun cs => some (.agg cs)
    | .array _ elem => (E.ty elem).bind fun e => (aFill (fun i => some (i * e.size, e.size)) z parts).bind fun cs => some (.agg cs)
    | _ => none
def aZeros (z : List AV) : Nat → List AV
  | 0 => []
  | n + 1 => z ++ aZeros z n
def aBuildSlice (E : Env) (t : TypeId) (len : Nat) (parts : List (Nat × AV)) : Option ANew :=
  (E.ty t).bind fun a => match a.desc with
    | .slice elem => (E.ty elem).bind fun e => e.zero.bind fun z =>
        bif Nat.ble (len * e.size) 16777216 && Nat.beq z.length e.size && Nat.blt 0 e.size then
          (aFill (fun i => some (i * e.size, e.size)) (aZeros z len) parts).bind fun cs => bif cs.all AV.one then some (.row true 0 (stamp0 cs), fun b => .sl b 0 0 len len true e.size) else none
        else none
    | _ => none
def aMakeSlice (E : Env) (t : TypeId) (l c : AV) : Option ANew :=
  match l, c with
  | .int .i64 l, .int .i64 c => (E.ty t).bind fun a => match a.desc with
    | .slice elem => (E.ty elem).bind fun e => e.zero.bind fun z =>
        bif decide (0 ≤ l) && decide (l ≤ c) && decide (c ≤ 9223372036854775807) && decide (e.bytes * c ≤ 281474976710656) && Nat.beq z.length e.size && z.all AV.one && Nat.blt 0 e.size then
          some (.row true 0 (stamp0 (aZeros z c.toNat)), fun b => .sl b 0 0 l.toNat c.toNat true e.size)
        else none
    | _ => none
  | _, _ => none
def aNilCheck (x : AV) : Option AV :=
  match x with
  | .ptr .. | .fn .. | .map .. => some x
  | _ => none
def aIntBin (op : BinOp) (k : IntKind) (a b : Int) : Option AV :=
  match op with
  | .add => some (.int k (k.wrap (a + b)))
  | .sub => some (.int k (k.wrap (a - b)))
  | .mul => some (.int k (k.wrap (a * b)))
  | .quo => if b = 0 then none else some (.int k (k.wrap (a.tdiv b)))
  | .rem => if b = 0 then none else some (.int k (a.tmod b))
  | .and => some (.int k (k.wrap ((BitVec.ofInt k.bits a &&& BitVec.ofInt k.bits b).toNat)))
  | .or => some (.int k (k.wrap ((BitVec.ofInt k.bits a ||| BitVec.ofInt k.bits b).toNat)))
  | .xor => some (.int k (k.wrap ((BitVec.ofInt k.bits a ^^^ BitVec.ofInt k.bits b).toNat)))
  | .andNot => some (.int k (k.wrap ((BitVec.ofInt k.bits a &&& ~~~BitVec.ofInt k.bits b).toNat)))
  | .eql => some (.bool (a == b))
  | .neq => some (.bool (a != b))
  | .lss => some (.bool (decide (a < b)))
  | .leq => some (.bool (decide (a ≤ b)))
  | .gtr => some (.bool (decide (a > b)))
  | .geq => some (.bool (decide (a ≥ b)))
  | .shl | .shr => none
def aShift (op : BinOp) (k : IntKind) (a b : Int) : Option AV :=
  if b < 0 then none else
  match op with
  | .shl => some (.int k (k.wrap (a * 2 ^ (min b.toNat k.bits))))
  | .shr => some (.int k (a.fdiv (2 ^ (min b.toNat k.bits))))
  | _ => none
def aStrBin (op : BinOp) (x y : ByteArray) : Option AV :=
  match op with
  | .add => bif Nat.ble (x.size + y.size) 9223372036854775807 then some (.str (x ++ y)) else none
  | .eql => some (.bool (x.data.toList == y.data.toList))
  | .neq => some (.bool !(x.data.toList == y.data.toList))
  | .lss => some (.bool (Op.bytesLess x.data.toList y.data.toList))
  | .leq => some (.bool (Op.bytesLess x.data.toList y.data.toList || x.data.toList == y.data.toList))
  | .gtr => some (.bool !(Op.bytesLess x.data.toList y.data.toList || x.data.toList == y.data.toList))
  | .geq => some (.bool !(Op.bytesLess x.data.toList y.data.toList))
  | _ => none
def aWrRow (H : AHeap) (b : Nat) : Bool := match H.get b with | some (.row wr _ _) => wr | _ => false
def aWr (H : AHeap) (b : Nat) : Bool := match H.get b with | some (.row wr _ _) => wr | some _ => true | none => false
def aPart (E : Env) (t : TypeId) (cs : List AV) (off : Nat) : Option AV :=
  (E.ty t).bind fun a => bif a.isAgg then (bif Nat.ble (off + a.size) cs.length then some (.agg ((cs.drop off).take a.size)) else none) else cs[off]?
def aEqFields (E : Env) (eq : TypeId → AV → AV → Option Bool) (xs ys : List AV) : List Field → Option Bool
  | [] => some true
  | f :: fs => if f.name ≠ "_" then
      (aPart E f.type xs f.offset).bind fun u => (aPart E f.type ys f.offset).bind fun v => (eq f.type u v).bind fun r => bif r then aEqFields E eq xs ys fs else some false
    else aEqFields E eq xs ys fs
def aEqItems (E : Env) (eq : AV → AV → Option Bool) (t : TypeId) (n : Nat) (xs ys : List AV) : List Nat → Option Bool
  | [] => some true
  | i :: is => (aPart E t xs (i * n)).bind fun u => (aPart E t ys (i * n)).bind fun v => (eq u v).bind fun r => bif r then aEqItems E eq t n xs ys is else some false
/-- '==' at a type -/
def aEq (E : Env) (H : AHeap) : Nat → TypeId → AV → AV → Option Bool
  | 0, _, _, _ => none
  | d + 1, t, x, y => (E.ty t).bind fun a => match a.desc, x, y with
    | .bool, .bool p, .bool q => some (p == q)
    | .int _, .int k p, .int k' q => if k = k' then some (p == q) else none
    | .string, .str p, .str q => some (p.data.toList == q.data.toList)
    | .pointer _, .nilPtr, .nilPtr => some true
    | .pointer _, .nilPtr, .ptr .. => some false
    | .pointer _, .ptr .., .nilPtr => some false
    | .pointer e, .ptr b g o, .ptr b' g' o' => (E.ty e).bind fun ae => bif Nat.beq ae.size 0 then none else
        bif Nat.beq b b' then (bif Nat.beq g g' then some (Nat.beq o o') else none) else bif aWrRow H b && aWrRow H b' then some false else none
    | .interface _, .nilIface, .nilIface => some true
    | .interface _, .nilIface, .iface .. => some false
    | .interface _, .iface .., .nilIface => some false
    | .slice _, .nilSl, .nilSl => some true
    | .slice _, .nilSl, .sl .. => some false
    | .slice _, .sl .., .nilSl => some false
    | .map _ _, .nilMap, .nilMap => some true
    | .map _ _, .nilMap, .map _ => some false
    | .map _ _, .map _, .nilMap => some false
    | .func _ _ _, .nilFn, .nilFn => some true
    | .func _ _ _, .nilFn, .fn .. => some false
    | .func _ _ _, .fn .., .nilFn => some false
    | .struct fields, .agg xs, .agg ys => bif a.plain then aEqFields E (aEq E H d) xs ys fields.toList else none
    | .array n e, .agg xs, .agg ys => (E.ty e).bind fun ae => aEqItems E (aEq E H d e) e ae.size xs ys (List.range n)
    | .int _, x, y => (toSy x).bind fun p => (toSy y).bind fun q => if p.1 = q.1 then E.eq p.2 q.2 else none
    | _, _, _ => none
/-- nothing of what the model asks ahead of '==' stands in the way -/
def aGuard (E : Env) (t : TypeId) (x y : AV) : Bool :=
  match x, y with
  | .nilIface, .nilIface => false
  | .agg _, .agg _ => match E.ty t with | some a => a.plain | none => false
  | _, _ => true
/-- on numbers and strings -/
def aBinS : BinOp → AV → AV → Option (Option AV)
  | .shl, .int k a, .int _ b => some (aShift .shl k a b)
  | .shr, .int k a, .int _ b => some (aShift .shr k a b)
  | op, .int k a, .int k' b => some (if k = k' then aIntBin op k a b else none)
  | op, .str a, .str b => some (aStrBin op a b)
  | _, _, _ => none
def aBinE (E : Env) (H : AHeap) (op : BinOp) (t : TypeId) (x y : AV) : Option AV :=
  match op with
  | .eql => bif aGuard E t x y then (aEq E H 20 t x y).bind fun r => some (.bool r) else none
  | .neq => bif aGuard E t x y then (aEq E H 20 t x y).bind fun r => some (.bool !r) else none
  | _ => none
/-- on numbers of which one is not known -/
def aSymBin (E : Env) (op : BinOp) (k : IntKind) (a b : Sy) : Option AV :=
  match op with
  | .add | .sub | .mul | .and | .or | .xor | .andNot => some (.sym k (.bin op k a b))
  | .quo | .rem => match b with
    | .lit n => if n = 0 then none else some (.sym k (.bin op k a b))
    | _ => none
  | .eql => (E.eq a b).bind fun r => some (.bool r)
  | .neq => (E.eq a b).bind fun r => some (.bool !r)
  | .lss => (E.le b a).bind fun r => some (.bool !r)
  | .leq => (E.le a b).bind fun r => some (.bool r)
  | .gtr => (E.le a b).bind fun r => some (.bool !r)
  | .geq => (E.le b a).bind fun r => some (.bool r)
  | .shl | .shr => none
def aBin (E : Env) (H : AHeap) (op : BinOp) (t : TypeId) (x y : AV) : Option AV :=
  bif isSym x || isSym y then (toSy x).bind fun p => (toSy y).bind fun q => if p.1 = q.1 then aSymBin E op p.1 p.2 q.2 else none
  else match aBinS op x y with
  | some r => r
  | none => aBinE E H op t x y
def aUn (op : UnOp) (x : AV) : Option AV :=
  match op, x with
  | .neg, .int k n => aIntBin .sub k 0 n
  | .xor, .int k n => aIntBin .xor k (if k.signed then -1 else k.max) n
  | .not, .bool b => some (.bool !b)
  | .neg, .sym k z => some (.sym k (.bin .sub k (.lit 0) z))
  | _, _ => none
def aConvert (E : Env) (src dst : TypeId) (x : AV) : Option AV :=
  (E.ty src).bind fun s => (E.ty dst).bind fun d => match s.desc, d.desc, x with
    | .int _, .int k, .int _ n => some (.int k (k.wrap n))
    | .int _, .int k, .sym _ z => some (.sym k (.wr k z))
    | .string, .string, .str s => some (.str s)
    | _, _, _ => none
def aSlBound (x : Option AV) (d y : Nat) : Option Nat :=
  match x with
  | none => some d
  | some (.int _ i) => bif decide (0 ≤ i) && decide (i ≤ (y : Int)) then some i.toNat else none
  | _ => none
def aSlice (E : Env) (t : TypeId) (x : AV) (lo hi mx : Option AV) : Option AV :=
  (E.ty t).bind fun a => match a.desc, x with
    | .string, .str s => match mx with
      | none => (aSlBound hi s.size s.size).bind fun h => (aSlBound lo 0 h).bind fun l => some (.str (s.extract l h))
      | _ => none
    | .slice elem, .sl b g off len lo' ex es => (E.ty elem).bind fun e => bif Nat.beq e.size es then
        (aSlBound mx lo' lo').bind fun m => (aSlBound hi len m).bind fun h => (aSlBound lo 0 h).bind fun l =>
          some (.sl b g (off + l * es) (h - l) (m - l) (ex || mx.isSome) es) else none
    | .slice elem, .nilSl => (E.ty elem).bind fun _ => (aSlBound mx 0 0).bind fun m => (aSlBound hi 0 m).bind fun h => (aSlBound lo 0 h).bind fun l => some .nilSl
    | .array n elem, .ptr b g off => (E.ty elem).bind fun e => bif Nat.ble n 9223372036854775807 then
        (aSlBound mx n n).bind fun m => (aSlBound hi n m).bind fun h => (aSlBound lo 0 h).bind fun l =>
          some (.sl b g (off + l * e.size) (h - l) (m - l) true e.size) else none
    | _, _ => none
def aFieldAddr (E : Env) (s : TypeId) (x : AV) (f : Nat) : Option AV :=
  (E.ty s).bind fun a => match a.desc, x with
    | .struct fields, .ptr b g off => (fields[f]?).bind fun fd => (E.ty fd.type).bind fun e => bif Nat.beq e.size 0 then none else some (.ptr b g (off + fd.offset))
    | _, _ => none
def aField (E : Env) (s : TypeId) (x : AV) (f : Nat) : Option AV :=
  (E.ty s).bind fun a => match a.desc, x with
    | .struct fields, .agg cs => (fields[f]?).bind fun fd => aPart E fd.type cs fd.offset
    | _, _ => none
def aIndexAddr (E : Env) (t : TypeId) (x i : AV) : Option AV :=
  match i with
  | .int _ i => (E.ty t).bind fun a => match a.desc, x with
    | .array n elem, .ptr b g off => (E.ty elem).bind fun e => bif decide (0 ≤ i) && decide (i < (n : Int)) then some (.ptr b g (off + i.toNat * e.size)) else none
    | .slice elem, .sl b g off len lo ex es => (E.ty elem).bind fun e => bif decide (0 ≤ i) && decide (i < (len : Int)) && Nat.beq e.size es then some (.ptr b g (off + i.toNat * es)) else none
    | _, _ => none
  | .sym _ z => (E.ty t).bind fun a => match a.desc, x with
    | .slice elem, .sl b g off len lo ex es => (E.ty elem).bind fun e => match E.le (.lit 0) z, E.le (.lit (len : Int)) z, Nat.beq e.size es with
      | some true, some false, true => some (.sptr b g off len es z)
      | _, _, _ => none
    | _, _ => none
  | _ => none
def aIndex (E : Env) (t : TypeId) (x i : AV) : Option AV :=
  match i with
  | .int _ i => (E.ty t).bind fun a => match a.desc, x with
    | .array n elem, .agg cs => (E.ty elem).bind fun e => bif decide (0 ≤ i) && decide (i < (n : Int)) then aPart E elem cs (i.toNat * e.size) else none
    | .string, .str s => if 0 ≤ i then (s[i.toNat]?).bind fun c => some (.int .u8 c.toNat) else none
    | _, _ => none
  | _ => none
def aExtract (x : AV) (i : Nat) : Option AV :=
  match x with
  | .tup vs => vs[i]?
  | _ => none
def aMkIface (E : Env) (t : TypeId) (x : AV) : Option AV :=
  (E.ty t).bind fun a => match a.desc with
    | .interface _ => none
    | _ => some (.iface t x)
/-! maps -/
def aScalarEq : AV → AV → Option Bool
  | .int k a, .int k' b => if k = k' then some (a == b) else none
  | .str a, .str b => some (a == b)
  | .bool a, .bool b => some (a == b)
  | _, _ => none
def keyKind : TypeDesc → AV → Bool
  | .int _, .int _ _ => true
  | .string, .str _ => true
  | .bool, .bool _ => true
  | _, _ => false
def aKeyOK (E : Env) (t : TypeId) (k : AV) : Bool :=
  match E.ty t with
  | some a => keyKind a.desc k
  | none => false
def aFind (k : AV) : List (AV × AV × Nat) → Nat → Option (Option (Nat × AV × Nat))
  | [], _ => some none
  | (k', v, s) :: es, i => (aScalarEq k k').bind fun r => bif r then some (some (i, v, s)) else aFind k es (i + 1)
def aMap (H : AHeap) (b : Nat) : Option (List (AV × AV × Nat) × Nat) :=
  match H.get b with
  | some (.map es clock) => some (es, clock)
  | _ => none
def aZeroV (e : ATy) : Option AV := e.zero.bind fun z => bif e.isAgg then some (AV.agg z) else z[0]?
def lookRes (E : Env) (et : TypeId) (ok : Bool) : Option (Nat × AV × Nat) → Option AV
  | some (_, v, _) => some (bif ok then .tup [v, .bool true] else v)
  | none => (E.ty et).bind fun e => (aZeroV e).bind fun v => some (bif ok then .tup [v, .bool false] else v)
def aEnts (H : AHeap) : AV → Option (List (AV × AV × Nat))
  | .nilMap => some []
  | .map b => (aMap H b).bind fun (es, _) => some es
  | _ => none
def aLookup (E : Env) (H : AHeap) (t : TypeId) (x k : AV) (ok : Bool) : Option AV :=
  (E.ty t).bind fun a => match a.desc with
    | .map kt et => bif aKeyOK E kt k then (aEnts H x).bind fun es => (aFind k es 0).bind fun r => lookRes E et ok r else none
    | _ => none
def aMapUpdate (E : Env) (H : AHeap) (t : TypeId) (m k v : AV) : Option AHeap :=
  (E.ty t).bind fun a => match a.desc, m with
    | .map kt _, .map b => bif aKeyOK E kt k then (aMap H b).bind fun (es, clock) =>
        (aFind k es 0).bind fun r => match r with
          | some (i, _, s) => some (H.set b (.map (es.set i (k, v, s)) clock))
          | none => some (H.set b (.map (es ++ [(k, v, clock)]) (clock + 1))) else none
    | _, _ => none
def aMapEntry (E : Env) (H : AHeap) (t : TypeId) (m k : AV) : Option (AV × AHeap) :=
  (E.ty t).bind fun a => match a.desc, m with
    | .map kt et, .map b => bif aKeyOK E kt k then (aMap H b).bind fun (es, clock) =>
        (aFind k es 0).bind fun r => match r with
          | some (i, v, s) => some (.tup [v, .int .i64 s], H.set b (.map es clock))
          | none => (E.ty et).bind fun e => (aZeroV e).bind fun v =>
              some (.tup [v, .int .i64 clock], H.set b (.map (es ++ [(k, v, clock)]) (clock + 1))) else none
    | _, _ => none
def aMakeMap : ANew := (.map [] 0, fun b => .map b)
/-! builtins -/
def aLen (E : Env) (H : AHeap) (t : TypeId) (x : AV) : Option AV :=
  (E.ty t).bind fun a => match a.desc, x with
    | .string, .str s => some (.int .i64 s.size)
    | .array n _, _ => some (.int .i64 n)
    | .pointer arr, _ => (E.ty arr).bind fun e => match e.desc with | .array n _ => some (.int .i64 n) | _ => none
    | .slice _, .sl _ _ _ len _ _ _ => some (.int .i64 len)
    | .slice _, .nilSl => some (.int .i64 0)
    | .map _ _, .nilMap => some (.int .i64 0)
    | .map _ _, .map b => (aMap H b).bind fun (es, _) => some (.int .i64 es.length)
    | _, _ => none
def aCap (E : Env) (t : TypeId) (x : AV) : Option AV :=
  (E.ty t).bind fun a => match a.desc, x with
    | .slice _, .sl _ _ _ _ lo true _ => some (.int .i64 lo)
    | .slice _, .nilSl => some (.int .i64 0)
    | .array n _, _ => some (.int .i64 n)
    | _, _ => none
def aSrc (H : AHeap) (es : Nat) (x : AV) : Option (Nat × List AV) :=
  match x with
  | .sl b g off len _ _ es' => bif Nat.beq es es' then (aRead H b g off (len * es)).bind fun vs => some (len, vs) else none
  | .nilSl => some (0, [])
  | .str s => bif Nat.beq es 1 then some (s.size, s.data.toList.map fun c => AV.int .u8 c.toNat) else none
  | _ => none
def aAppendTo (H : AHeap) (bytes es : Nat) (s : AV) (m : Nat) (news : List AV) : Option (AV × AHeap) :=
  match s with
  | .nilSl => bif Nat.beq m 0 then some (.nilSl, H) else some (.sl H.n 0 0 m m false es, H.push (.row true 0 (stamp0 news)))
  | .sl b g off len lo ex es' => bif Nat.beq es es' then
      bif Nat.ble (len + m) lo then
        (bif Nat.beq m 0 then some H else aWrite H b g (off + len * es) news).bind fun H' => some (.sl b g off (len + m) lo ex es, H')
      else bif ex then
        (aRead H b g off (len * es)).bind fun olds => some (.sl H.n 0 0 (len + m) (len + m) false es, H.push (.row true 0 (stamp0 (olds ++ news))))
      else
        (aRow H b).bind fun (wr, gen, cells) => bif wr && Nat.beq off 0 then
          (aRead H b g 0 (len * es)).bind fun _ =>
            some (.sl b (gen + 1) 0 (len + m) (len + m) false es, H.set b (.row true (gen + 1) (cells.take (len * es) ++ news.map fun v => (v, gen + 1))))
          else none
      else none
  | _ => none
def aAppSrc (d : TypeDesc) (H : AHeap) (es : Nat) (z : List AV) (x : AV) : Option (Nat × List AV) :=
  match d with
  | .int _ => match x with
    | .int .i64 n => bif decide (0 ≤ n) && decide (n ≤ 9223372036854775807) then some (n.toNat, aZeros z n.toNat) else none
    | _ => none
  | _ => aSrc H es x
def aLenOf : AV → Option Nat
  | .sl _ _ _ len _ _ _ => some len
  | .nilSl => some 0
  | _ => none
def aAppend (E : Env) (H : AHeap) (t xt : TypeId) (s x : AV) : Option (AV × AHeap) :=
  (E.ty t).bind fun a => match a.desc with
    | .slice elem => (E.ty elem).bind fun e => (E.ty xt).bind fun ax => e.zero.bind fun z =>
        bif Nat.blt 0 e.size && Nat.beq z.length e.size && z.all AV.one then
        (aAppSrc ax.desc H e.size z x).bind fun (m, news) => (aLenOf s).bind fun len =>
        bif Nat.ble ((len + m) * e.bytes) 140737488355328 && Nat.ble (len + m) 9223372036854775807 && news.all AV.one then aAppendTo H e.bytes e.size s m news else none
        else none
    | _ => none
def aCopy (E : Env) (H : AHeap) (t : TypeId) (d x : AV) : Option (AV × AHeap) :=
  (E.ty t).bind fun a => match a.desc with
    | .slice elem => (E.ty elem).bind fun e => match d with
      | .nilSl => (aSrc H e.size x).bind fun _ => some (.int .i64 0, H)
      | .sl b g off len _ _ es => bif Nat.beq es e.size then (aSrc H e.size x).bind fun (m, vs) =>
          bif Nat.beq (min m len) 0 then some (.int .i64 0, H) else
          (aWrite H b g off (vs.take (min m len * es))).bind fun H' => some (.int .i64 (min m len : Nat), H') else none
      | _ => none
    | _ => none
def aClear (E : Env) (H : AHeap) (t : TypeId) (x : AV) : Option AHeap :=
  match x with
  | .nilSl => (E.ty t).bind fun _ => some H
  | .sl b g off len _ _ es => bif Nat.beq len 0 then (E.ty t).bind fun _ => some H else (E.ty t).bind fun a => match a.desc with
    | .slice elem => (E.ty elem).bind fun e => e.zero.bind fun z => bif Nat.beq e.size es && Nat.beq z.length es && z.all AV.one then aWrite H b g off (aZeros z len) else none
    | _ => none
  | _ => none
def aDelete (E : Env) (H : AHeap) (t : TypeId) (m k : AV) : Option AHeap :=
  (E.ty t).bind fun a => match a.desc with
    | .map kt _ => bif aKeyOK E kt k then match m with
      | .nilMap => some H
      | .map b => (aMap H b).bind fun (es, clock) => (aFind k es 0).bind fun r => match r with
        | some (i, _, _) => some (H.set b (.map (es.eraseIdx i) clock))
        | none => some (H.set b (.map es clock))
      | _ => none
      else none
    | _ => none
def aMinMax (E : Env) (mx : Bool) : AV → List AV → Option AV
  | .int k a, [] => some (.int k a)
  | .sym k a, [] => some (.sym k a)
  | .int k a, .int k' b :: r => if k = k' then aMinMax E mx (.int k (if mx then (if b > a then b else a) else (if b < a then b else a))) r else none
  | x, y :: r => (toSy x).bind fun p => (toSy y).bind fun q => if p.1 = q.1 then
      ((bif mx then E.le q.2 p.2 else E.le p.2 q.2).bind fun c => aMinMax E mx (bif c then x else y) r) else none
  | _, _ => none

/-! ### 7. One operation -/
inductive AOut where
  | val (v : AV) (H : AHeap)
  | enter (f : FuncId) (args : List AV)
/-- the temporaries: so many, and what is in each -/
structure Ts where
  n : Nat
  f : Nat → AV
namespace Ts
def get (ts : Ts) (t : Nat) : Option AV := bif Nat.blt t ts.n then some (ts.f t) else none
def set (ts : Ts) (d : Nat) (v : AV) : Ts := ⟨ts.n, fun i => bif Nat.beq i d then v else ts.f i⟩
def ofArgs (args : List AV) (n : Nat) : Ts := ⟨max args.length n, fun i => (args[i]?).getD .undef⟩
theorem get_lt {ts : Ts} {t : Nat} {v : AV} (h : ts.get t = some v) : t < ts.n ∧ ts.f t = v := by
  simp only [get, blt_dec] at h
  by_cases ht : t < ts.n
  · simp only [ht, decide_true, cond_true, Option.some.injEq] at h; exact ⟨ht, h⟩
  · simp [ht] at h
theorem get_of_lt {ts : Ts} {t : Nat} (h : t < ts.n) : ts.get t = some (ts.f t) := by simp [get, blt_dec, h]
theorem get_none {ts : Ts} {t : Nat} (h : ts.get t = none) : ts.n ≤ t := by
  simp only [get, blt_dec] at h
  by_cases ht : t < ts.n
  · simp [ht] at h
  · omega
@[simp] theorem set_n (ts : Ts) (d : Nat) (v : AV) : (ts.set d v).n = ts.n := rfl
theorem get_set (ts : Ts) (d t : Nat) (v : AV) : (ts.set d v).get t = if d = t then (if t < ts.n then some v else none) else ts.get t := by
  simp only [get, set, blt_dec, beq_dec]
  by_cases h : d = t
  · subst h; by_cases hl : d < ts.n <;> simp [hl]
  · have : ¬ t = d := fun e => h e.symm
    simp [h, this]
theorem set_comm (ts : Ts) {d e : Nat} (v w : AV) (h : d ≠ e) : (ts.set d v).set e w = (ts.set e w).set d v := by
  simp only [set, beq_dec, mk.injEq, true_and]
  funext i
  by_cases h1 : i = d <;> by_cases h2 : i = e
  · exact absurd (h1.symm.trans h2) h
  · simp [h1, h]
  · simp [h2, Ne.symm h]
  · simp [h1, h2]
end Ts
def evalO (E : Env) (ts : Ts) : Operand → Option AV
  | .tmp t => (ts.get t).bind fun v => some (E.norm v)
  | .const v => ofV v
  | .global g => (E.glob g).bind fun b => some (.ptr b 0 0)
  | .func f => some (.fn f [] [])
def evalOs (E : Env) (ts : Ts) : List Operand → Option (List AV)
  | [] => some []
  | x :: xs => (evalO E ts x).bind fun v => (evalOs E ts xs).bind fun vs => some (v :: vs)
def evalPs (E : Env) (ts : Ts) : List (Nat × Operand) → Option (List (Nat × AV))
  | [] => some []
  | (i, x) :: xs => (evalO E ts x).bind fun v => (evalPs E ts xs).bind fun vs => some ((i, v) :: vs)
def evalM (E : Env) (ts : Ts) : Option Operand → Option (Option AV)
  | none => some none
  | some x => (evalO E ts x).bind fun v => some (some v)
/-- The kinds of operations: those that only read; those that make a block; all others. -/
inductive Kind where
  | pass | new | eff
  deriving DecidableEq
def opKind : Op → Kind
  | .alloc _ | .box .. | .buildSlice .. | .makeMap .. | .makeSlice .. => .new
  | .move _ | .assign _ | .pick .. | .build .. | .load .. | .nilCheck _ | .binOp .. | .unOp .. | .makeInterface .. | .makeFunc .. | .slice .. | .fieldAddr .. | .field ..
  | .indexAddr .. | .index .. | .lookup .. | .extract .. => .pass
  | .convert s d _ => bif Nat.beq s d then .eff else .pass
  | .call { callee := .builtin .len, .. } | .call { callee := .builtin .cap, .. } | .call { callee := .builtin .max, .. } | .call { callee := .builtin .min, .. } => .pass
  | _ => .eff
def aPick (c a b : AV) : Option AV := match c with | .bool c => some (bif c then a else b) | _ => none
def aPassBuiltin (E : Env) (H : AHeap) (b : Builtin) (argTypes : List TypeId) (args : List AV) : Option AV :=
  match b, argTypes, args with
  | .len, t :: _, x :: _ => aLen E H t x
  | .cap, t :: _, x :: _ => aCap E t x
  | .max, _, x :: xs => aMinMax E true x xs
  | .min, _, x :: xs => aMinMax E false x xs
  | _, _, _ => none
def aPass (E : Env) (ts : Ts) (H : AHeap) (op : Op) : Option AV :=
  match op with
  | .move x => evalO E ts x
  | .assign x => evalO E ts x
  | .pick c a b => (evalO E ts c).bind fun c => (evalO E ts a).bind fun a => (evalO E ts b).bind fun b => aPick c a b
  | .build t ps => (evalPs E ts ps.toList).bind fun ps => aBuild E t ps
  | .load t x => (evalO E ts x).bind fun p => aLoad E H t p
  | .nilCheck x => (evalO E ts x).bind fun v => aNilCheck v
  | .binOp op t x y _ => (evalO E ts x).bind fun a => (evalO E ts y).bind fun b => aBin E H op t a b
  | .unOp op _ x => (evalO E ts x).bind fun a => aUn op a
  | .convert s d x => (evalO E ts x).bind fun a => aConvert E s d a
  | .makeInterface t x => (evalO E ts x).bind fun a => aMkIface E t a
  | .makeFunc (.func f) first captured => (evalOs E ts first.toList).bind fun a => (evalOs E ts captured.toList).bind fun b => some (.fn f a b)
  | .slice t x lo hi mx => bif hi.isNone && mx.isSome then none else (evalO E ts x).bind fun x => (evalM E ts lo).bind fun lo => (evalM E ts hi).bind fun hi => (evalM E ts mx).bind fun mx => aSlice E t x lo hi mx
  | .fieldAddr s x f => (evalO E ts x).bind fun x => aFieldAddr E s x f
  | .field s x f => (evalO E ts x).bind fun x => aField E s x f
  | .indexAddr t x i => (evalO E ts x).bind fun x => (evalO E ts i).bind fun i => aIndexAddr E t x i
  | .index t x i => (evalO E ts x).bind fun x => (evalO E ts i).bind fun i => aIndex E t x i
  | .lookup t x i ok => (evalO E ts x).bind fun x => (evalO E ts i).bind fun i => aLookup E H t x i ok
  | .extract x i => (evalO E ts x).bind fun x => aExtract x i
  | .call { callee := .builtin b, args := args, argTypes := argTypes } => (evalOs E ts args.toList).bind fun vs => aPassBuiltin E H b argTypes.toList vs
  | _ => none
def aNewO (E : Env) (ts : Ts) (op : Op) : Option ANew :=
  match op with
  | .alloc t => aAlloc E t
  | .box _ x => (evalO E ts x).bind fun v => aBox v
  | .buildSlice t len ps => (evalPs E ts ps.toList).bind fun ps => aBuildSlice E t len ps
  | .makeMap _ none => some aMakeMap
  | .makeSlice t l c => (evalO E ts l).bind fun l => (evalO E ts c).bind fun c => aMakeSlice E t l c
  | _ => none
def outVH (x : Option (AV × AHeap)) : Option AOut := x.bind fun p => some (.val p.1 p.2)
def outH (x : Option AHeap) : Option AOut := x.bind fun H => some (.val .undef H)
def aEffBuiltin (E : Env) (H : AHeap) (b : Builtin) (argTypes : List TypeId) (args : List AV) : Option AOut :=
  match b, argTypes, args with
  | .append, [t, xt], [s, x] => outVH (aAppend E H t xt s x)
  | .copy, t :: _, [d, x] => outVH (aCopy E H t d x)
  | .clear, t :: _, [x] => outH (aClear E H t x)
  | .delete, t :: _, [m, k] => outH (aDelete E H t m k)
  | _, _, _ => none
def aEnter (f : AV) (vs : List AV) : Option AOut :=
  match f with
  | .fn f first captured => some (.enter f (first ++ vs ++ captured))
  | _ => none
/-- a text of bytes is turned into bytes: they are marked -/
def aMark (E : Env) (H : AHeap) (s d : TypeId) (x : AV) : Option (AV × AHeap) :=
  match x with
  | .sl b g off len lo ex es => bif Nat.beq s d then (E.ty d).bind fun a => match a.desc with
    | .slice e => (E.ty e).bind fun ae => match ae.desc with
      | .int .u8 => (aRow H b).bind fun r => bif r.1 then some (.sl b g off len lo ex es, H.set b (.row false r.2.1 r.2.2)) else none
      | _ => none
    | _ => none else none
  | x => (aConvert E s d x).bind fun v => some (v, H)
def aEff (E : Env) (ts : Ts) (H : AHeap) (op : Op) : Option AOut :=
  match op with
  | .store t x y => (evalO E ts x).bind fun p => (evalO E ts y).bind fun v => outH (aStore E H t p v)
  | .mapUpdate t m k v => (evalO E ts m).bind fun m => (evalO E ts k).bind fun k => (evalO E ts v).bind fun v => outH (aMapUpdate E H t m k v)
  | .insert t m k v => (evalO E ts m).bind fun m => (evalO E ts k).bind fun k => (evalO E ts v).bind fun v => outH (aMapUpdate E H t m k v)
  | .mapEntry t m k => (evalO E ts m).bind fun m => (evalO E ts k).bind fun k => outVH (aMapEntry E H t m k)
  | .convert s d x => (evalO E ts x).bind fun x => outVH (aMark E H s d x)
  | .call { callee := .builtin b, args := args, argTypes := argTypes } => (evalOs E ts args.toList).bind fun vs => aEffBuiltin E H b argTypes.toList vs
  | .call { callee := .value f, args := args, argTypes := _ } => (evalO E ts f).bind fun f => (evalOs E ts args.toList).bind fun vs => aEnter f vs
  | _ => none
end Go.AE
