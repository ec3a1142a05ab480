/- The abstract evaluator, part 10: a region that draws its order is right, whatever order is drawn. -/
import Derived.Test.YteabbkagekdehaaAe9
set_option linter.unusedVariables false
set_option linter.unusedSectionVars false
set_option linter.unusedSimpArgs false
namespace Go.AE
variable [Val]

/-! ### What an operation waits for -/
theorem maskOf_bit {acc : List Nat} {o : Oper} {k : Nat} (h : (maskOf acc o).testBit k = true) : ∃ e ∈ o.after, Region.binds .any e = true ∧ (e.on = k ∨ (acc.getD e.on 0).testBit k = true) := by
  have key : ∀ (l : List Edge) (s : Nat), (l.foldl (fun s e => bif Region.binds .any e then s ||| 2 ^ e.on ||| acc.getD e.on 0 else s) s).testBit k = true →
      s.testBit k = true ∨ ∃ e ∈ l, Region.binds .any e = true ∧ (e.on = k ∨ (acc.getD e.on 0).testBit k = true) := by
    intro l
    induction l with
    | nil => intro s h; exact .inl h
    | cons e l ih =>
      intro s h
      simp only [List.foldl_cons] at h
      rcases ih _ h with h1 | ⟨e', h1, h2⟩
      · cases hb : Region.binds .any e with
        | false => simp only [hb, cond_false] at h1; exact .inl h1
        | true =>
          simp only [hb, cond_true, Nat.testBit_or, Bool.or_eq_true] at h1
          rcases h1 with (h1 | h1) | h1
          · exact .inl h1
          · refine .inr ⟨e, by simp, hb, .inl ?_⟩
            rw [Nat.testBit_two_pow] at h1
            simpa using h1
          · exact .inr ⟨e, by simp, hb, .inr h1⟩
      · exact .inr ⟨e', by simp [h1], h2⟩
  rcases key o.after.toList 0 h with h1 | ⟨e, h1, h2⟩
  · simp at h1
  · exact ⟨e, by simpa using h1, h2⟩
theorem masks_pre : ∀ (l : List Oper) (acc : List Nat), acc.length ≤ (masks l acc).length ∧ ∀ j, j < acc.length → (masks l acc).getD j 0 = acc.getD j 0
  | [], acc => ⟨Nat.le_refl _, fun _ _ => rfl⟩
  | o :: l, acc => by
    obtain ⟨h1, h2⟩ := masks_pre l (acc ++ [maskOf acc o])
    simp only [masks]
    refine ⟨by simp at h1; omega, fun j hj => ?_⟩
    rw [h2 j (by simp; omega)]
    simp [List.getD_eq_getElem?_getD, List.getElem?_append_left hj]
theorem masks_get : ∀ (l : List Oper) (acc : List Nat) (q : Nat) (o : Oper), l[q]? = some o → ∃ pre : List Nat, pre.length = acc.length + q ∧ (∀ j, j < pre.length → (masks l acc).getD j 0 = pre.getD j 0) ∧ (masks l acc).getD (acc.length + q) 0 = maskOf pre o
  | [], acc, q, o, h => by simp at h
  | p :: l, acc, 0, o, h => by
    simp at h
    subst h
    obtain ⟨_, h2⟩ := masks_pre l (acc ++ [maskOf acc p])
    refine ⟨acc, rfl, fun j hj => (masks_pre (p :: l) acc).2 j hj, ?_⟩
    simp only [masks]
    rw [Nat.add_zero, h2 acc.length (by simp)]
    simp [List.getD_eq_getElem?_getD]
  | p :: l, acc, q + 1, o, h => by
    obtain ⟨pre, h1, h2, h3⟩ := masks_get l (acc ++ [maskOf acc p]) q o (by simpa using h)
    refine ⟨pre, by simp at h1; omega, fun j hj => by simp only [masks]; exact h2 j hj, ?_⟩
    simp only [masks]
    have : acc.length + (q + 1) = (acc ++ [maskOf acc p]).length + q := by simp; omega
    rw [this]; exact h3
theorem mask_bit {ops : Array Oper} {i k : Nat} {o : Oper} (ho : ops[i]? = some o) (h : ((masks ops.toList []).getD i 0).testBit k = true) :
    ∃ e ∈ o.after, Region.binds .any e = true ∧ (e.on = k ∨ (e.on < i ∧ ((masks ops.toList []).getD e.on 0).testBit k = true)) := by
  obtain ⟨pre, h1, h2, h3⟩ := masks_get ops.toList [] i o (by simpa using ho)
  simp only [List.length_nil, Nat.zero_add] at h1 h3
  rw [h3] at h
  obtain ⟨e, e1, e2, e3⟩ := maskOf_bit h
  refine ⟨e, e1, e2, e3.imp id fun e4 => ?_⟩
  by_cases hl : e.on < pre.length
  · exact ⟨by omega, by rw [h2 _ hl]; exact e4⟩
  · rw [List.getD_eq_getElem?_getD, List.getElem?_eq_none (by omega)] at e4
    simp at e4
def ClosedUnder (ops : Array Oper) (X : Nat → Prop) : Prop := ∀ (i : Nat) (o : Oper) (e : Edge), ops[i]? = some o → X i → e ∈ o.after → Region.binds .any e = true → X e.on
theorem mask_ready {ops : Array Oper} {X : Nat → Prop} (hX : ClosedUnder ops X) : ∀ (i : Nat) {o : Oper} {k : Nat}, ops[i]? = some o → (∀ e ∈ o.after, Region.binds .any e = true → X e.on) → ((masks ops.toList []).getD i 0).testBit k = true → X k := by
  intro i
  induction i using Nat.strongRecOn with
  | _ i ih =>
    intro o k ho hr h
    obtain ⟨e, e1, e2, e3⟩ := mask_bit ho h
    rcases e3 with rfl | ⟨e3, e4⟩
    · exact hr e e1 e2
    · have hon : e.on < ops.size := by have := (Array.getElem?_eq_some_iff.1 ho).1; omega
      exact ih e.on e3 (o := ops[e.on]) (Array.getElem?_eq_getElem hon) (fun e' h1 h2 => hX e.on _ e' (Array.getElem?_eq_getElem hon) (hr e e1 e2) h1 h2) e4
theorem mask_closed {ops : Array Oper} {X : Nat → Prop} (hX : ClosedUnder ops X) {i k : Nat} {o : Oper} (ho : ops[i]? = some o) (hi : X i) (h : ((masks ops.toList []).getD i 0).testBit k = true) : X k :=
  mask_ready hX i ho (fun e h1 h2 => hX i o e ho hi h1 h2) h

/-! ### Temporaries -/
def Agree (S : List Tmp) (ts ts' : Ts) : Prop := ts.n = ts'.n ∧ ∀ t ∈ S, ts.get t = ts'.get t
theorem Agree.refl (S : List Tmp) (ts : Ts) : Agree S ts ts := ⟨rfl, fun _ _ => rfl⟩
theorem Agree.symm {S : List Tmp} {a b : Ts} (h : Agree S a b) : Agree S b a := ⟨h.1.symm, fun t ht => (h.2 t ht).symm⟩
theorem Agree.trans {S : List Tmp} {a b c : Ts} (h : Agree S a b) (k : Agree S b c) : Agree S a c := ⟨h.1.trans k.1, fun t ht => (h.2 t ht).trans (k.2 t ht)⟩
theorem putA_len (ts : Ts) (d : Option Tmp) (v : AV) : (putA ts d v).n = ts.n := by cases d <;> simp [putA]
theorem Agree.put {S : List Tmp} {a b : Ts} (h : Agree S a b) (d : Option Tmp) (v : AV) : Agree S (putA a d v) (putA b d v) := by
  refine ⟨by rw [putA_len, putA_len]; exact h.1, fun t ht => ?_⟩
  cases d with
  | none => exact h.2 t ht
  | some d =>
    simp only [putA, Ts.get_set]
    by_cases hd : d = t
    · simp [hd, h.1]
    · simp [hd, h.2 t ht]
theorem Agree.put_left {S : List Tmp} (ts : Ts) (d : Option Tmp) (v : AV) (h : ∀ x, d = some x → x ∉ S) : Agree S (putA ts d v) ts := by
  refine ⟨putA_len _ _ _, fun t ht => ?_⟩
  cases d with
  | none => rfl
  | some d =>
    simp only [putA, Ts.get_set]
    have hd : d ≠ t := fun e => h d rfl (e ▸ ht)
    simp [hd]
theorem evalO_agree {E : Env} {S : List Tmp} {a b : Ts} (h : Agree S a b) {x : Operand} (hx : ∀ t, x = .tmp t → t ∈ S) : evalO E a x = evalO E b x := by
  cases x with
  | tmp t => simp only [evalO]; rw [h.2 t (hx t rfl)]
  | _ => rfl
theorem evalOs_agree {E : Env} {S : List Tmp} {a b : Ts} (h : Agree S a b) : ∀ {xs : List Operand}, (∀ x ∈ xs, ∀ t, x = .tmp t → t ∈ S) → evalOs E a xs = evalOs E b xs
  | [], _ => rfl
  | x :: xs, hx => by simp only [evalOs]; rw [evalO_agree h (hx x (by simp)), evalOs_agree h fun y hy => hx y (by simp [hy])]
theorem evalPs_agree {E : Env} {S : List Tmp} {a b : Ts} (h : Agree S a b) : ∀ {xs : List (Nat × Operand)}, (∀ x ∈ xs, ∀ t, x.2 = .tmp t → t ∈ S) → evalPs E a xs = evalPs E b xs
  | [], _ => rfl
  | (i, x) :: xs, hx => by simp only [evalPs]; rw [evalO_agree h (hx (i, x) (by simp)), evalPs_agree h fun y hy => hx y (by simp [hy])]
theorem evalM_agree {E : Env} {S : List Tmp} {a b : Ts} (h : Agree S a b) {x : Option Operand} (hx : ∀ y, x = some y → ∀ t, y = .tmp t → t ∈ S) : evalM E a x = evalM E b x := by
  cases x with
  | none => rfl
  | some y => simp only [evalM]; rw [evalO_agree h (hx y rfl)]
theorem looks_op {ops : Array Oper} {o : Oper} {x : Operand} (hx : x ∈ o.op.operands.toList) : ∀ t, x = .tmp t → t ∈ o.looksAt ops := by
  intro t ht
  subst ht
  exact List.mem_append_left _ (List.mem_filterMap.2 ⟨.tmp t, hx, rfl⟩)
theorem want_agree {ops : Array Oper} {o : Oper} {a b : Ts} (h : Agree (o.looksAt ops) a b) : wantA ops a o = wantA ops b o := by
  unfold wantA
  cases hg : o.guard with
  | none => rfl
  | some gw =>
    obtain ⟨j, want⟩ := gw
    simp only
    cases ht : guardTmp ops j with
    | none => rfl
    | some t =>
      have : t ∈ o.looksAt ops := by
        unfold Oper.looksAt
        rw [hg]
        simp only [guardTmp] at ht
        simp [ht]
      simp only
      rw [h.2 t this]
theorem pass_agree {E : Env} {ops : Array Oper} {o : Oper} {a b : Ts} (h : Agree (o.looksAt ops) a b) (H : AHeap) : aPass E a H o.op = aPass E b H o.op := by
  have q : ∀ x ∈ o.op.operands.toList, evalO E a x = evalO E b x := fun x hx => evalO_agree h (looks_op hx)
  cases hop : o.op <;> simp only [aPass] <;> rw [hop] at q <;> simp only [Op.operands] at q
  case move x => exact q x (by simp)
  case assign x => exact q x (by simp)
  case pick c x y => rw [q c (by simp), q x (by simp), q y (by simp)]
  case build t ps =>
    rw [evalPs_agree h fun x hx => looks_op (by rw [hop]; simp only [Op.operands]; simp; exact ⟨x.1, by simpa using hx⟩)]
  case load t x => rw [q x (by simp)]
  case nilCheck x => rw [q x (by simp)]
  case binOp op t x y yt => rw [q x (by simp), q y (by simp)]
  case unOp op t x => rw [q x (by simp)]
  case convert s d x => rw [q x (by simp)]
  case makeInterface t x => rw [q x (by simp)]
  case makeFunc fn first captured =>
    cases fn <;> simp only [aPass]
    rw [evalOs_agree h fun x hx => looks_op (by rw [hop]; simp only [Op.operands]; simp; exact .inl (by simpa using hx)), evalOs_agree h fun x hx => looks_op (by rw [hop]; simp only [Op.operands]; simp; exact .inr (by simpa using hx))]
  case slice t x lo hi mx =>
    rw [q x (by simp), evalM_agree h (x := lo) fun y hy => looks_op (by rw [hop]; simp only [Op.operands]; subst hy; simp), evalM_agree h (x := hi) fun y hy => looks_op (by rw [hop]; simp only [Op.operands]; subst hy; simp),
      evalM_agree h (x := mx) fun y hy => looks_op (by rw [hop]; simp only [Op.operands]; subst hy; simp)]
  case fieldAddr s x f => rw [q x (by simp)]
  case field s x f => rw [q x (by simp)]
  case indexAddr t x i => rw [q x (by simp), q i (by simp)]
  case index t x i => rw [q x (by simp), q i (by simp)]
  case lookup t x i ok => rw [q x (by simp), q i (by simp)]
  case extract x i => rw [q x (by simp)]
  case call c =>
    obtain ⟨callee, args, argTypes⟩ := c
    cases callee <;> simp only [aPass]
    rw [evalOs_agree h fun x hx => looks_op (by rw [hop]; simp only [Op.operands, Call.operands]; simp; simpa using hx)]
theorem new_agree {E : Env} {ops : Array Oper} {o : Oper} {a b : Ts} (h : Agree (o.looksAt ops) a b) : aNewO E a o.op = aNewO E b o.op := by
  have q : ∀ x ∈ o.op.operands.toList, evalO E a x = evalO E b x := fun x hx => evalO_agree h (looks_op hx)
  cases hop : o.op <;> simp only [aNewO] <;> rw [hop] at q <;> simp only [Op.operands] at q
  case box t x => rw [q x (by simp)]
  case buildSlice t n ps => rw [evalPs_agree h fun x hx => looks_op (by rw [hop]; simp only [Op.operands]; simp; exact ⟨x.1, by simpa using hx⟩)]
  case makeMap t r => cases r <;> rfl
  case makeSlice t l c => rw [q l (by simp), q c (by simp)]
theorem eff_agree {E : Env} {ops : Array Oper} {o : Oper} {a b : Ts} (h : Agree (o.looksAt ops) a b) (H : AHeap) : aEff E a H o.op = aEff E b H o.op := by
  have q : ∀ x ∈ o.op.operands.toList, evalO E a x = evalO E b x := fun x hx => evalO_agree h (looks_op hx)
  cases hop : o.op <;> simp only [aEff] <;> rw [hop] at q <;> simp only [Op.operands] at q
  case store t x y => rw [q x (by simp), q y (by simp)]
  case mapUpdate t m k v => rw [q m (by simp), q k (by simp), q v (by simp)]
  case insert t m k v => rw [q m (by simp), q k (by simp), q v (by simp)]
  case mapEntry t m k => rw [q m (by simp), q k (by simp)]
  case convert s d x => rw [q x (by simp)]
  case call c =>
    obtain ⟨callee, args, argTypes⟩ := c
    cases callee <;> simp only [aEff]
    case builtin b => rw [evalOs_agree h fun x hx => looks_op (by rw [hop]; simp only [Op.operands, Call.operands]; simp; simpa using hx)]
    case value f =>
      rw [q f (by simp [Call.operands]), evalOs_agree h fun x hx => looks_op (by rw [hop]; simp only [Op.operands, Call.operands]; simp; exact .inr (by simpa using hx))]
theorem pass_heap {E : Env} {ts : Ts} {op : Op} (h : heapDep op = false) (H H' : AHeap) : aPass E ts H op = aPass E ts H' op := by
  cases op <;> first
    | (cases h; done)
    | rfl
    | skip
  case makeFunc fn first captured => cases fn <;> rfl
  case binOp bop t x y yt =>
    simp only [aPass, aBin]
    cases bop <;> first
      | (cases h; done)
      | rfl
end Go.AE
