/- The abstract evaluator, part 10: a region that draws its order is right, whatever order is drawn. -/
import Derived.Test.YthhhpaeheccelaaGreatAeB
section
set_option linter.unusedVariables false
set_option linter.unusedSectionVars false
set_option linter.unusedSimpArgs false
namespace Go.AE
variable [Val]

/-! ### What an operation waits for -/
theorem maskOf_bit {acc : List Nat} {o : Oper} {k : Nat} (h : (maskOf acc o).testBit k = true) : ∃ e ∈ o.after, Region.binds .any e = true ∧ (e.on = k ∨ (acc.getD e.on 0).testBit k = true) := by
  have key : ∀ (l : List Edge) (s : Nat), (l.foldl (fun s e => bif Region.binds .any e then s ||| 2 ^ e.on ||| acc.getD e.on 0 else s) s).testBit k = true →
      s.testBit k = true ∨ ∃ e ∈ l, Region.binds .any e = true ∧ (e.on = k ∨ (acc.getD e.on 0).testBit k = true) := by
    intro l
    induction l with
    | nil => intro s h; exact .inl h
    | cons e l ih =>
      intro s h
      simp only [List.foldl_cons] at h
      rcases ih _ h with h1 | ⟨e', h1, h2⟩
      · cases hb : Region.binds .any e with
        | false => simp only [hb, cond_false] at h1; exact .inl h1
        | true =>
          simp only [hb, cond_true, Nat.testBit_or, Bool.or_eq_true] at h1
          rcases h1 with (h1 | h1) | h1
          · exact .inl h1
          · refine .inr ⟨e, by simp, hb, .inl ?_⟩
            rw [Nat.testBit_two_pow] at h1
            simpa using h1
          · exact .inr ⟨e, by simp, hb, .inr h1⟩
      · exact .inr ⟨e', by simp [h1], h2⟩
  rcases key o.after.toList 0 h with h1 | ⟨e, h1, h2⟩
  · simp at h1
  · exact ⟨e, by simpa using h1, h2⟩
theorem masks_pre : ∀ (l : List Oper) (acc : List Nat), acc.length ≤ (masks l acc).length ∧ ∀ j, j < acc.length → (masks l acc).getD j 0 = acc.getD j 0
  | [], acc => ⟨Nat.le_refl _, fun _ _ => rfl⟩
  | o :: l, acc => by
    obtain ⟨h1, h2⟩ := masks_pre l (acc ++ [maskOf acc o])
    simp only [masks]
    refine ⟨by simp at h1; omega, fun j hj => ?_⟩
    rw [h2 j (by simp; omega)]
    simp [List.getD_eq_getElem?_getD, List.getElem?_append_left hj]
theorem masks_get : ∀ (l : List Oper) (acc : List Nat) (q : Nat) (o : Oper), l[q]? = some o → ∃ pre : List Nat, pre.length = acc.length + q ∧ (∀ j, j < pre.length → (masks l acc).getD j 0 = pre.getD j 0) ∧ (masks l acc).getD (acc.length + q) 0 = maskOf pre o
  | [], acc, q, o, h => by simp at h
  | p :: l, acc, 0, o, h => by
    simp at h
    subst h
    obtain ⟨_, h2⟩ := masks_pre l (acc ++ [maskOf acc p])
    refine ⟨acc, rfl, fun j hj => (masks_pre (p :: l) acc).2 j hj, ?_⟩
    simp only [masks]
    rw [Nat.add_zero, h2 acc.length (by simp)]
    simp [List.getD_eq_getElem?_getD]
  | p :: l, acc, q + 1, o, h => by
    obtain ⟨pre, h1, h2, h3⟩ := masks_get l (acc ++ [maskOf acc p]) q o (by simpa using h)
    refine ⟨pre, by simp at h1; omega, fun j hj => by simp only [masks]; exact h2 j hj, ?_⟩
    simp only [masks]
    have : acc.length + (q + 1) = (acc ++ [maskOf acc p]).length + q := by simp; omega
    rw [this]; exact h3
theorem mask_bit {ops : Array Oper} {i k : Nat} {o : Oper} (ho : ops[i]? = some o) (h : ((masks ops.toList []).getD i 0).testBit k = true) :
    ∃ e ∈ o.after, Region.binds .any e = true ∧ (e.on = k ∨ (e.on < i ∧ ((masks ops.toList []).getD e.on 0).testBit k = true)) := by
  obtain ⟨pre, h1, h2, h3⟩ := masks_get ops.toList [] i o (by simpa using ho)
  simp only [List.length_nil, Nat.zero_add] at h1 h3
  rw [h3] at h
  obtain ⟨e, e1, e2, e3⟩ := maskOf_bit h
  refine ⟨e, e1, e2, e3.imp id fun e4 => ?_⟩
  by_cases hl : e.on < pre.length
  · exact ⟨by omega, by rw [h2 _ hl]; exact e4⟩
  · rw [List.getD_eq_getElem?_getD, List.getElem?_eq_none (by omega)] at e4
    simp at e4
def ClosedUnder (ops : Array Oper) (X : Nat → Prop) : Prop := ∀ (i : Nat) (o : Oper) (e : Edge), ops[i]? = some o → X i → e ∈ o.after → Region.binds .any e = true → X e.on
theorem mask_ready {ops : Array Oper} {X : Nat → Prop} (hX : ClosedUnder ops X) : ∀ (i : Nat) {o : Oper} {k : Nat}, ops[i]? = some o → (∀ e ∈ o.after, Region.binds .any e = true → X e.on) → ((masks ops.toList []).getD i 0).testBit k = true → X k := by
  intro i
  induction i using Nat.strongRecOn with
  | _ i ih =>
    intro o k ho hr h
    obtain ⟨e, e1, e2, e3⟩ := mask_bit ho h
    rcases e3 with rfl | ⟨e3, e4⟩
    · exact hr e e1 e2
    · have hon : e.on < ops.size := by have := (Array.getElem?_eq_some_iff.1 ho).1; omega
      exact ih e.on e3 (o := ops[e.on]) (Array.getElem?_eq_getElem hon) (fun e' h1 h2 => hX e.on _ e' (Array.getElem?_eq_getElem hon) (hr e e1 e2) h1 h2) e4
theorem mask_closed {ops : Array Oper} {X : Nat → Prop} (hX : ClosedUnder ops X) {i k : Nat} {o : Oper} (ho : ops[i]? = some o) (hi : X i) (h : ((masks ops.toList []).getD i 0).testBit k = true) : X k :=
  mask_ready hX i ho (fun e h1 h2 => hX i o e ho hi h1 h2) h

/-! ### Temporaries -/
def Agree (S : List Tmp) (ts ts' : Ts) : Prop := ts.n = ts'.n ∧ ∀ t ∈ S, ts.get t = ts'.get t
theorem Agree.refl (S : List Tmp) (ts : Ts) : Agree S ts ts := ⟨rfl, fun _ _ => rfl⟩
theorem Agree.symm {S : List Tmp} {a b : Ts} (h : Agree S a b) : Agree S b a := ⟨h.1.symm, fun t ht => (h.2 t ht).symm⟩
theorem Agree.trans {S : List Tmp} {a b c : Ts} (h : Agree S a b) (k : Agree S b c) : Agree S a c := ⟨h.1.trans k.1, fun t ht => (h.2 t ht).trans (k.2 t ht)⟩
theorem putA_len (ts : Ts) (d : Option Tmp) (v : AV) : (putA ts d v).n = ts.n := by cases d <;> simp [putA]
theorem Agree.put {S : List Tmp} {a b : Ts} (h : Agree S a b) (d : Option Tmp) (v : AV) : Agree S (putA a d v) (putA b d v) := by
  refine ⟨by rw [putA_len, putA_len]; exact h.1, fun t ht => ?_⟩
  cases d with
  | none => exact h.2 t ht
  | some d =>
    simp only [putA, Ts.get_set]
    by_cases hd : d = t
    · simp [hd, h.1]
    · simp [hd, h.2 t ht]
theorem Agree.put_left {S : List Tmp} (ts : Ts) (d : Option Tmp) (v : AV) (h : ∀ x, d = some x → x ∉ S) : Agree S (putA ts d v) ts := by
  refine ⟨putA_len _ _ _, fun t ht => ?_⟩
  cases d with
  | none => rfl
  | some d =>
    simp only [putA, Ts.get_set]
    have hd : d ≠ t := fun e => h d rfl (e ▸ ht)
    simp [hd]
theorem evalO_agree {E : Env} {S : List Tmp} {a b : Ts} (h : Agree S a b) {x : Operand} (hx : ∀ t, x = .tmp t → t ∈ S) : evalO E a x = evalO E b x := by
  cases x with
  | tmp t => simp only [evalO]; rw [h.2 t (hx t rfl)]
  | _ => rfl
theorem evalOs_agree {E : Env} {S : List Tmp} {a b : Ts} (h : Agree S a b) : ∀ {xs : List Operand}, (∀ x ∈ xs, ∀ t, x = .tmp t → t ∈ S) → evalOs E a xs = evalOs E b xs
  | [], _ => rfl
  | x :: xs, hx => by simp only [evalOs]; rw [evalO_agree h (hx x (by simp)), evalOs_agree h fun y hy => hx y (by simp [hy])]
theorem evalPs_agree {E : Env} {S : List Tmp} {a b : Ts} (h : Agree S a b) : ∀ {xs : List (Nat × Operand)}, (∀ x ∈ xs, ∀ t, x.2 = .tmp t → t ∈ S) → evalPs E a xs = evalPs E b xs
  | [], _ => rfl
  | (i, x) :: xs, hx => by simp only [evalPs]; rw [evalO_agree h (hx (i, x) (by simp)), evalPs_agree h fun y hy => hx y (by simp [hy])]
theorem evalM_agree {E : Env} {S : List Tmp} {a b : Ts} (h : Agree S a b) {x : Option Operand} (hx : ∀ y, x = some y → ∀ t, y = .tmp t → t ∈ S) : evalM E a x = evalM E b x := by
  cases x with
  | none => rfl
  | some y => simp only [evalM]; rw [evalO_agree h (hx y rfl)]
theorem looks_op {ops : Array Oper} {o : Oper} {x : Operand} (hx : x ∈ o.op.operands.toList) : ∀ t, x = .tmp t → t ∈ o.looksAt ops := by
  intro t ht
  subst ht
  exact List.mem_append_left _ (List.mem_filterMap.2 ⟨.tmp t, hx, rfl⟩)
theorem want_agree {ops : Array Oper} {o : Oper} {a b : Ts} (h : Agree (o.looksAt ops) a b) : wantA ops a o = wantA ops b o := by
  unfold wantA
  cases hg : o.guard with
  | none => rfl
  | some gw =>
    obtain ⟨j, want⟩ := gw
    simp only
    cases ht : guardTmp ops j with
    | none => rfl
    | some t =>
      have : t ∈ o.looksAt ops := by
        unfold Oper.looksAt
        rw [hg]
        simp only [guardTmp] at ht
        simp [ht]
      simp only
      rw [h.2 t this]
theorem pass_agree {E : Env} {ops : Array Oper} {o : Oper} {a b : Ts} (h : Agree (o.looksAt ops) a b) (H : AHeap) : aPass E a H o.op = aPass E b H o.op := by
  have q : ∀ x ∈ o.op.operands.toList, evalO E a x = evalO E b x := fun x hx => evalO_agree h (looks_op hx)
  cases hop : o.op <;> simp only [aPass_eq, aPassE] <;> rw [hop] at q <;> simp only [Op.operands] at q
  case move x => exact q x (by simp)
  case assign x => exact q x (by simp)
  case pick c x y => rw [q c (by simp), q x (by simp), q y (by simp)]
  case build t ps =>
    rw [evalPs_agree h fun x hx => looks_op (by rw [hop]; simp only [Op.operands]; simp; exact ⟨x.1, by simpa using hx⟩)]
  case load t x => rw [q x (by simp)]
  case nilCheck x => rw [q x (by simp)]
  case binOp op t x y yt => rw [q x (by simp), q y (by simp)]
  case unOp op t x => rw [q x (by simp)]
  case convert s d x => rw [q x (by simp)]
  case makeInterface t x => rw [q x (by simp)]
  case makeFunc fn first captured =>
    cases fn <;> simp only [aPass_eq, aPassE]
    rw [evalOs_agree h fun x hx => looks_op (by rw [hop]; simp only [Op.operands]; simp; exact .inl (by simpa using hx)), evalOs_agree h fun x hx => looks_op (by rw [hop]; simp only [Op.operands]; simp; exact .inr (by simpa using hx))]
  case slice t x lo hi mx =>
    rw [q x (by simp), evalM_agree h (x := lo) fun y hy => looks_op (by rw [hop]; simp only [Op.operands]; subst hy; simp), evalM_agree h (x := hi) fun y hy => looks_op (by rw [hop]; simp only [Op.operands]; subst hy; simp),
      evalM_agree h (x := mx) fun y hy => looks_op (by rw [hop]; simp only [Op.operands]; subst hy; simp)]
  case fieldAddr s x f => rw [q x (by simp)]
  case field s x f => rw [q x (by simp)]
  case indexAddr t x i => rw [q x (by simp), q i (by simp)]
  case index t x i => rw [q x (by simp), q i (by simp)]
  case lookup t x i ok => rw [q x (by simp), q i (by simp)]
  case extract x i => rw [q x (by simp)]
  case call c =>
    obtain ⟨callee, args, argTypes⟩ := c
    cases callee <;> simp only [aPass_eq, aPassE]
    rw [evalOs_agree h fun x hx => looks_op (by rw [hop]; simp only [Op.operands, Call.operands]; simp; simpa using hx)]
theorem new_agree {E : Env} {ops : Array Oper} {o : Oper} {a b : Ts} (h : Agree (o.looksAt ops) a b) : aNewO E a o.op = aNewO E b o.op := by
  have q : ∀ x ∈ o.op.operands.toList, evalO E a x = evalO E b x := fun x hx => evalO_agree h (looks_op hx)
  cases hop : o.op <;> simp only [aNewO] <;> rw [hop] at q <;> simp only [Op.operands] at q
  case box t x => rw [q x (by simp)]
  case buildSlice t n ps => rw [evalPs_agree h fun x hx => looks_op (by rw [hop]; simp only [Op.operands]; simp; exact ⟨x.1, by simpa using hx⟩)]
  case makeMap t r => cases r <;> rfl
  case makeSlice t l c => rw [q l (by simp), q c (by simp)]
theorem eff_agree {E : Env} {ops : Array Oper} {o : Oper} {a b : Ts} (h : Agree (o.looksAt ops) a b) (H : AHeap) : aEff E a H o.op = aEff E b H o.op := by
  have q : ∀ x ∈ o.op.operands.toList, evalO E a x = evalO E b x := fun x hx => evalO_agree h (looks_op hx)
  cases hop : o.op <;> simp only [aEff_eq, aEffE] <;> rw [hop] at q <;> simp only [Op.operands] at q
  case store t x y => rw [q x (by simp), q y (by simp)]
  case mapUpdate t m k v => rw [q m (by simp), q k (by simp), q v (by simp)]
  case insert t m k v => rw [q m (by simp), q k (by simp), q v (by simp)]
  case mapEntry t m k => rw [q m (by simp), q k (by simp)]
  case convert s d x => rw [q x (by simp)]
  case range t x => rw [q x (by simp)]
  case entry x => rw [q x (by simp)]
  case next x isString => cases isString <;> simp only [] <;> rw [q x (by simp)]
  case call c =>
    obtain ⟨callee, args, argTypes⟩ := c
    cases callee <;> simp only [aEff_eq, aEffE]
    case builtin b => rw [evalOs_agree h fun x hx => looks_op (by rw [hop]; simp only [Op.operands, Call.operands]; simp; simpa using hx)]
    case value f =>
      rw [q f (by simp [Call.operands]), evalOs_agree h fun x hx => looks_op (by rw [hop]; simp only [Op.operands, Call.operands]; simp; exact .inr (by simpa using hx))]
theorem pass_heap {E : Env} {ts : Ts} {op : Op} (h : heapDep op = false) (H H' : AHeap) : aPass E ts H op = aPass E ts H' op := by
  cases op <;> first
    | (cases h; done)
    | rfl
    | skip
  case makeFunc fn first captured => cases fn <;> rfl
  case binOp bop t x y yt =>
    simp only [aPass_eq, aPassE, aBin_eq, aBinO]
    cases bop <;> first
      | (cases h; done)
      | rfl
end Go.AE
end
section
/- The abstract evaluator, part 11: whatever order a region draws. -/
set_option linter.unusedVariables false
set_option linter.unusedSectionVars false
set_option linter.unusedSimpArgs false
namespace Go.AE
noncomputable section
variable [Val]
mutual
theorem AV.beq_refl : ∀ (a : AV), AV.beq a a = true
  | .bool _ | .int _ _ | .sym _ _ | .opq _ | .sptr .. | .str _ | .ptr _ _ _ | .nilPtr | .sl .. | .nilSl | .map _ | .nilMap | .nilFn | .nilIface => by simp [AV.beq]
  | .fn f a b => by simp [AV.beq, AV.beqs_refl a, AV.beqs_refl b]
  | .iface t v => by simp [AV.beq, AV.beq_refl v]
  | .agg a => by simp [AV.beq, AV.beqs_refl a]
  | .tup a => by simp [AV.beq, AV.beqs_refl a]
theorem AV.beqs_refl : ∀ (a : List AV), AV.beqs a a = true
  | [] => rfl
  | a :: x => by simp [AV.beqs, AV.beq_refl a, AV.beqs_refl x]
end
abbrev Item := Nat × Nat × Oper
abbrev Early := Nat → Option AV
abbrev Hist := List (Nat × AHeap)
section
variable {P : Program} {E : Env} (hE : EnvOK P E) {call : ACall} (hC : CallOK P E call) {ops : Array Oper} {A0 : AHeap} {fin : Ts × AHeap}

def stepI (E : Env) (call : ACall) (ops : Array Oper) (A0 : AHeap) (it : Item) (hist : Hist) (ts : Ts) (H : AHeap) : Option (AV × Hist × AHeap) :=
  match wantA ops ts it.2.2 with
  | true => match opKind it.2.2.op with
    | .pass => (aPass E ts (lastH hist A0) it.2.2.op).bind fun v => bif !heapDep it.2.2.op || chkPast E ts it.2.2.op v it.2.1 hist A0 then some (v, hist, H) else none
    | .new => (stepNew H (aNewO E ts it.2.2.op)).bind fun p => some (p.1, hist, p.2)
    | .eff => (stepEff call H (aEff E ts H it.2.2.op)).bind fun p => some (p.1, (it.1, p.2) :: hist, p.2)
  | false => match opKind it.2.2.op with
    | .eff => some (.undef, (it.1, H) :: hist, H)
    | _ => some (.undef, hist, H)
theorem runPlan_cons (it : Item) (r : List Item) (hist : Hist) (ts : Ts) (H : AHeap) :
    runPlan E call ops A0 (it :: r) hist ts H = (stepI E call ops A0 it hist ts H).bind fun x => runPlan E call ops A0 r x.2.1 (putA ts it.2.2.dst x.1) x.2.2 := by
  obtain ⟨i, m, o⟩ := it
  simp only [runPlan, stepI]
  cases wantA ops ts o with
  | true =>
    simp only
    cases opKind o.op with
    | pass =>
      simp only
      cases aPass E ts (lastH hist A0) o.op with
      | none => rfl
      | some v => simp only [Option.bind_some]; cases (!heapDep o.op || chkPast E ts o.op v m hist A0) <;> rfl
    | new => simp only; cases stepNew H (aNewO E ts o.op) <;> rfl
    | eff => simp only; cases stepEff call H (aEff E ts H o.op) <;> rfl
  | false => simp only; cases opKind o.op <;> rfl
include hC in
theorem stepI_n {it : Item} {hist : Hist} {ts : Ts} {H : AHeap} {v : AV} {hist' : Hist} {H' : AHeap} (h : stepI E call ops A0 it hist ts H = some (v, hist', H')) : H.n ≤ H'.n := by
  unfold stepI at h
  split at h
  · split at h
    · simp only [Option.bind_eq_some_iff] at h
      obtain ⟨u, _, h2⟩ := h
      cases hc : (!heapDep it.2.2.op || chkPast E ts it.2.2.op u it.2.1 hist A0) with
      | false => simp [hc] at h2
      | true => simp only [hc, cond_true, Option.some.injEq, Prod.mk.injEq] at h2; obtain ⟨_, _, rfl⟩ := h2; exact Nat.le_refl _
    · simp only [Option.bind_eq_some_iff, stepNew, Option.some.injEq, Prod.mk.injEq] at h
      obtain ⟨p, ⟨q, _, rfl⟩, _, _, rfl⟩ := h
      simp
    · rename_i hk
      simp only [Option.bind_eq_some_iff, Option.some.injEq, Prod.mk.injEq] at h
      obtain ⟨p, h1, _, _, rfl⟩ := h
      refine stepOp_n hC (E := E) (ts := ts) (op := it.2.2.op) (v := p.1) ?_
      unfold stepOp; rw [hk]; exact h1
  · split at h <;> (simp only [Option.some.injEq, Prod.mk.injEq] at h; obtain ⟨_, _, rfl⟩ := h; exact Nat.le_refl _)

def ovl (early : Early) : List Item → Ts → Ts
  | [], ts => ts
  | it :: r, ts => ovl early r (match early it.1 with | some x => putA ts it.2.2.dst x | none => ts)
def Can (E : Env) (call : ACall) (ops : Array Oper) (A0 : AHeap) (fin : Ts × AHeap) (early : Early) : List Item → Hist → Ts → AHeap → Prop
  | [], _, ts, H => (ts, H) = fin
  | it :: r, hist, ts, H => ∃ v hist' H', stepI E call ops A0 it hist ts H = some (v, hist', H') ∧ (∀ x, early it.1 = some x → x = v) ∧ Can E call ops A0 fin early r hist' (putA ts it.2.2.dst v) H'
def Fr (E : Env) (call : ACall) (ops : Array Oper) (A0 : AHeap) (μ : Mu) (w : World) (early : Early) : List Item → Hist → Ts → AHeap → Prop
  | [], _, _, _ => True
  | it :: r, hist, ts, H => ∀ v hist' H', stepI E call ops A0 it hist ts H = some (v, hist', H') →
      (early it.1 = none → Fresh μ H.n H'.n) ∧
      (∀ x, early it.1 = some x → ∀ B, H' = H.push B → ∃ c sz ob, μ H.n 0 = some (c, sz) ∧ (∀ g, g ≠ 0 → μ H.n g = none) ∧ w.heap[c]? = some ob ∧ BlkR μ B 0 sz ob) ∧
      Fr E call ops A0 μ w early r hist' (putA ts it.2.2.dst v) H'
theorem can_of_run : ∀ {L : List Item} {hist : Hist} {ts : Ts} {H : AHeap}, runPlan E call ops A0 L hist ts H = some fin → Can E call ops A0 fin (fun _ => none) L hist ts H
  | [], hist, ts, H, h => by simpa [runPlan, Can] using h
  | it :: r, hist, ts, H, h => by
    rw [runPlan_cons, Option.bind_eq_some_iff] at h
    obtain ⟨⟨v, hist', H'⟩, h1, h2⟩ := h
    exact ⟨v, hist', H', h1, by simp, can_of_run h2⟩
include hC in
theorem can_n : ∀ {L : List Item} {early : Early} {hist : Hist} {ts : Ts} {H : AHeap}, Can E call ops A0 fin early L hist ts H → H.n ≤ fin.2.n
  | [], _, _, _, _, h => by simp only [Can] at h; rw [← h]; exact Nat.le_refl _
  | it :: r, _, _, _, _, ⟨v, hist', H', h1, _, h3⟩ => Nat.le_trans (stepI_n hC h1) (can_n h3)
include hC in
theorem fr_of_fresh : ∀ {L : List Item} {hist : Hist} {ts : Ts} {H : AHeap} {μ : Mu} {w : World}, Can E call ops A0 fin (fun _ => none) L hist ts H → Fresh μ H.n fin.2.n → Fr E call ops A0 μ w (fun _ => none) L hist ts H
  | [], _, _, _, _, _, _, _ => trivial
  | it :: r, _, _, _, _, _, ⟨v, hist', H', h1, _, h3⟩, hf => by
    intro v2 hist2 H2 h2
    rw [h1] at h2; cases h2
    have n1 := stepI_n hC h1
    have n2 := can_n hC h3
    exact ⟨fun _ => hf.sub (Nat.le_refl _) n2, fun x hx => by simp at hx, fr_of_fresh h3 (hf.sub n1 (Nat.le_refl _))⟩

def runPre (E : Env) (call : ACall) (ops : Array Oper) (A0 : AHeap) : List Item → Hist → Ts → AHeap → Option (Hist × Ts × AHeap)
  | [], hist, ts, H => some (hist, ts, H)
  | it :: r, hist, ts, H => (stepI E call ops A0 it hist ts H).bind fun x => runPre E call ops A0 r x.2.1 (putA ts it.2.2.dst x.1) x.2.2
theorem can_split : ∀ {L1 L2 : List Item} {early : Early} {hist : Hist} {ts : Ts} {H : AHeap}, Can E call ops A0 fin early (L1 ++ L2) hist ts H → ∃ hi ti Hi, runPre E call ops A0 L1 hist ts H = some (hi, ti, Hi) ∧ Can E call ops A0 fin early L2 hi ti Hi
  | [], _, _, hist, ts, H, h => ⟨hist, ts, H, rfl, h⟩
  | it :: r, L2, early, hist, ts, H, ⟨v, hist', H', h1, _, h3⟩ => by
    obtain ⟨hi, ti, Hi, e1, e2⟩ := can_split h3
    exact ⟨hi, ti, Hi, by simp only [runPre, h1, Option.bind_some]; exact e1, e2⟩
include hC in
theorem runPre_n : ∀ {L1 : List Item} {hist : Hist} {ts : Ts} {H : AHeap} {hi : Hist} {ti : Ts} {Hi : AHeap}, runPre E call ops A0 L1 hist ts H = some (hi, ti, Hi) → H.n ≤ Hi.n
  | [], _, _, _, _, _, _, h => by simp only [runPre, Option.some.injEq, Prod.mk.injEq] at h; obtain ⟨_, _, rfl⟩ := h; exact Nat.le_refl _
  | it :: r, _, _, _, _, _, _, h => by
    simp only [runPre, Option.bind_eq_some_iff] at h
    obtain ⟨⟨v, hist', H'⟩, h1, h2⟩ := h
    exact Nat.le_trans (stepI_n hC h1) (runPre_n h2)
theorem ovl_agree {S : List Tmp} {early : Early} : ∀ {L : List Item} {a b : Ts}, Agree S a b → Agree S (ovl early L a) (ovl early L b)
  | [], _, _, h => h
  | it :: r, a, b, h => by
    simp only [ovl]
    refine ovl_agree ?_
    cases early it.1 with
    | none => exact h
    | some x => exact h.put _ _
theorem ovl_skip {S : List Tmp} {early : Early} : ∀ {L : List Item} {a : Ts}, (∀ k ∈ L, early k.1 ≠ none → ∀ d, k.2.2.dst = some d → d ∉ S) → Agree S (ovl early L a) a
  | [], _, _ => Agree.refl _ _
  | it :: r, a, h => by
    simp only [ovl]
    refine (ovl_skip fun k hk => h k (by simp [hk])).trans ?_
    cases he : early it.1 with
    | none => exact Agree.refl _ _
    | some x => exact Agree.put_left _ _ _ (h it (by simp) (by simp [he]))
theorem ovl_len {early : Early} : ∀ {L : List Item} {a : Ts}, (ovl early L a).n = a.n
  | [], _ => rfl
  | it :: r, a => by
    simp only [ovl]
    rw [ovl_len]
    cases early it.1 with
    | none => rfl
    | some x => exact putA_len _ _ _
/-- what an operation further on sees of the temporaries -/
theorem pre_agree {S : List Tmp} : ∀ {L1 L2 : List Item} {early : Early} {hist : Hist} {ts : Ts} {H : AHeap} {hi : Hist} {ti : Ts} {Hi : AHeap}, Can E call ops A0 fin early (L1 ++ L2) hist ts H →
    runPre E call ops A0 L1 hist ts H = some (hi, ti, Hi) → (∀ k ∈ L1, early k.1 = none → ∀ d, k.2.2.dst = some d → d ∉ S) → (∀ k ∈ L2, early k.1 ≠ none → ∀ d, k.2.2.dst = some d → d ∉ S) → Agree S (ovl early (L1 ++ L2) ts) ti
  | [], L2, early, hist, ts, H, hi, ti, Hi, _, h, _, h2 => by
    simp only [runPre, Option.some.injEq, Prod.mk.injEq] at h
    obtain ⟨_, rfl, _⟩ := h
    exact ovl_skip h2
  | it :: r, L2, early, hist, ts, H, hi, ti, Hi, ⟨v, hist', H', h1, hv, h3⟩, h, k1, k2 => by
    simp only [runPre, h1, Option.bind_some] at h
    have ih := pre_agree h3 h (fun k hk => k1 k (by simp [hk])) k2
    simp only [List.cons_append, ovl]
    refine Agree.trans (ovl_agree ?_) ih
    cases he : early it.1 with
    | some x => rw [hv x he]; exact Agree.refl _ _
    | none => exact (Agree.put_left _ _ _ (k1 it (by simp) he)).symm
theorem stepI_hist {it : Item} {hist : Hist} {ts : Ts} {H : AHeap} {v : AV} {hist' : Hist} {H' : AHeap} (h : stepI E call ops A0 it hist ts H = some (v, hist', H')) :
    (isEff it.2.2 = false ∧ hist' = hist) ∨ (isEff it.2.2 = true ∧ hist' = (it.1, H') :: hist) := by
  unfold stepI at h
  unfold isEff
  split at h
  · split at h
    · rename_i hk
      simp only [Option.bind_eq_some_iff] at h
      obtain ⟨u, _, h2⟩ := h
      cases hc : (!heapDep it.2.2.op || chkPast E ts it.2.2.op u it.2.1 hist A0) with
      | false => simp [hc] at h2
      | true => simp only [hc, cond_true, Option.some.injEq, Prod.mk.injEq] at h2; obtain ⟨_, rfl, _⟩ := h2; exact .inl ⟨by rw [hk], rfl⟩
    · rename_i hk
      simp only [Option.bind_eq_some_iff, Option.some.injEq, Prod.mk.injEq] at h
      obtain ⟨p, _, _, rfl, _⟩ := h
      exact .inl ⟨by rw [hk], rfl⟩
    · rename_i hk
      simp only [Option.bind_eq_some_iff, Option.some.injEq, Prod.mk.injEq] at h
      obtain ⟨p, _, _, rfl, rfl⟩ := h
      exact .inr ⟨by rw [hk], rfl⟩
  · split at h
    · rename_i hk
      simp only [Option.some.injEq, Prod.mk.injEq] at h
      obtain ⟨_, rfl, rfl⟩ := h
      exact .inr ⟨by rw [hk], rfl⟩
    · rename_i hk
      simp only [Option.some.injEq, Prod.mk.injEq] at h
      obtain ⟨_, rfl, _⟩ := h
      refine .inl ⟨?_, rfl⟩
      cases hkk : opKind it.2.2.op with
      | eff => exact absurd hkk hk
      | _ => rfl
theorem chk_back {X : Ts} {op : Op} {v : AV} {m : Nat} : ∀ {L1 : List Item} {hist : Hist} {ts : Ts} {H : AHeap} {hi : Hist} {ti : Ts} {Hi : AHeap}, runPre E call ops A0 L1 hist ts H = some (hi, ti, Hi) →
    (∀ k ∈ L1, isEff k.2.2 = true → m.testBit k.1 = false) → chk E X op v m hi A0 = true → chk E X op v m hist A0 = true
  | [], _, _, _, _, _, _, h, _, hc => by simp only [runPre, Option.some.injEq, Prod.mk.injEq] at h; obtain ⟨rfl, _, _⟩ := h; exact hc
  | it :: r, hist, ts, H, hi, ti, Hi, h, k1, hc => by
    simp only [runPre, Option.bind_eq_some_iff] at h
    obtain ⟨⟨v', hist', H'⟩, h1, h2⟩ := h
    have ih := chk_back h2 (fun k hk => k1 k (by simp [hk])) hc
    rcases stepI_hist h1 with ⟨_, rfl⟩ | ⟨he, rfl⟩
    · exact ih
    · simp only [chk, Bool.and_eq_true, Bool.or_eq_true] at ih
      rcases ih.2 with h3 | h3
      · rw [k1 it (by simp) he] at h3; cases h3
      · exact h3
theorem chk_last {X : Ts} {op : Op} {v : AV} {m : Nat} {hist : Hist} (h : chk E X op v m hist A0 = true) : aPass E X (lastH hist A0) op = some v := by
  cases hist with
  | nil =>
    simp only [chk] at h
    simp only [lastH]
    cases hp : aPass E X A0 op with
    | none => rw [hp] at h; cases h
    | some u => rw [hp] at h; rw [AV.eq_of_beq u v h]
  | cons e r =>
    obtain ⟨k, A⟩ := e
    simp only [chk, Bool.and_eq_true] at h
    simp only [lastH]
    cases hp : aPass E X A op with
    | none => rw [hp] at h; cases h.1
    | some u => rw [hp] at h; rw [AV.eq_of_beq u v h.1]
theorem chk_of_past {X : Ts} {op : Op} {v : AV} {m : Nat} {hist : Hist} (h : aPass E X (lastH hist A0) op = some v) (hp : chkPast E X op v m hist A0 = true) : chk E X op v m hist A0 = true := by
  cases hist with
  | nil => simp only [lastH] at h; simp only [chk, h, AV.beq_refl]
  | cons e r =>
    obtain ⟨k, A⟩ := e
    simp only [lastH] at h
    simp only [chkPast] at hp
    simp only [chk, h, AV.beq_refl, Bool.true_and]
    exact hp
def earlyUpd (early : Early) (i : Nat) (v : AV) : Early := fun j => if j = i then some v else early j
theorem can_cong {early early' : Early} : ∀ {L : List Item} {hist : Hist} {ts : Ts} {H : AHeap}, (∀ k ∈ L, early' k.1 = early k.1) → Can E call ops A0 fin early L hist ts H → Can E call ops A0 fin early' L hist ts H
  | [], _, _, _, _, h => h
  | it :: r, _, _, _, he, ⟨v, hist', H', h1, hv, h3⟩ => ⟨v, hist', H', h1, fun x hx => hv x (by rw [← he it (by simp)]; exact hx), can_cong (fun k hk => he k (by simp [hk])) h3⟩
theorem can_upd {it : Item} {v : AV} : ∀ {L1 L2 : List Item} {early : Early} {hist : Hist} {ts : Ts} {H : AHeap} {hi : Hist} {ti : Ts} {Hi : AHeap} {hi' : Hist} {Hi' : AHeap},
    Can E call ops A0 fin early (L1 ++ it :: L2) hist ts H → runPre E call ops A0 L1 hist ts H = some (hi, ti, Hi) → stepI E call ops A0 it hi ti Hi = some (v, hi', Hi') → (∀ k ∈ L1 ++ L2, k.1 ≠ it.1) →
    Can E call ops A0 fin (earlyUpd early it.1 v) (L1 ++ it :: L2) hist ts H
  | [], L2, early, hist, ts, H, hi, ti, Hi, hi', Hi', ⟨v', hist', H', h1, hv, h3⟩, h, hs, hn => by
    simp only [runPre, Option.some.injEq, Prod.mk.injEq] at h
    obtain ⟨rfl, rfl, rfl⟩ := h
    rw [h1] at hs; cases hs
    exact ⟨v, _, _, h1, fun x hx => by simp [earlyUpd] at hx; exact hx.symm, can_cong (fun k hk => by simp [earlyUpd, hn k (by simpa using hk)]) h3⟩
  | k :: r, L2, early, hist, ts, H, hi, ti, Hi, hi', Hi', ⟨v', hist', H', h1, hv, h3⟩, h, hs, hn => by
    simp only [runPre, h1, Option.bind_some] at h
    exact ⟨v', hist', H', h1, fun x hx => hv x (by simpa [earlyUpd, hn k (by simp)] using hx), can_upd h3 h hs (fun q hq => hn q (by simp at hq ⊢; exact .inr hq))⟩
include hC in
/-- conditions on where blocks lie stay, if what is ahead of H.n alone turns, and what is known of the world stays -/
theorem fr_change {early early' : Early} {μ μ' : Mu} {w w' : World} (hle : MuLe μ μ') : ∀ {L : List Item} {hist : Hist} {ts : Ts} {H : AHeap}, (∀ k ∈ L, early' k.1 = early k.1) → (∀ b g, H.n ≤ b → μ' b g = μ b g) →
    (∀ b g c sz ob, H.n ≤ b → μ b g = some (c, sz) → w.heap[c]? = some ob → w'.heap[c]? = some ob) → Fr E call ops A0 μ w early L hist ts H → Fr E call ops A0 μ' w' early' L hist ts H
  | [], _, _, _, _, _, _, _ => trivial
  | it :: r, hist, ts, H, he, hμ, hw, h => by
    intro v hist' H' h1
    obtain ⟨f1, f2, f3⟩ := h v hist' H' h1
    have n1 := stepI_n hC h1
    refine ⟨fun e b g b1 b2 => by rw [hμ b g b1]; exact f1 (by rw [← he it (by simp)]; exact e) b g b1 b2, fun x hx B hB => ?_,
      fr_change hle (fun k hk => he k (by simp [hk])) (fun b g hb => hμ b g (by omega)) (fun b g c sz ob hb => hw b g c sz ob (by omega)) f3⟩
    obtain ⟨c, sz, ob, g1, g2, g3, g4⟩ := f2 x (by rw [← he it (by simp)]; exact hx) B hB
    exact ⟨c, sz, ob, hle _ _ _ g1, fun g hg => by rw [hμ _ g (Nat.le_refl _)]; exact g2 g hg, hw _ _ c sz ob (Nat.le_refl _) g1 g3, g4.mono hle⟩
include hC in
theorem fr_upd {it : Item} {v : AV} {μ μ' : Mu} {w w' : World} (hle : MuLe μ μ') (hw : ∀ b g c sz ob, μ b g = some (c, sz) → w.heap[c]? = some ob → w'.heap[c]? = some ob) :
    ∀ {L1 L2 : List Item} {early : Early} {hist : Hist} {ts : Ts} {H : AHeap} {hi : Hist} {ti : Ts} {Hi : AHeap} {hi' : Hist} {Hi' : AHeap},
    runPre E call ops A0 L1 hist ts H = some (hi, ti, Hi) → stepI E call ops A0 it hi ti Hi = some (v, hi', Hi') → (∀ k ∈ L1 ++ L2, k.1 ≠ it.1) → (∀ b g, b ≠ Hi.n → μ' b g = μ b g) → (Hi'.n = Hi.n → ∀ b g, μ' b g = μ b g) →
    (∀ B, Hi' = Hi.push B → ∃ c sz ob, μ' Hi.n 0 = some (c, sz) ∧ (∀ g, g ≠ 0 → μ' Hi.n g = none) ∧ w'.heap[c]? = some ob ∧ BlkR μ' B 0 sz ob) →
    Fr E call ops A0 μ w early (L1 ++ it :: L2) hist ts H → Fr E call ops A0 μ' w' (earlyUpd early it.1 v) (L1 ++ it :: L2) hist ts H
  | [], L2, early, hist, ts, H, hi, ti, Hi, hi', Hi', h, hs, hn, hμ, hμ0, hB, hf => by
    simp only [runPre, Option.some.injEq, Prod.mk.injEq] at h
    obtain ⟨rfl, rfl, rfl⟩ := h
    intro v2 hist2 H2 h2
    obtain ⟨f1, f2, f3⟩ := hf v2 hist2 H2 h2
    rw [hs] at h2; cases h2
    have n1 := stepI_n hC hs
    refine ⟨fun e => by simp [earlyUpd] at e, fun x hx B hb => hB B hb, fr_change hC hle (fun k hk => by simp [earlyUpd, hn k (by simpa using hk)]) (fun b g hb => ?_) (fun b g c sz ob _ => hw b g c sz ob) f3⟩
    by_cases hne : b = H.n
    · exact hμ0 (by omega) b g
    · exact hμ b g hne
  | k :: r, L2, early, hist, ts, H, hi, ti, Hi, hi', Hi', h, hs, hn, hμ, hμ0, hB, hf => by
    simp only [runPre, Option.bind_eq_some_iff] at h
    obtain ⟨⟨v1, hist1, H1⟩, h1, h2⟩ := h
    intro v2 hist2 H2 h3
    obtain ⟨f1, f2, f3⟩ := hf v2 hist2 H2 h3
    rw [h1] at h3; cases h3
    have n1 := stepI_n hC h1
    have n2 : H1.n ≤ Hi.n := runPre_n hC h2
    have ek : earlyUpd early it.1 v k.1 = early k.1 := by simp [earlyUpd, hn k (by simp)]
    refine ⟨fun e b g b1 b2 => by rw [hμ b g (by omega)]; exact f1 (by rw [← ek]; exact e) b g b1 b2, fun x hx B hb => ?_, fr_upd hle hw h2 hs (fun q hq => hn q (by simp at hq ⊢; exact .inr hq)) hμ hμ0 hB f3⟩
    obtain ⟨c, sz, ob, g1, g2, g3, g4⟩ := f2 x (by rw [← ek]; exact hx) B hb
    have hne : H.n ≠ Hi.n := by rw [hb] at n2; simp at n2; omega
    exact ⟨c, sz, ob, hle _ _ _ g1, fun g hg => by rw [hμ _ g hne]; exact g2 g hg, hw _ _ _ _ _ g1 g3, g4.mono hle⟩
theorem ovl_cong {early early' : Early} : ∀ {L : List Item} {ts : Ts}, (∀ k ∈ L, early' k.1 = early k.1) → ovl early' L ts = ovl early L ts
  | [], _, _ => rfl
  | it :: r, ts, h => by simp only [ovl]; rw [h it (by simp), ovl_cong fun k hk => h k (by simp [hk])]
theorem putA_comm {ts : Ts} {d d' : Option Tmp} {v v' : AV} (h : ∀ x, d = some x → d' ≠ some x) : putA (putA ts d v) d' v' = putA (putA ts d' v') d v := by
  cases d with
  | none => rfl
  | some x =>
    cases d' with
    | none => rfl
    | some y =>
      simp only [putA]
      exact Ts.set_comm _ _ _ fun e => h x rfl (by rw [e])
theorem ovl_put {early : Early} {d : Option Tmp} {v : AV} : ∀ {L : List Item} {ts : Ts}, (∀ k ∈ L, early k.1 ≠ none → ∀ x, d = some x → k.2.2.dst ≠ some x) → ovl early L (putA ts d v) = putA (ovl early L ts) d v
  | [], _, _ => rfl
  | it :: r, ts, h => by
    simp only [ovl]
    cases he : early it.1 with
    | none => exact ovl_put fun k hk => h k (by simp [hk])
    | some x =>
      simp only
      rw [putA_comm (h it (by simp) (by simp [he]))]
      exact ovl_put fun k hk => h k (by simp [hk])
theorem ovl_upd {it : Item} {v : AV} : ∀ {L1 L2 : List Item} {early : Early} {ts : Ts}, early it.1 = none → (∀ k ∈ L1 ++ L2, k.1 ≠ it.1) → (∀ k ∈ L2, early k.1 ≠ none → ∀ x, it.2.2.dst = some x → k.2.2.dst ≠ some x) →
    ovl (earlyUpd early it.1 v) (L1 ++ it :: L2) ts = putA (ovl early (L1 ++ it :: L2) ts) it.2.2.dst v
  | [], L2, early, ts, h0, hn, h2 => by
    have e : earlyUpd early it.1 v it.1 = some v := by simp [earlyUpd]
    simp only [List.nil_append, ovl, h0, e]
    rw [ovl_cong (early := early) (early' := earlyUpd early it.1 v) fun k hk => by simp [earlyUpd, hn k (by simpa using hk)], ovl_put h2]
  | k :: r, L2, early, ts, h0, hn, h2 => by
    have e : earlyUpd early it.1 v k.1 = early k.1 := by simp [earlyUpd, hn k (by simp)]
    simp only [List.cons_append, ovl, e]
    exact ovl_upd h0 (fun q hq => hn q (by simp at hq ⊢; exact .inr hq)) h2
end
end
end Go.AE
end
section
/- The abstract evaluator, part 12: a region that draws its order is right, whatever order is drawn. -/
set_option linter.unusedVariables false
set_option linter.unusedSectionVars false
set_option linter.unusedSimpArgs false
namespace Go.AE
noncomputable section
variable [Val]
/-- the same heap, but room is kept for so many blocks -/
def pad (H : AHeap) (N : Nat) : AHeap := ⟨H.t, N⟩
theorem pad_self (H : AHeap) : pad H H.n = H := rfl
@[simp] theorem pad_n (H : AHeap) (N : Nat) : (pad H N).n = N := rfl
theorem pad_get {H : AHeap} {N b : Nat} (h : b < H.n) (hN : H.n ≤ N) : (pad H N).get b = H.get b := by
  rw [AHeap.get_of_lt h, AHeap.get_of_lt (show b < (pad H N).n by simp; omega)]; rfl
theorem pad_aWr {H : AHeap} {N b : Nat} (h : b < H.n) (hN : H.n ≤ N) : aWr (pad H N) b = aWr H b := by unfold aWr; rw [pad_get h hN]
def SubH (A B : AHeap) : Prop := ∀ b x, A.get b = some x → B.get b = some x
theorem SubH.refl (A : AHeap) : SubH A A := fun _ _ h => h
theorem SubH.push {A B : AHeap} (h : SubH A B) (x : ABlk) : SubH A (B.push x) := fun b y hy => by
  have h1 := h b y hy
  rw [AHeap.get_push, if_neg (by have := AHeap.get_lt h1; omega)]; exact h1
theorem Rel.sub {A B : AHeap} {μ : Mu} {w : World} (R : Rel B μ w) (h : SubH A B) : Rel A μ w := ⟨R.bound, R.inj, fun b x hb => R.blk b x (h b x hb)⟩
theorem Ext.padStep {A0 H H' : AHeap} {N : Nat} {μ0 μ μ' : Mu} {w0 w w' : World} (X : Ext A0 (pad H N) μ0 μ w0 w) (S : Ext H H' μ μ' w w') (h0 : A0.n ≤ H.n) (hN : H'.n ≤ N) : Ext A0 (pad H' N) μ0 μ' w0 w' where
  mono := X.mono.trans S.mono
  above b g hb := by simp at hb; rw [S.above b g (by omega), X.above b g (by simpa using hb)]
  fresh b g h1 h2 := X.fresh b g h1 (by simpa using h2)
  n := by have := X.n; simpa using this
  os := S.os.trans X.os
  tape := S.tape.trans X.tape
  output := S.output.trans X.output
  size := Nat.le_trans X.size S.size
  range b g c sz hm := by
    rcases S.range b g c sz hm with ⟨g', h1⟩ | h1
    · exact X.range b g' c sz h1
    · exact .inr (Nat.le_trans X.size h1)
  wr b hb h0' := by
    have n1 := S.n
    rw [pad_aWr (by omega) hN]
    refine S.wr b (by omega) ?_
    rw [← pad_aWr (N := N) (by omega) (by omega)]
    exact X.wr b hb h0'
  frame c hc hf := by
    have n1 := S.n
    rw [S.frame c (Nat.lt_of_lt_of_le hc X.size) fun b g sz hm hb => ?_, X.frame c hc hf]
    rcases X.range b g c sz hm with ⟨g', h1⟩ | h1
    · by_cases hbn : b < A0.n
      · rw [← pad_aWr (N := N) hb (by omega)]; exact X.wr b hbn (hf b g' sz h1 hbn)
      · have := X.fresh b g' (by omega) (by simp; omega)
        rw [h1] at this; cases this
    · omega
/-- no more is known of the abstract heap; the block lies there already -/
theorem Ext.padPush {A0 H : AHeap} {N : Nat} {μ0 μ : Mu} {w0 w : World} (X : Ext A0 (pad H N) μ0 μ w0 w) (B : ABlk) (h0 : A0.n ≤ H.n) (hN : H.n + 1 ≤ N) : Ext A0 (pad (H.push B) N) μ0 μ w0 w where
  mono := X.mono
  above b g hb := X.above b g hb
  fresh b g h1 h2 := X.fresh b g h1 h2
  n := X.n
  os := X.os
  tape := X.tape
  output := X.output
  size := X.size
  range := X.range
  wr b hb h0' := by
    have h1 := X.wr b hb h0'
    rw [pad_aWr (by omega) (by omega)] at h1
    rw [pad_aWr (by simp; omega) (by simpa using hN)]
    unfold aWr at h1 ⊢; rw [AHeap.get_push, if_neg (by omega)]; exact h1
  frame := X.frame
/-- a block that is to come is made already -/
theorem Ext.padEarly {A0 H : AHeap} {N : Nat} {μ0 μ : Mu} {w0 w : World} (X : Ext A0 (pad H N) μ0 μ w0 w) {b0 : Nat} {o : Obj} (hb0 : b0 < N) (hn : ∀ g, μ b0 g = none) :
    Ext A0 (pad H N) μ0 (upd μ b0 0 (w.heap.size, objSize o)) w0 (w.alloc o) where
  mono := X.mono.trans (MuLe.upd (hn 0))
  above b g hb := by simp at hb; rw [upd_other _ _ (by omega)]; exact X.above b g (by simpa using hb)
  fresh := X.fresh
  n := X.n
  os := X.os
  tape := X.tape
  output := X.output
  size := by have := X.size; simp; omega
  range b g c sz hm := by
    by_cases e : b = b0 ∧ g = 0
    · obtain ⟨rfl, rfl⟩ := e; rw [upd_same] at hm; cases hm; exact .inr X.size
    · rw [upd_other _ _ e] at hm; exact X.range b g c sz hm
  wr := X.wr
  frame c hc hf := by rw [heap_alloc_old w o c (Nat.lt_of_lt_of_le hc X.size)]; exact X.frame c hc hf
theorem Rel.early {H : AHeap} {μ : Mu} {w : World} (R : Rel H μ w) {b0 : Nat} {o : Obj} (hb0 : H.n ≤ b0) (hn : ∀ g, μ b0 g = none) : Rel H (upd μ b0 0 (w.heap.size, objSize o)) (w.alloc o) := by
  have hle : MuLe μ (Go.AE.upd μ b0 0 (w.heap.size, objSize o)) := MuLe.upd (hn 0)
  refine ⟨fun b g c sz h => ?_, fun b g c sz b' g' sz' h h' => ?_, fun b B' hb g c sz h => ?_⟩
  · by_cases e : b = b0 ∧ g = 0
    · obtain ⟨rfl, rfl⟩ := e; rw [upd_same] at h; cases h; simp
    · rw [upd_other _ _ e] at h; have := R.bound b g c sz h; simp; omega
  · by_cases e : b = b0 ∧ g = 0 <;> by_cases e' : b' = b0 ∧ g' = 0
    · exact e.1.trans e'.1.symm
    · obtain ⟨rfl, rfl⟩ := e; rw [upd_same] at h; cases h; rw [upd_other _ _ e'] at h'; have := R.bound _ _ _ _ h'; omega
    · obtain ⟨rfl, rfl⟩ := e'; rw [upd_same] at h'; cases h'; rw [upd_other _ _ e] at h; have := R.bound _ _ _ _ h; omega
    · rw [upd_other _ _ e] at h; rw [upd_other _ _ e'] at h'; exact R.inj _ _ _ _ _ _ _ h h'
  · have hlt := AHeap.get_lt hb
    rw [upd_other _ _ (by omega)] at h
    obtain ⟨o', h1, h2⟩ := R.blk b B' hb g c sz h
    exact ⟨o', by rw [heap_alloc_old w o c (R.bound _ _ _ _ h)]; exact h1, h2.mono hle⟩

def todo (early : Early) (L : List Item) : Nat := L.countP fun k => (early k.1).isNone
structure Inv (P : Program) (E : Env) (call : ACall) (ops : Array Oper) (A0 : AHeap) (fin : Ts × AHeap) (μ0 : Mu) (w0 : World) (ds : List Deferred)
    (L : List Item) (hist : Hist) (ts : Ts) (H : AHeap) (early : Early) (listed : Array Bool) (a : Act) (w : World) (μ : Mu) : Prop where
  can : Can E call ops A0 fin early L hist ts H
  fr : Fr E call ops A0 μ w early L hist ts H
  rel : Rel H μ w
  sub : SubH (lastH hist A0) H
  tr : TR μ (ovl early L ts) a.tmps
  size : listed.size = ops.size
  lst : ∀ i, i < ops.size → (listed.getD i true = false ↔ ∃ k ∈ L, k.1 = i ∧ early i = none)
  items : ∀ k ∈ L, ops[k.1]? = some k.2.2 ∧ k.2.1 = (masks ops.toList []).getD k.1 0
  nodup : (L.map (·.1)).Nodup
  apart : apartOK ops L = true
  order : ∃ done, orderOK ops (masks ops.toList []) L done = true ∧ ∀ i ∈ done, listed.getD i false = true
  effs : ∀ k ∈ L, isEff k.2.2 = true → early k.1 = none
  closed : ClosedUnder ops fun i => listed.getD i false = true
  ext : Ext A0 (pad H fin.2.n) μ0 μ w0 w
  n : A0.n ≤ H.n
  defers : a.defers = ds
theorem getD_tf {l : Array Bool} {i : Nat} (h : i < l.size) : l.getD i true = l.getD i false := by simp [h]
theorem getD_ne {l : Array Bool} {i : Nat} (h : l.getD i true = false) : ¬ l.getD i false = true := by
  by_cases hl : i < l.size
  · rw [← getD_tf hl, h]; simp
  · simp [Array.getElem?_eq_none (by omega : l.size ≤ i)]
section
variable {P : Program} {E : Env} (hE : EnvOK P E) {call : ACall} (hC : CallOK P E call) {ops : Array Oper} {A0 : AHeap} {fin : Ts × AHeap} {μ0 : Mu} {w0 : World} {ds : List Deferred}
  {L : List Item} {hist : Hist} {ts : Ts} {H : AHeap} {early : Early} {listed : Array Bool} {a : Act} {w : World} {μ : Mu}
theorem Inv.notList (I : Inv P E call ops A0 fin μ0 w0 ds L hist ts H early listed a w μ) {k : Item} (hk : k ∈ L) (he : early k.1 = none) : ¬ listed.getD k.1 false = true :=
  getD_ne ((I.lst k.1 (Array.getElem?_eq_some_iff.1 (I.items k hk).1).1).2 ⟨k, hk, rfl, he⟩)
theorem Inv.isList (I : Inv P E call ops A0 fin μ0 w0 ds L hist ts H early listed a w μ) {k : Item} (hk : k ∈ L) (he : early k.1 ≠ none) : listed.getD k.1 false = true := by
  have hlt := (Array.getElem?_eq_some_iff.1 (I.items k hk).1).1
  rw [← getD_tf (by rw [I.size]; exact hlt)]
  cases h : listed.getD k.1 true with
  | true => rfl
  | false => obtain ⟨k', _, h2, h3⟩ := (I.lst k.1 hlt).1 h; exact absurd h3 he
theorem stepI_kind {it : Item} {v : AV} {hist' : Hist} {H' : AHeap} (h : stepI E call ops A0 it hist ts H = some (v, hist', H')) (hne : isEff it.2.2 = false) :
    hist' = hist ∧ (H' = H ∨ ∃ B, H' = H.push B) := by
  unfold stepI at h
  unfold isEff at hne
  split at h
  · split at h
    · simp only [Option.bind_eq_some_iff] at h
      obtain ⟨u, _, h2⟩ := h
      cases hc : (!heapDep it.2.2.op || chkPast E ts it.2.2.op u it.2.1 hist A0) with
      | false => simp [hc] at h2
      | true => simp only [hc, cond_true, Option.some.injEq, Prod.mk.injEq] at h2; obtain ⟨_, rfl, rfl⟩ := h2; exact ⟨rfl, .inl rfl⟩
    · simp only [Option.bind_eq_some_iff, stepNew, Option.some.injEq, Prod.mk.injEq] at h
      obtain ⟨p, ⟨q, _, rfl⟩, _, rfl, rfl⟩ := h
      exact ⟨rfl, .inr ⟨_, rfl⟩⟩
    · rename_i hk; rw [hk] at hne; cases hne
  · split at h
    · rename_i hk; rw [hk] at hne; cases hne
    · simp only [Option.some.injEq, Prod.mk.injEq] at h
      obtain ⟨_, rfl, rfl⟩ := h
      exact ⟨rfl, .inl rfl⟩
theorem orderOK_cons {ms : List Nat} {it : Item} {r : List Item} {done : List Nat} (h : orderOK ops ms (it :: r) done = true) :
    it.1 ∉ done ∧ it.1 < ops.size ∧ (∀ e ∈ it.2.2.after, Region.binds .any e = true → e.on ∈ done) ∧ (isEff it.2.2 = true → ∀ k ∈ done, it.2.1.testBit k = true) ∧ orderOK ops ms r (done ++ [it.1]) = true := by
  obtain ⟨i, m, o⟩ := it
  simp only [orderOK, Bool.and_eq_true, Bool.or_eq_true, Bool.not_eq_true', List.all_eq_true, blt_dec, decide_eq_true_eq, List.elem_eq_mem, decide_eq_false_iff_not] at h
  obtain ⟨⟨⟨⟨h1, h2⟩, h3⟩, h4⟩, h5⟩ := h
  refine ⟨h1, h2, fun e he hb => ?_, fun he k hk => ?_, h5⟩
  · rcases h3 e (by simpa using he) with h | h
    · rw [hb] at h; cases h
    · exact h
  · rcases h4 with h | h
    · simp only at he; rw [he] at h; cases h
    · exact h k hk
theorem orderOK_app {ms : List Nat} : ∀ {L1 L2 : List Item} {done : List Nat}, orderOK ops ms (L1 ++ L2) done = true → orderOK ops ms L2 (done ++ L1.map (·.1)) = true
  | [], L2, done, h => by simpa using h
  | it :: r, L2, done, h => by
    have := orderOK_app (orderOK_cons h).2.2.2.2
    simpa using this
theorem apartOK_cons {it : Item} {r : List Item} (h : apartOK ops (it :: r) = true) : (∀ k ∈ r, k.2.1.testBit it.1 = true ∨ Oper.apart ops it.2.2 k.2.2 = true) ∧ apartOK ops r = true := by
  obtain ⟨i, m, o⟩ := it
  simp only [apartOK, Bool.and_eq_true, List.all_eq_true, Bool.or_eq_true] at h
  exact ⟨fun k hk => h.1 k hk, h.2⟩
theorem apartOK_app : ∀ {L1 L2 : List Item}, apartOK ops (L1 ++ L2) = true → apartOK ops L2 = true ∧ ∀ k ∈ L1, ∀ q ∈ L2, q.2.1.testBit k.1 = true ∨ Oper.apart ops k.2.2 q.2.2 = true
  | [], L2, h => ⟨h, by simp⟩
  | it :: r, L2, h => by
    obtain ⟨h1, h2⟩ := apartOK_cons h
    obtain ⟨h3, h4⟩ := apartOK_app h2
    refine ⟨h3, fun k hk q hq => ?_⟩
    rcases List.mem_cons.1 hk with rfl | hk
    · exact h1 q (by simp [hq])
    · exact h4 k hk q hq
theorem push_ne {H : AHeap} {B : ABlk} : H ≠ H.push B := fun h => by have := congrArg AHeap.n h; simp at this
theorem push_inj {H : AHeap} {B B' : ABlk} (h : H.push B = H.push B') : B = B' := by
  have h1 := AHeap.get_push H H.n B
  rw [h, AHeap.get_push] at h1
  simpa using h1.symm

include hC in
/-- what was done early is passed over -/
theorem Inv.skip {it : Item} {r : List Item} {x : AV} (I : Inv P E call ops A0 fin μ0 w0 ds (it :: r) hist ts H early listed a w μ) (he : early it.1 = some x) :
    ∃ hist' ts' H', Inv P E call ops A0 fin μ0 w0 ds r hist' ts' H' early listed a w μ := by
  obtain ⟨v, hist', H', h1, h2, h3⟩ := I.can
  obtain rfl := h2 x he
  have hne : isEff it.2.2 = false := by
    cases hh : isEff it.2.2 with
    | false => rfl
    | true => have := I.effs it (by simp) hh; rw [he] at this; cases this
  obtain ⟨rfl, hH⟩ := stepI_kind h1 hne
  obtain ⟨f1, f2, f3⟩ := I.fr _ _ _ h1
  have n1 := stepI_n hC h1
  have n2 := can_n hC h3
  refine ⟨hist', putA ts it.2.2.dst x, H', ?_⟩
  have key : Rel H' μ w ∧ SubH (lastH hist' A0) H' ∧ Ext A0 (pad H' fin.2.n) μ0 μ w0 w := by
    rcases hH with rfl | ⟨B, rfl⟩
    · exact ⟨I.rel, I.sub, I.ext⟩
    · obtain ⟨c, sz, ob, g1, g2, g3, g4⟩ := f2 x he B rfl
      refine ⟨⟨I.rel.bound, I.rel.inj, fun b B' hb g c' sz' hm => ?_⟩, I.sub.push B, I.ext.padPush B I.n (by simpa using n2)⟩
      rw [AHeap.get_push] at hb
      by_cases e : b = H.n
      · subst e
        simp only [if_true, Option.some.injEq] at hb
        subst hb
        by_cases eg : g = 0
        · subst eg; rw [g1] at hm; cases hm; exact ⟨ob, g3, g4⟩
        · rw [g2 g eg] at hm; cases hm
      · rw [if_neg e] at hb; exact I.rel.blk b B' hb g c' sz' hm
  obtain ⟨k1, k2, k3⟩ := key
  have hlisted := I.isList (k := it) (by simp) (by simp [he])
  obtain ⟨done, o1, o2⟩ := I.order
  exact {
    can := h3
    fr := f3
    rel := k1
    sub := k2
    tr := by have := I.tr; simp only [ovl, he] at this; exact this
    size := I.size
    lst := fun i hi => by
      rw [I.lst i hi]
      constructor
      · rintro ⟨k, hk, rfl, hn⟩
        rcases List.mem_cons.1 hk with rfl | hk
        · rw [he] at hn; cases hn
        · exact ⟨k, hk, rfl, hn⟩
      · rintro ⟨k, hk, h4, h5⟩; exact ⟨k, by simp [hk], h4, h5⟩
    items := fun k hk => I.items k (by simp [hk])
    nodup := by have := I.nodup; simp only [List.map_cons, List.nodup_cons] at this; exact this.2
    apart := (apartOK_cons I.apart).2
    order := ⟨done ++ [it.1], (orderOK_cons o1).2.2.2.2, fun i hi => by
      rcases List.mem_append.1 hi with h | h
      · exact o2 i h
      · simp at h; subst h; exact hlisted⟩
    effs := fun k hk => I.effs k (by simp [hk])
    closed := I.closed
    ext := k3
    n := Nat.le_trans I.n n1
    defers := I.defers }
include hC in
theorem Inv.norm : ∀ {L : List Item} {hist : Hist} {ts : Ts} {H : AHeap}, Inv P E call ops A0 fin μ0 w0 ds L hist ts H early listed a w μ →
    ∃ L' hist' ts' H', Inv P E call ops A0 fin μ0 w0 ds L' hist' ts' H' early listed a w μ ∧ todo early L' = todo early L ∧ ∀ it r, L' = it :: r → early it.1 = none
  | [], hist, ts, H, I => ⟨[], hist, ts, H, I, rfl, fun it r h => by cases h⟩
  | it :: r, hist, ts, H, I => by
    cases he : early it.1 with
    | none => exact ⟨it :: r, hist, ts, H, I, rfl, fun it' r' h => by cases h; exact he⟩
    | some x =>
      obtain ⟨hist1, ts1, H1, I1⟩ := I.skip hC he
      obtain ⟨L', hist', ts', H', h1, h2, h3⟩ := Inv.norm I1
      exact ⟨L', hist', ts', H', h1, by rw [h2]; simp [todo, he], h3⟩
theorem fr_split : ∀ {L1 L2 : List Item} {hist : Hist} {ts : Ts} {H : AHeap} {hi : Hist} {ti : Ts} {Hi : AHeap}, Fr E call ops A0 μ w early (L1 ++ L2) hist ts H →
    runPre E call ops A0 L1 hist ts H = some (hi, ti, Hi) → Fr E call ops A0 μ w early L2 hi ti Hi
  | [], L2, hist, ts, H, hi, ti, Hi, h, hp => by
    simp only [runPre, Option.some.injEq, Prod.mk.injEq] at hp
    obtain ⟨rfl, rfl, rfl⟩ := hp
    exact h
  | it :: r, L2, hist, ts, H, hi, ti, Hi, h, hp => by
    simp only [runPre, Option.bind_eq_some_iff] at hp
    obtain ⟨⟨v, hist', H'⟩, h1, h2⟩ := hp
    exact fr_split (h _ _ _ h1).2.2 h2
theorem todo_upd {it : Item} {v : AV} {early : Early} : ∀ {L1 L2 : List Item}, early it.1 = none → (∀ k ∈ L1 ++ L2, k.1 ≠ it.1) → todo (earlyUpd early it.1 v) (L1 ++ it :: L2) + 1 = todo early (L1 ++ it :: L2) := by
  intro L1 L2 he hn
  have h : ∀ (M : List Item), (∀ k ∈ M, k.1 ≠ it.1) → todo (earlyUpd early it.1 v) M = todo early M := by
    intro M hM
    unfold todo
    refine List.countP_congr fun k hk => ?_
    simp [earlyUpd, hM k hk]
  have e1 : todo (earlyUpd early it.1 v) (L1 ++ it :: L2) = todo (earlyUpd early it.1 v) L1 + todo (earlyUpd early it.1 v) L2 := by
    simp [todo, List.countP_cons, earlyUpd]
  have e2 : todo early (L1 ++ it :: L2) = todo early L1 + (todo early L2 + 1) := by
    simp [todo, List.countP_cons, he]
  rw [e1, e2, h L1 (fun k hk => hn k (by simp [hk])), h L2 (fun k hk => hn k (by simp [hk]))]
  omega
end
end
end Go.AE
end
section
/- The abstract evaluator, part 13: a region that draws its order, the step. -/
set_option linter.unusedVariables false
set_option linter.unusedSectionVars false
set_option linter.unusedSimpArgs false
namespace Go.AE
variable [Val]
section
variable {P : Program} {E : Env} (hE : EnvOK P E) {call : ACall} (hC : CallOK P E call) {ops : Array Oper} {A0 : AHeap} {fin : Ts × AHeap} {μ0 : Mu} {w0 : World} {ds : List Deferred}
  {L : List Item} {hist : Hist} {ts : Ts} {H : AHeap} {early : Early} {listed : Array Bool} {a : Act} {w : World} {μ : Mu} {Q : Exit → Act → World → Prop}
theorem nodup_mid {L1 L2 : List Item} {it : Item} (h : ((L1 ++ it :: L2).map (·.1)).Nodup) : ∀ k ∈ L1 ++ L2, k.1 ≠ it.1 := by
  simp only [List.map_append, List.map_cons, List.nodup_append, List.nodup_cons, List.mem_map, List.mem_cons] at h
  obtain ⟨_, ⟨h1, _⟩, h2⟩ := h
  intro k hk e
  rcases List.mem_append.1 hk with hk | hk
  · exact h2 _ ⟨k, hk, rfl⟩ _ (.inl rfl) e
  · exact h1 ⟨k, hk, e⟩
theorem put_defers (a : Act) (d : Option Tmp) (u : Value) : (a.put d u).defers = a.defers := by cases d <;> rfl
theorem ready_mask {it : Item} (I : Inv P E call ops A0 fin μ0 w0 ds L hist ts H early listed a w μ) (hk : it ∈ L) (hr : it.1 ∈ Region.ready .any ops listed) {k : Nat} (h : it.2.1.testBit k = true) : listed.getD k false = true := by
  obtain ⟨h1, h2⟩ := I.items it hk
  obtain ⟨_, o, h3, h4⟩ := mem_ready.1 hr
  rw [h1] at h3; cases h3
  rw [h2] at h
  exact mask_ready I.closed it.1 h1 (fun e he hb => h4 e he hb) h
theorem listed_mask {it : Item} (I : Inv P E call ops A0 fin μ0 w0 ds L hist ts H early listed a w μ) (hk : it ∈ L) (hr : listed.getD it.1 false = true) {k : Nat} (h : it.2.1.testBit k = true) : listed.getD k false = true := by
  obtain ⟨h1, h2⟩ := I.items it hk
  rw [h2] at h
  exact mask_closed I.closed h1 hr h
/-- operations behind that are done already, and operations ahead that are not, neither look nor write where this one does -/
theorem Inv.sides {L1 L2 : List Item} {it : Item} (I : Inv P E call ops A0 fin μ0 w0 ds (L1 ++ it :: L2) hist ts H early listed a w μ) (he : early it.1 = none) (hr : it.1 ∈ Region.ready .any ops listed) :
    (∀ k ∈ L1, early k.1 = none → ∀ d, k.2.2.dst = some d → d ∉ it.2.2.looksAt ops) ∧ (∀ k ∈ L2, early k.1 ≠ none → ∀ d, k.2.2.dst = some d → d ∉ it.2.2.looksAt ops) ∧
    (∀ k ∈ L2, early k.1 ≠ none → ∀ x, it.2.2.dst = some x → k.2.2.dst ≠ some x) := by
  obtain ⟨p1, p2⟩ := apartOK_app I.apart
  have q := (apartOK_cons p1).1
  have mem : it ∈ L1 ++ it :: L2 := by simp
  have hno := I.notList mem he
  refine ⟨fun k hk hn d hd => ?_, fun k hk hn d hd => ?_, fun k hk hn d hd => ?_⟩
  · rcases p2 k hk it (by simp) with h | h
    · exact absurd (ready_mask I mem hr h) (I.notList (k := k) (by simp [hk]) hn)
    · exact (Oper.apart_spec h).1 d hd
  · rcases q k hk with h | h
    · exact absurd (listed_mask I (it := k) (by simp [hk]) (I.isList (k := k) (by simp [hk]) hn) h) hno
    · exact (Oper.apart_spec h).2.2 d hd
  · rcases q k hk with h | h
    · exact absurd (listed_mask I (it := k) (by simp [hk]) (I.isList (k := k) (by simp [hk]) hn) h) hno
    · exact (Oper.apart_spec h).2.1 d hd
theorem closed_set {it : Item} (I : Inv P E call ops A0 fin μ0 w0 ds L hist ts H early listed a w μ) (hk : it ∈ L) (hr : it.1 ∈ Region.ready .any ops listed) : ClosedUnder ops fun i => (listed.setIfInBounds it.1 true).getD i false = true := by
  intro i o e ho hi hm hb
  obtain ⟨_, o', h3, h4⟩ := mem_ready.1 hr
  by_cases hii : it.1 = i
  · subst hii
    rw [h3] at ho; cases ho
    exact getD_set_true (h4 e hm hb)
  · rw [getD_set_ne false hii] at hi
    exact getD_set_true (I.closed i o e ho hi hm hb)
/-- after an early step -/
theorem Inv.ahead {L1 L2 : List Item} {it : Item} (I : Inv P E call ops A0 fin μ0 w0 ds (L1 ++ it :: L2) hist ts H early listed a w μ) (he : early it.1 = none) (hr : it.1 ∈ Region.ready .any ops listed) (hne : isEff it.2.2 = false)
    {hi : Hist} {ti : Ts} {Hi : AHeap} (hp : runPre E call ops A0 L1 hist ts H = some (hi, ti, Hi)) {v : AV} {hi' : Hist} {Hi' : AHeap} (hs : stepI E call ops A0 it hi ti Hi = some (v, hi', Hi'))
    {μ' : Mu} {w' : World} {u : Value} (hu : VR μ' v u) (hle : MuLe μ μ') (hfr : Fr E call ops A0 μ' w' (earlyUpd early it.1 v) (L1 ++ it :: L2) hist ts H) (hrel : Rel H μ' w') (hext : Ext A0 (pad H fin.2.n) μ0 μ' w0 w') :
    Inv P E call ops A0 fin μ0 w0 ds (L1 ++ it :: L2) hist ts H (earlyUpd early it.1 v) (listed.setIfInBounds it.1 true) (a.put it.2.2.dst u) w' μ' := by
  have hn := nodup_mid I.nodup
  have mem : it ∈ L1 ++ it :: L2 := by simp
  obtain ⟨s1, s2, s3⟩ := I.sides he hr
  have hlt : it.1 < ops.size := (Array.getElem?_eq_some_iff.1 (I.items it mem).1).1
  obtain ⟨done, o1, o2⟩ := I.order
  exact {
    can := can_upd I.can hp hs hn
    fr := hfr
    rel := hrel
    sub := I.sub
    tr := by rw [ovl_upd he hn s3]; exact (I.tr.mono hle).put hu _
    size := by rw [Array.size_setIfInBounds]; exact I.size
    lst := fun i hil => by
      by_cases hii : it.1 = i
      · subst hii
        have : (listed.setIfInBounds it.1 true).getD it.1 true = true := by simp
        rw [this]
        simp [earlyUpd]
      · rw [getD_set_ne true hii, I.lst i hil]
        have hii' : ¬ i = it.1 := fun h => hii h.symm
        simp [earlyUpd, hii']
    items := I.items
    nodup := I.nodup
    apart := I.apart
    order := ⟨done, o1, fun i hi => getD_set_true (o2 i hi)⟩
    effs := fun k hk hke => by
      have : k.1 ≠ it.1 := fun e => by
        have h1 := (I.items k hk).1
        rw [e, (I.items it mem).1] at h1
        simp only [Option.some.injEq] at h1
        rw [← h1, hne] at hke; cases hke
      simp [earlyUpd, this, I.effs k hk hke]
    closed := closed_set I mem hr
    ext := hext
    n := I.n
    defers := by rw [put_defers]; exact I.defers }
include hE hC in
/-- an operation that does not write is taken, wherever it stands -/
theorem Inv.take {L1 L2 : List Item} {it : Item} (I : Inv P E call ops A0 fin μ0 w0 ds (L1 ++ it :: L2) hist ts H early listed a w μ) (he : early it.1 = none) (hr : it.1 ∈ Region.ready .any ops listed) (hne : isEff it.2.2 = false)
    {K : Act → World → Prop} (hK : ∀ early' a' w' μ', Inv P E call ops A0 fin μ0 w0 ds (L1 ++ it :: L2) hist ts H early' (listed.setIfInBounds it.1 true) a' w' μ' → todo early' (L1 ++ it :: L2) + 1 = todo early (L1 ++ it :: L2) → K a' w') :
    wpOp P ops Q it.1 K a w := by
  have mem : it ∈ L1 ++ it :: L2 := by simp
  have hit := (I.items it mem).1
  have hn := nodup_mid I.nodup
  obtain ⟨s1, s2, s3⟩ := I.sides he hr
  obtain ⟨hi, ti, Hi, hp, hc2⟩ := can_split I.can
  obtain ⟨v, hi', Hi', hs, _, hc3⟩ := hc2
  have ag0 : Agree (it.2.2.looksAt ops) (ovl early (L1 ++ it :: L2) ts) ti := pre_agree I.can hp s1 fun k hk => by
    rcases List.mem_cons.1 hk with rfl | hk
    · intro h; exact absurd he h
    · exact s2 k hk
  have nHi := runPre_n hC hp
  have nfin := can_n hC hc3
  have nst := stepI_n hC hs
  have frI := fr_split I.fr hp v hi' Hi' hs
  have ek : ∀ v, earlyUpd early it.1 v it.1 = some v := fun v => by simp [earlyUpd]
  -- nothing made, or a block
  have same : (Hi' = Hi) → ∀ u, VR μ v u → K (a.put it.2.2.dst u) w := fun hH u hu => by
    refine hK _ _ _ μ (I.ahead he hr hne hp hs hu (MuLe.refl μ) ?_ I.rel I.ext) (todo_upd he hn)
    exact fr_upd hC (MuLe.refl μ) (fun _ _ _ _ _ _ h => h) hp hs hn (fun _ _ _ => rfl) (fun _ _ _ => rfl) (fun B hB => absurd (hH.symm.trans hB) push_ne) I.fr
  have hwant : wantA ops (ovl early (L1 ++ it :: L2) ts) it.2.2 = wantA ops ti it.2.2 := want_agree ag0
  have hm : ∀ k ∈ L1, isEff k.2.2 = true → it.2.1.testBit k.1 = false := fun k hk hke => by
    cases hb : it.2.1.testBit k.1 with
    | false => rfl
    | true => exact absurd (ready_mask I mem hr hb) (I.notList (k := k) (by simp [hk]) (I.effs k (by simp [hk]) hke))
  unfold wpOp
  simp only [hit]
  rw [wantA_eq I.tr, hwant]
  have hs0 := hs
  unfold stepI at hs
  split at hs
  · rename_i hw
    rw [hw]
    simp only [if_true]
    refine .inl ?_
    unfold Oper.wp
    split at hs
    · rename_i hk
      simp only [Option.bind_eq_some_iff] at hs
      obtain ⟨v', h1, h2⟩ := hs
      cases hc : (!heapDep it.2.2.op || chkPast E ti it.2.2.op v' it.2.1 hi A0) with
      | false => simp [hc] at h2
      | true =>
        simp only [hc, cond_true, Option.some.injEq, Prod.mk.injEq] at h2
        obtain ⟨rfl, rfl, rfl⟩ := h2
        have hv : aPass E (ovl early (L1 ++ it :: L2) ts) (lastH hist A0) it.2.2.op = some v' := by
          rw [pass_agree ag0]
          cases hd : heapDep it.2.2.op with
          | false => rw [pass_heap hd _ (lastH hi A0)]; exact h1
          | true =>
            rw [hd] at hc
            simp only [Bool.not_true, Bool.false_or] at hc
            exact chk_last (chk_back hp hm (chk_of_past h1 hc))
        obtain ⟨u, e1, e2⟩ := pass_sound hE (I.rel.sub I.sub) hv I.tr hk
        rw [e1]
        exact same rfl u e2
    · rename_i hk
      simp only [Option.bind_eq_some_iff, stepNew, Option.some.injEq, Prod.mk.injEq] at hs
      obtain ⟨p, ⟨⟨B, mk⟩, h1, rfl⟩, rfl, rfl, rfl⟩ := hs
      rw [← new_agree ag0] at h1
      obtain ⟨ob, u, e1, e2, e3⟩ := new_sound hE (w := w) h1 I.tr
      have hno : ∀ g, μ Hi.n g = none := fun g => frI.1 he _ g (Nat.le_refl _) (by simp)
      have hle := MuLe.upd (x := (w.heap.size, objSize ob)) (hno 0)
      rw [e1]
      refine hK _ _ _ (Go.AE.upd μ Hi.n 0 (w.heap.size, objSize ob)) (I.ahead he hr hne hp hs0 (e3 _ Hi.n (upd_same _ _ _ _)) hle ?_ (I.rel.early nHi hno) (I.ext.padEarly (by simp at nfin; omega) hno)) (todo_upd he hn)
      refine fr_upd hC hle (fun b g c sz o' hm hc => ?_) hp hs0 hn (fun b g hb => upd_other _ _ fun h => hb h.1) (fun h => by simp at h) (fun B' hB => ?_) I.fr
      · rw [heap_alloc_old w ob c (I.rel.bound _ _ _ _ hm)]; exact hc
      · obtain rfl := push_inj hB
        exact ⟨w.heap.size, objSize ob, ob, upd_same _ _ _ _, fun g hg => by rw [upd_other _ _ fun h => hg h.2]; exact hno g, heap_alloc_new w ob, e2.mono hle⟩
    · rename_i hk; unfold isEff at hne; rw [hk] at hne; cases hne
  · rename_i hw
    rw [hw]
    simp only [Bool.false_eq_true, if_false]
    split at hs
    · rename_i hk; unfold isEff at hne; rw [hk] at hne; cases hne
    · simp only [Option.some.injEq, Prod.mk.injEq] at hs
      obtain ⟨rfl, rfl, rfl⟩ := hs
      exact same rfl undef (VR_undef μ)
include hE hC in
/-- an operation that writes is taken, in its turn -/
theorem Inv.write (J0 : Val.J μ0 w0) {r : List Item} {it : Item} (I : Inv P E call ops A0 fin μ0 w0 ds (it :: r) hist ts H early listed a w μ) (he : early it.1 = none) (hr : it.1 ∈ Region.ready .any ops listed) (hef : isEff it.2.2 = true)
    {K : Act → World → Prop} (hK : ∀ hist' ts' H' a' w' μ', Inv P E call ops A0 fin μ0 w0 ds r hist' ts' H' early (listed.setIfInBounds it.1 true) a' w' μ' → todo early r + 1 = todo early (it :: r) → K a' w') :
    wpOp P ops Q it.1 K a w := by
  have mem : it ∈ it :: r := by simp
  have hit := (I.items it mem).1
  have hn : ∀ k ∈ r, k.1 ≠ it.1 := fun k hk => nodup_mid (L1 := []) I.nodup k (by simpa using hk)
  obtain ⟨s1, s2, s3⟩ := Inv.sides (L1 := []) I he hr
  obtain ⟨v, hist', H', hs, _, hc3⟩ := I.can
  have ag0 : Agree (it.2.2.looksAt ops) (ovl early (it :: r) ts) ts := pre_agree (L1 := []) (L2 := it :: r) I.can rfl (by simp) fun k hk => by
    rcases List.mem_cons.1 hk with rfl | hk
    · intro h; exact absurd he h
    · exact s2 k hk
  have nfin := can_n hC hc3
  have nst := stepI_n hC hs
  obtain ⟨f1, _, f3⟩ := I.fr v hist' H' hs
  have hfresh := f1 he
  obtain ⟨done, o1, o2⟩ := I.order
  have hlt : it.1 < ops.size := (Array.getElem?_eq_some_iff.1 hit).1
  have htr : ovl early (it :: r) ts = ovl early r ts := by simp only [ovl, he]
  have hput : ovl early r (putA ts it.2.2.dst v) = putA (ovl early r ts) it.2.2.dst v := ovl_put s3
  have fin_ : ∀ u w' μ', VR μ' v u → Rel H' μ' w' → Ext H H' μ μ' w w' → SubH (lastH hist' A0) H' → K (a.put it.2.2.dst u) w' := fun u w' μ' hu hR hX hsub => by
    refine hK hist' (putA ts it.2.2.dst v) H' _ _ μ' ?_ (by simp [todo, he])
    exact {
      can := hc3
      fr := by
        refine fr_change hC hX.mono (fun _ _ => rfl) (fun b g hb => hX.above b g hb) (fun b g c sz ob hb hm hc => ?_) f3
        rw [hX.frame c (I.rel.bound _ _ _ _ hm) fun b2 g2 sz2 hm2 hb2 => ?_]
        · exact hc
        · have := I.rel.inj _ _ _ _ _ _ _ hm hm2
          omega
      rel := hR
      sub := hsub
      tr := by rw [hput]; have := I.tr; rw [htr] at this; exact (this.mono hX.mono).put hu _
      size := by rw [Array.size_setIfInBounds]; exact I.size
      lst := fun i hil => by
        by_cases hii : it.1 = i
        · subst hii
          have : (listed.setIfInBounds it.1 true).getD it.1 true = true := by simp
          rw [this]
          simp only [Bool.true_eq_false, false_iff, not_exists, not_and]
          intro k hk e; exact absurd e (hn k hk)
        · rw [getD_set_ne true hii, I.lst i hil]
          constructor
          · rintro ⟨k, hk, rfl, h⟩
            rcases List.mem_cons.1 hk with rfl | hk
            · exact absurd rfl hii
            · exact ⟨k, hk, rfl, h⟩
          · rintro ⟨k, hk, h1, h2⟩; exact ⟨k, by simp [hk], h1, h2⟩
      items := fun k hk => I.items k (by simp [hk])
      nodup := by have := I.nodup; simp only [List.map_cons, List.nodup_cons] at this; exact this.2
      apart := (apartOK_cons I.apart).2
      order := ⟨done ++ [it.1], (orderOK_cons o1).2.2.2.2, fun i hi => by
        rcases List.mem_append.1 hi with h | h
        · exact getD_set_true (o2 i h)
        · simp at h; subst h; simp [I.size, hlt]⟩
      effs := fun k hk => I.effs k (by simp [hk])
      closed := closed_set I mem hr
      ext := I.ext.padStep hX I.n nfin
      n := Nat.le_trans I.n nst
      defers := by rw [put_defers]; exact I.defers }
  have hwant : wantA ops (ovl early (it :: r) ts) it.2.2 = wantA ops ts it.2.2 := want_agree ag0
  unfold wpOp
  simp only [hit]
  rw [wantA_eq I.tr, hwant]
  unfold isEff at hef
  unfold stepI at hs
  split at hs
  · rename_i hw
    rw [hw]
    simp only [if_true]
    refine .inl ?_
    split at hs
    · rename_i hk; rw [hk] at hef; cases hef
    · rename_i hk; rw [hk] at hef; cases hef
    · rename_i hk
      simp only [Option.bind_eq_some_iff, Option.some.injEq, Prod.mk.injEq] at hs
      obtain ⟨⟨v', H1⟩, h1, rfl, rfl, rfl⟩ := hs
      rw [← eff_agree ag0] at h1
      refine stepOp_sound hE hC I.rel (Val.keep J0 I.ext) I.tr (v := v') (A' := H1) ?_ hfresh fun u w' μ' hu hR hX => fin_ u w' μ' hu hR hX (SubH.refl _)
      unfold stepOp; rw [hk]; exact h1
  · rename_i hw
    rw [hw]
    simp only [Bool.false_eq_true, if_false]
    split at hs
    · simp only [Option.some.injEq, Prod.mk.injEq] at hs
      obtain ⟨rfl, rfl, rfl⟩ := hs
      exact fin_ undef w μ (VR_undef μ) I.rel (Ext.refl _ _ _) (SubH.refl _)
    · rename_i hk
      cases hkk : opKind it.2.2.op with
      | eff => exact absurd hkk hk
      | _ => rw [hkk] at hef; cases hef
include hE hC in
theorem any_sound (J0 : Val.J μ0 w0) (hQ : ∀ a' w' μ', TR μ' fin.1 a'.tmps → Rel fin.2 μ' w' → Ext A0 fin.2 μ0 μ' w0 w' → a'.defers = ds → Q .normal a' w') :
    ∀ (fuel : Nat) {L : List Item} {hist : Hist} {ts : Ts} {H : AHeap} {early : Early} {listed : Array Bool} {a : Act} {w : World} {μ : Mu},
    Inv P E call ops A0 fin μ0 w0 ds L hist ts H early listed a w μ → todo early L = fuel → wpAny P .any ops Q fuel listed a w := by
  intro fuel
  induction fuel with
  | zero =>
    intro L hist ts H early listed a w μ I ht
    obtain ⟨L', hist', ts', H', I', h1, h2⟩ := I.norm hC
    have hnil : L' = [] := by
      cases hL : L' with
      | nil => rfl
      | cons it r =>
        have h3 := h2 it r hL
        rw [ht, hL] at h1
        simp [todo, h3] at h1
    subst hnil
    have hc := I'.can
    simp only [Can] at hc
    refine ⟨?_, hQ a w μ (by rw [← hc]; exact I'.tr) (by rw [← hc]; exact I'.rel) (by have := I'.ext; rw [← hc] at this ⊢; exact this) I'.defers⟩
    cases hrd : Region.ready .any ops listed with
    | nil => rfl
    | cons j js =>
      exfalso
      obtain ⟨h3, o, h4, _⟩ := mem_ready.1 (show j ∈ Region.ready .any ops listed by rw [hrd]; simp)
      obtain ⟨k, hk, _⟩ := (I'.lst j (Array.getElem?_eq_some_iff.1 h4).1).1 h3
      cases hk
  | succ fuel ih =>
    intro L hist ts H early listed a w μ I ht
    obtain ⟨L', hist', ts', H', I', h1, h2⟩ := I.norm hC
    rw [ht] at h1
    cases hL : L' with
    | nil => rw [hL] at h1; simp [todo] at h1
    | cons it r =>
      subst hL
      have he := h2 it r rfl
      have hitem := (I'.items it (by simp)).1
      have hlt := (Array.getElem?_eq_some_iff.1 hitem).1
      obtain ⟨done, o1, o2⟩ := I'.order
      have hready : it.1 ∈ Region.ready .any ops listed := mem_ready.2 ⟨(I'.lst it.1 hlt).2 ⟨it, by simp, rfl, he⟩, _, hitem, fun e hem hb => o2 _ ((orderOK_cons o1).2.2.1 e hem hb)⟩
      refine ⟨fun h => (by rw [h] at hready; cases hready), fun i hi => ?_⟩
      obtain ⟨h3, o, h4, _⟩ := mem_ready.1 hi
      obtain ⟨k, hk, rfl, hke⟩ := (I'.lst i (Array.getElem?_eq_some_iff.1 h4).1).1 h3
      obtain ⟨L1, L2, hsplit⟩ := List.append_of_mem hk
      cases hef : isEff k.2.2 with
      | false =>
        rw [hsplit] at I' h1
        exact I'.take hE hC hke hi hef fun early' a' w' μ' J hJ => ih J (by omega)
      | true =>
        cases L1 with
        | nil =>
          simp only [List.nil_append, List.cons.injEq] at hsplit
          obtain ⟨rfl, rfl⟩ := hsplit
          exact I'.write hE hC J0 he hi hef fun hist'' ts'' H'' a' w' μ' J hJ => ih J (by omega)
        | cons it' r' =>
          exfalso
          simp only [List.cons_append, List.cons.injEq] at hsplit
          obtain ⟨rfl, rfl⟩ := hsplit
          have h5 := orderOK_app (L1 := it :: r') (L2 := k :: L2) o1
          have h6 := (orderOK_cons h5).2.2.2.1 hef it.1 (by simp)
          exact I'.notList (k := it) (by simp) he (ready_mask I' (it := k) (by simp) hi h6)
end
end Go.AE
end
section
/- The abstract evaluator, part 14: regions, code, bodies, calls are right. -/
set_option linter.unusedVariables false
set_option linter.unusedSectionVars false
set_option linter.unusedSimpArgs false
namespace Go.AE
noncomputable section
variable [Val]
theorem planOps_items {ms : List Nat} {ops : List Oper} : ∀ {l : List Nat}, ∀ k ∈ planOps ops ms l, ops[k.1]? = some k.2.2 ∧ k.2.1 = ms.getD k.1 0
  | [], k, h => by simp [planOps] at h
  | i :: is, k, h => by
    simp only [planOps] at h
    split at h
    · rename_i o ho
      rcases List.mem_cons.1 h with rfl | h
      · exact ⟨ho, rfl⟩
      · exact planOps_items k h
    · exact planOps_items k h
section
variable {P : Program} {E : Env} {ops : Array Oper}
theorem orderOK_nodup {ms : List Nat} : ∀ {L : List Item} {done : List Nat}, orderOK ops ms L done = true → (L.map (·.1)).Nodup ∧ (∀ k ∈ L, k.1 ∉ done)
  | [], _, _ => ⟨List.nodup_nil, by simp⟩
  | it :: r, done, h => by
    obtain ⟨h1, h2, h3, h4, h5⟩ := orderOK_cons h
    obtain ⟨k1, k2⟩ := orderOK_nodup h5
    refine ⟨?_, fun k hk => ?_⟩
    · simp only [List.map_cons, List.nodup_cons, List.mem_map, not_exists, not_and]
      refine ⟨fun k hk e => k2 k hk (by simp [e]), k1⟩
    · rcases List.mem_cons.1 hk with rfl | hk
      · exact h1
      · intro hm; exact k2 k hk (by simp [hm])
theorem orderOK_full {ms : List Nat} : ∀ {L : List Item} {done : List Nat}, orderOK ops ms L done = true → ∀ i, i < ops.size → i ∈ done ∨ ∃ k ∈ L, k.1 = i
  | [], done, h, i, hi => by
    simp only [orderOK, List.all_eq_true, List.mem_range, List.elem_eq_mem, decide_eq_true_eq] at h
    exact .inl (h i hi)
  | it :: r, done, h, i, hi => by
    rcases orderOK_full (orderOK_cons h).2.2.2.2 i hi with h1 | ⟨k, hk, h1⟩
    · rcases List.mem_append.1 h1 with h1 | h1
      · exact .inl h1
      · simp at h1; exact .inr ⟨it, by simp, h1.symm⟩
    · exact .inr ⟨k, by simp [hk], h1⟩
theorem ovl_none : ∀ {L : List Item} {ts : Ts}, ovl (fun _ => none) L ts = ts
  | [], _ => rfl
  | it :: r, ts => by simp only [ovl]; exact ovl_none
theorem Rel.drew {A : AHeap} {μ : Mu} {w : World} (R : Rel A μ w) : Rel A μ { w with drawn := w.drawn + 1 } := ⟨R.bound, R.inj, R.blk⟩
theorem orderOK_len {ms : List Nat} {L : List Item} (h : orderOK ops ms L [] = true) : L.length = ops.size := by
  have h1 := (orderOK_nodup h).1
  have h2 := orderOK_full h
  have hlt : ∀ {L : List Item} {done : List Nat}, orderOK ops ms L done = true → ∀ k ∈ L, k.1 < ops.size := by
    intro L
    induction L with
    | nil => intro _ _ k hk; cases hk
    | cons it r ih =>
      intro done h k hk
      obtain ⟨_, q2, _, _, q5⟩ := orderOK_cons h
      rcases List.mem_cons.1 hk with rfl | hk
      · exact q2
      · exact ih q5 k hk
  have e1 : (L.map (·.1)).Perm (List.range ops.size) := by
    refine (List.perm_ext_iff_of_nodup h1 List.nodup_range).2 fun i => ?_
    simp only [List.mem_map, List.mem_range]
    constructor
    · rintro ⟨k, hk, rfl⟩; exact hlt h k hk
    · intro hi
      rcases h2 i hi with h3 | ⟨k, hk, e⟩
      · cases h3
      · exact ⟨k, hk, e⟩
  have := e1.length_eq
  simpa using this
end
section
variable {P : Program} {E : Env} (hE : EnvOK P E) {call : ACall} (hC : CallOK P E call) (hm : P.follows .mixedOrders = true)
include hC in
theorem runRegion_n {ops : Array Oper} {draw : Bool} {ts ts' : Ts} {A A' : AHeap} (h : runRegion E call ops draw ts A = some (ts', A')) : A.n ≤ A'.n := by
  cases draw with
  | false => exact runOps_n hC h
  | true =>
    simp only [runRegion, Option.bind_eq_some_iff] at h
    obtain ⟨p, _, h2⟩ := h
    exact can_n hC (can_of_run h2)
include hE hC hm in
theorem region_sound {id : Nat} {ops : Array Oper} {draw : Bool} {ts ts' : Ts} {A A' : AHeap} (h : runRegion E call ops draw ts A = some (ts', A')) {μ : Mu} {w : World} {a : Act} {Q : Exit → Act → World → Prop} (R : Rel A μ w) (hJ : Val.J μ w) (T : TR μ ts a.tmps) (hfr : Fresh μ A.n A'.n)
    (hQ : ∀ a' w' μ', TR μ' ts' a'.tmps → Rel A' μ' w' → Ext A A' μ μ' w w' → a'.defers = a.defers → Q .normal a' w') : (Code.region id ops draw).wp P Q a w := by
  cases draw with
  | false =>
    refine wp_region ?_
    have := runOps_sound hE hC (ops := ops) (Q := Q) (l := ops.toList) (k := 0) h (by simp) R hJ T hfr hQ
    simpa [List.range_eq_range'] using this
  | true =>
    simp only [runRegion, Option.bind_eq_some_iff] at h
    obtain ⟨p, h1, h2⟩ := h
    unfold plan at h1
    simp only at h1
    generalize hp : planOps ops.toList (masks ops.toList []) (canon ops.toList (masks ops.toList [])) = q at h1
    cases hc : (orderOK ops (masks ops.toList []) q [] && apartOK ops q && ops.toList.all noSel) with
    | false => rw [hc] at h1; cases h1
    | true =>
      simp only [hc, cond_true, Option.some.injEq] at h1
      subst h1
      simp only [Bool.and_eq_true] at hc
      obtain ⟨⟨c1, c2⟩, _⟩ := hc
      have can := can_of_run h2
      have hn := can_n hC can
      refine wp_region_any hm (any_sound hE hC hJ (A0 := A) (fin := (ts', A')) (μ0 := μ) (w0 := w) (ds := a.defers) (L := q) (hist := []) (ts := ts) (H := A) (early := fun _ => none) (μ := μ) (fun a' w' μ' t1 t2 t3 t4 => hQ a' w' μ' t1 t2 t3 t4) ops.size ?_ ?_)
      · exact {
          can := can
          fr := fr_of_fresh hC can hfr
          rel := R.drew
          sub := SubH.refl _
          tr := by rw [ovl_none]; exact T
          size := by simp
          lst := fun i hi => by
            simp only [Array.getD_eq_getD_getElem?, Array.getElem?_replicate, hi, if_true, Option.getD_some, true_iff]
            rcases orderOK_full c1 i hi with h3 | ⟨k, hk, e⟩
            · cases h3
            · exact ⟨k, hk, e, trivial⟩
          items := fun k hk => by
            have := planOps_items (ms := masks ops.toList []) (ops := ops.toList) k (by rw [hp]; exact hk)
            simpa using this
          nodup := (orderOK_nodup c1).1
          apart := c2
          order := ⟨[], c1, by simp⟩
          effs := fun _ _ _ => rfl
          closed := fun i o e ho hi => by
            exfalso
            simp only [Array.getD_eq_getD_getElem?, Array.getElem?_replicate] at hi
            split at hi <;> simp at hi
          ext := by
            have X := Ext.drew A μ w
            exact ⟨X.mono, fun _ _ _ => rfl, fun b g h3 h4 => hfr b g h3 (by simpa using h4), by simpa using hn, X.os, X.tape, X.output, X.size, X.range, fun b hb h0 => by rw [pad_aWr hb hn]; exact h0, X.frame⟩
          n := Nat.le_refl _
          defers := rfl }
      · rw [← orderOK_len c1]
        unfold todo
        rw [List.countP_eq_length]
        simp

def exOf : AEx → Exit
  | .normal => .normal
  | .exit id => .exit id
  | .ret => .ret
def PostOK (Q : Exit → Act → World → Prop) (s : ASt) (A : AHeap) (μ : Mu) (w : World) (a : Act) : Prop :=
  ∀ a' w' μ', TR μ' s.ts a'.tmps → Rel s.H μ' w' → Ext A s.H μ μ' w w' → a'.defers = a.defers → Q (exOf s.ex) a' w'
theorem loopN_n {body : Ts → AHeap → Option ASt} (hb : ∀ ts A s, body ts A = some s → A.n ≤ s.H.n) : ∀ {n : Nat} {ts : Ts} {A : AHeap} {s : ASt}, loopN body n ts A = some s → A.n ≤ s.H.n
  | 0, _, _, _, h => by simp [loopN] at h
  | n + 1, ts, A, s, h => by
    simp only [loopN, Option.bind_eq_some_iff] at h
    obtain ⟨s1, h1, h2⟩ := h
    have n1 := hb _ _ _ h1
    split at h2
    · exact Nat.le_trans n1 (loopN_n hb h2)
    · cases h2; exact n1
include hC in
theorem evCode_n {n : Nat} : ∀ {c : Code} {ts : Ts} {A : AHeap} {s : ASt}, evCode E call n c ts A = some s → A.n ≤ s.H.n := by
  intro c
  induction c with
  | skip => intro ts A s h; simp only [evCode_skip, evCode_region, evCode_seq, evCode_cond, evCode_block, evCode_loop, evCode_exit, evCode_ret, evCode_rangeFunc, evCode_scope, evCode_label, evCode_goto, evCode_refuse] at h; cases h; exact Nat.le_refl _
  | region id ops draw =>
    intro ts A s h
    simp only [evCode_skip, evCode_region, evCode_seq, evCode_cond, evCode_block, evCode_loop, evCode_exit, evCode_ret, evCode_rangeFunc, evCode_scope, evCode_label, evCode_goto, evCode_refuse, Option.bind_eq_some_iff] at h
    obtain ⟨⟨ts', A'⟩, h1, h2⟩ := h
    cases h2
    exact runRegion_n hC h1
  | seq a b iha ihb =>
    intro ts A s h
    simp only [evCode_skip, evCode_region, evCode_seq, evCode_cond, evCode_block, evCode_loop, evCode_exit, evCode_ret, evCode_rangeFunc, evCode_scope, evCode_label, evCode_goto, evCode_refuse, Option.bind_eq_some_iff] at h
    obtain ⟨s1, h1, h2⟩ := h
    split at h2
    · exact Nat.le_trans (iha h1) (ihb h2)
    · cases h2; exact iha h1
  | cond c a b iha ihb =>
    intro ts A s h
    simp only [evCode_skip, evCode_region, evCode_seq, evCode_cond, evCode_block, evCode_loop, evCode_exit, evCode_ret, evCode_rangeFunc, evCode_scope, evCode_label, evCode_goto, evCode_refuse, Option.bind_eq_some_iff] at h
    obtain ⟨v, _, h2⟩ := h
    split at h2
    · exact iha h2
    · exact ihb h2
    · cases h2
  | block id c ih =>
    intro ts A s h
    simp only [evCode_skip, evCode_region, evCode_seq, evCode_cond, evCode_block, evCode_loop, evCode_exit, evCode_ret, evCode_rangeFunc, evCode_scope, evCode_label, evCode_goto, evCode_refuse, Option.bind_eq_some_iff] at h
    obtain ⟨s1, h1, h2⟩ := h
    have n1 := ih h1
    split at h2
    · rename_i id' _
      cases hb : Nat.beq id' id <;> simp only [hb, cond_true, cond_false, Option.some.injEq] at h2 <;> (subst h2; exact n1)
    · cases h2; exact n1
  | loop c ih => intro ts A s h; simp only [evCode_skip, evCode_region, evCode_seq, evCode_cond, evCode_block, evCode_loop, evCode_exit, evCode_ret, evCode_rangeFunc, evCode_scope, evCode_label, evCode_goto, evCode_refuse] at h; exact loopN_n (fun ts A s h => ih h) h
  | exit id => intro ts A s h; simp only [evCode_skip, evCode_region, evCode_seq, evCode_cond, evCode_block, evCode_loop, evCode_exit, evCode_ret, evCode_rangeFunc, evCode_scope, evCode_label, evCode_goto, evCode_refuse] at h; cases h; exact Nat.le_refl _
  | ret => intro ts A s h; simp only [evCode_skip, evCode_region, evCode_seq, evCode_cond, evCode_block, evCode_loop, evCode_exit, evCode_ret, evCode_rangeFunc, evCode_scope, evCode_label, evCode_goto, evCode_refuse] at h; cases h; exact Nat.le_refl _
  | _ => intro ts A s h; simp [evCode_skip, evCode_region, evCode_seq, evCode_cond, evCode_block, evCode_loop, evCode_exit, evCode_ret, evCode_rangeFunc, evCode_scope, evCode_label, evCode_goto, evCode_refuse] at h
theorem PostOK.trans {Q : Exit → Act → World → Prop} {s : ASt} {A A1 : AHeap} {μ μ1 : Mu} {w w1 : World} {a a1 : Act} (h : PostOK Q s A μ w a) (X : Ext A A1 μ μ1 w w1) (hd : a1.defers = a.defers) : PostOK Q s A1 μ1 w1 a1 :=
  fun a' w' μ' t1 t2 t3 t4 => h a' w' μ' t1 t2 (X.trans t3) (t4.trans hd)
theorem Fresh.ext {A A1 : AHeap} {N : Nat} {μ μ1 : Mu} {w w1 : World} (h : Fresh μ A.n N) (X : Ext A A1 μ μ1 w w1) : Fresh μ1 A1.n N := fun b g h1 h2 => by
  have := X.n
  rw [X.above b g h1]; exact h b g (by omega) h2
/-- what is right of one round is right of the loop -/
theorem loop_sound {body : Ts → AHeap → Option ASt} {c : Code} (hbn : ∀ ts A s, body ts A = some s → A.n ≤ s.H.n)
    (hb : ∀ {ts : Ts} {A : AHeap} {s : ASt}, body ts A = some s → ∀ {μ : Mu} {w : World} {a : Act} {Q : Exit → Act → World → Prop}, Rel A μ w → Val.J μ w → TR μ ts a.tmps → Fresh μ A.n s.H.n → PostOK Q s A μ w a → c.wp P Q a w) :
    ∀ (n : Nat) {ts : Ts} {A : AHeap} {s : ASt}, loopN body n ts A = some s → ∀ {μ : Mu} {w : World} {a : Act} {Q : Exit → Act → World → Prop}, Rel A μ w → Val.J μ w → TR μ ts a.tmps → Fresh μ A.n s.H.n → PostOK Q s A μ w a →
      ∀ (b : Frame) (k : List Go.Item) (cs : List Frame), ∃ e a' w', Q e a' w' ∧ Arrives P (lone (b.at a (.code c :: .inLoop c :: k)) cs w) b k cs e a' w' := by
  intro n
  induction n with
  | zero => intro ts A s h; simp [loopN] at h
  | succ n ih =>
    intro ts A s h μ w a Q R hJ T hfr hQ b k cs
    simp only [loopN, Option.bind_eq_some_iff] at h
    obtain ⟨s1, h1, h2⟩ := h
    have n1 := hbn _ _ _ h1
    cases hex : s1.ex with
    | normal =>
      rw [hex] at h2
      simp only at h2
      have n2 := loopN_n hbn h2
      obtain ⟨e, a1, w1, hq, harr⟩ := hb h1 (Q := fun e a' w' => ∃ μ', e = .normal ∧ TR μ' s1.ts a'.tmps ∧ Rel s1.H μ' w' ∧ Ext A s1.H μ μ' w w' ∧ a'.defers = a.defers) R hJ T (hfr.sub (Nat.le_refl _) n2)
        (fun a' w' μ' t1 t2 t3 t4 => ⟨μ', by rw [hex]; rfl, t1, t2, t3, t4⟩) b (.inLoop c :: k) cs
      obtain ⟨μ1, rfl, t1, t2, t3, t4⟩ := hq
      obtain ⟨e2, a2, w2, hq2, harr2⟩ := ih h2 t2 (Val.keep hJ t3) t1 (hfr.ext t3) (hQ.trans t3 t4) b k cs
      exact ⟨e2, a2, w2, hq2, .of_steps (Steps.trans harr (.one step_inLoop)) harr2⟩
    | exit id =>
      rw [hex] at h2
      simp only [Option.some.injEq] at h2
      subst h2
      obtain ⟨e, a1, w1, hq, harr⟩ := hb h1 (Q := fun e a' w' => e = .exit id ∧ Q e a' w') R hJ T hfr (fun a' w' μ' t1 t2 t3 t4 => ⟨by rw [hex]; rfl, hQ a' w' μ' t1 t2 t3 t4⟩) b (.inLoop c :: k) cs
      obtain ⟨rfl, hq⟩ := hq
      exact ⟨_, a1, w1, hq, .pass (x := .inLoop c) rfl (fun _ _ => .inl (by simp)) harr⟩
    | ret =>
      rw [hex] at h2
      simp only [Option.some.injEq] at h2
      subst h2
      obtain ⟨e, a1, w1, hq, harr⟩ := hb h1 (Q := fun e a' w' => e = .ret ∧ Q e a' w') R hJ T hfr (fun a' w' μ' t1 t2 t3 t4 => ⟨by rw [hex]; rfl, hQ a' w' μ' t1 t2 t3 t4⟩) b (.inLoop c :: k) cs
      obtain ⟨rfl, hq⟩ := hq
      exact ⟨_, a1, w1, hq, .pass (x := .inLoop c) rfl (fun _ _ => .inl (by simp)) harr⟩
include hE hC hm in
theorem code_sound {n : Nat} : ∀ {c : Code} {ts : Ts} {A : AHeap} {s : ASt}, evCode E call n c ts A = some s → ∀ {μ : Mu} {w : World} {a : Act} {Q : Exit → Act → World → Prop}, Rel A μ w → Val.J μ w → TR μ ts a.tmps → Fresh μ A.n s.H.n → PostOK Q s A μ w a → c.wp P Q a w := by
  intro c
  induction c with
  | skip =>
    intro ts A s h μ w a Q R hJ T hfr hQ
    simp only [evCode_skip, evCode_region, evCode_seq, evCode_cond, evCode_block, evCode_loop, evCode_exit, evCode_ret, evCode_rangeFunc, evCode_scope, evCode_label, evCode_goto, evCode_refuse] at h; cases h
    exact wp_skip (hQ a w μ T R (Ext.refl _ _ _) rfl)
  | region id ops draw =>
    intro ts A s h μ w a Q R hJ T hfr hQ
    simp only [evCode_skip, evCode_region, evCode_seq, evCode_cond, evCode_block, evCode_loop, evCode_exit, evCode_ret, evCode_rangeFunc, evCode_scope, evCode_label, evCode_goto, evCode_refuse, Option.bind_eq_some_iff] at h
    obtain ⟨⟨ts', A'⟩, h1, h2⟩ := h
    cases h2
    exact region_sound hE hC hm h1 R hJ T hfr hQ
  | seq x y iha ihb =>
    intro ts A s h μ w a Q R hJ T hfr hQ
    simp only [evCode_skip, evCode_region, evCode_seq, evCode_cond, evCode_block, evCode_loop, evCode_exit, evCode_ret, evCode_rangeFunc, evCode_scope, evCode_label, evCode_goto, evCode_refuse, Option.bind_eq_some_iff] at h
    obtain ⟨s1, h1, h2⟩ := h
    refine wp_seq ?_
    cases hex : s1.ex with
    | normal =>
      rw [hex] at h2
      simp only at h2
      have n2 := evCode_n hC h2
      refine iha h1 R hJ T (hfr.sub (Nat.le_refl _) n2) fun a' w' μ' t1 t2 t3 t4 => ?_
      rw [hex]
      simp only [exOf, Exit.then]
      exact ihb h2 t2 (Val.keep hJ t3) t1 (hfr.ext t3) (hQ.trans t3 t4)
    | exit id =>
      rw [hex] at h2
      simp only [Option.some.injEq] at h2
      subst h2
      refine iha h1 R hJ T hfr fun a' w' μ' t1 t2 t3 t4 => ?_
      have := hQ a' w' μ' t1 t2 t3 t4
      rw [hex] at this ⊢
      exact this
    | ret =>
      rw [hex] at h2
      simp only [Option.some.injEq] at h2
      subst h2
      refine iha h1 R hJ T hfr fun a' w' μ' t1 t2 t3 t4 => ?_
      have := hQ a' w' μ' t1 t2 t3 t4
      rw [hex] at this ⊢
      exact this
  | cond c x y iha ihb =>
    intro ts A s h μ w a Q R hJ T hfr hQ
    simp only [evCode_skip, evCode_region, evCode_seq, evCode_cond, evCode_block, evCode_loop, evCode_exit, evCode_ret, evCode_rangeFunc, evCode_scope, evCode_label, evCode_goto, evCode_refuse, Option.bind_eq_some_iff] at h
    obtain ⟨v, h1, h2⟩ := h
    have hv := evalO_VR hE T h1
    split at h2
    · simp only [VR] at hv
      exact wp_cond_true hv (iha h2 R hJ T hfr hQ)
    · simp only [VR] at hv
      exact wp_cond_false hv (ihb h2 R hJ T hfr hQ)
    · cases h2
  | block id c ih =>
    intro ts A s h μ w a Q R hJ T hfr hQ
    simp only [evCode_skip, evCode_region, evCode_seq, evCode_cond, evCode_block, evCode_loop, evCode_exit, evCode_ret, evCode_rangeFunc, evCode_scope, evCode_label, evCode_goto, evCode_refuse, Option.bind_eq_some_iff] at h
    obtain ⟨s1, h1, h2⟩ := h
    refine wp_block ?_
    cases hex : s1.ex with
    | normal =>
      rw [hex] at h2
      simp only [Option.some.injEq] at h2
      subst h2
      refine ih h1 R hJ T hfr fun a' w' μ' t1 t2 t3 t4 => ?_
      have := hQ a' w' μ' t1 t2 t3 t4
      rw [hex] at this ⊢
      exact this
    | exit id' =>
      rw [hex] at h2
      simp only at h2
      cases hb : Nat.beq id' id with
      | true =>
        simp only [hb, cond_true, Option.some.injEq] at h2
        subst h2
        have : id' = id := by simpa using hb
        subst this
        refine ih h1 R hJ T hfr fun a' w' μ' t1 t2 t3 t4 => ?_
        rw [hex]
        simp only [exOf, Exit.inBlock, if_true]
        exact hQ a' w' μ' t1 t2 t3 t4
      | false =>
        simp only [hb, cond_false, Option.some.injEq] at h2
        subst h2
        have hne : ¬ id' = id := by intro e; subst e; simp at hb
        refine ih h1 R hJ T hfr fun a' w' μ' t1 t2 t3 t4 => ?_
        have := hQ a' w' μ' t1 t2 t3 t4
        rw [hex] at this ⊢
        simp only [exOf, Exit.inBlock, if_neg hne]
        exact this
    | ret =>
      rw [hex] at h2
      simp only [Option.some.injEq] at h2
      subst h2
      refine ih h1 R hJ T hfr fun a' w' μ' t1 t2 t3 t4 => ?_
      have := hQ a' w' μ' t1 t2 t3 t4
      rw [hex] at this ⊢
      exact this
  | loop c ih =>
    intro ts A s h μ w a Q R hJ T hfr hQ b k cs
    simp only [evCode_skip, evCode_region, evCode_seq, evCode_cond, evCode_block, evCode_loop, evCode_exit, evCode_ret, evCode_rangeFunc, evCode_scope, evCode_label, evCode_goto, evCode_refuse] at h
    obtain ⟨e, a', w', hq, harr⟩ := loop_sound (fun ts A s h => evCode_n hC h) (fun h => ih h) n h R hJ T hfr hQ b k cs
    exact ⟨e, a', w', hq, .of_steps (.one step_loop) harr⟩
  | exit id =>
    intro ts A s h μ w a Q R hJ T hfr hQ
    simp only [evCode_skip, evCode_region, evCode_seq, evCode_cond, evCode_block, evCode_loop, evCode_exit, evCode_ret, evCode_rangeFunc, evCode_scope, evCode_label, evCode_goto, evCode_refuse] at h; cases h
    exact wp_exit (hQ a w μ T R (Ext.refl _ _ _) rfl)
  | ret =>
    intro ts A s h μ w a Q R hJ T hfr hQ
    simp only [evCode_skip, evCode_region, evCode_seq, evCode_cond, evCode_block, evCode_loop, evCode_exit, evCode_ret, evCode_rangeFunc, evCode_scope, evCode_label, evCode_goto, evCode_refuse] at h; cases h
    exact wp_ret (hQ a w μ T R (Ext.refl _ _ _) rfl)
  | _ => intro ts A s h; simp [evCode_skip, evCode_region, evCode_seq, evCode_cond, evCode_block, evCode_loop, evCode_exit, evCode_ret, evCode_rangeFunc, evCode_scope, evCode_label, evCode_goto, evCode_refuse] at h
def resOne (tmps : Array Value) : ResultVar → Sem Value
  | .tmp t => pure (tmps.getD t undef)
  | .cell a t => do loadVar t (← asAddr (tmps.getD a undef))
include hE in
theorem resVals_sound {ts : Ts} {A : AHeap} {μ : Mu} {w : World} (R : Rel A μ w) {tmps : Array Value} (T : TR μ ts tmps) : ∀ {rs : List ResultVar} {vs : List AV}, resVals E ts A rs = some vs →
    ∃ us, (rs.mapM (resOne tmps)).run P w = .ok us w ∧ VRs μ vs us
  | [], vs, h => by simp only [resVals] at h; cases h; exact ⟨[], by simp, VRs.nil⟩
  | .tmp t :: r, vs, h => by
    simp only [resVals, Option.bind_eq_some_iff] at h
    obtain ⟨v, h1, vs', h2, h3⟩ := h
    cases h3
    obtain ⟨us, e1, e2⟩ := resVals_sound R T h2
    refine ⟨tmps.getD t undef :: us, ?_, VRs.cons (T.get h1) e2⟩
    rw [List.mapM_cons]
    simp only [resOne, Sem.run_bind, Sem.run_pure, Result.andThen_ok, e1]
  | .cell a t :: r, vs, h => by
    simp only [resVals, Option.bind_eq_some_iff] at h
    obtain ⟨p, h0, v, h1, vs', h2, h3⟩ := h
    cases h3
    obtain ⟨us, e1, e2⟩ := resVals_sound R T h2
    have hp := T.get h0
    obtain ⟨x, l1, l2⟩ := load_sound hE R h1 hp
    refine ⟨x :: us, ?_, VRs.cons l2 e2⟩
    rw [List.mapM_cons]
    simp only [resOne]
    rw [aLoad_eq] at h1; unfold aLoadO at h1
    split at h1
    · simp only [VR] at hp
      obtain ⟨c, sz, _, hp⟩ := hp
      rw [hp] at l1 ⊢
      simp only [Instr.loadAt, Instr.sureAddr, Sem.run_bind, Sem.run_pure, Result.andThen_ok] at l1
      simp only [Sem.run_bind, asAddr, Sem.run_pure, Result.andThen_ok, l1, e1]
    · simp only [VR] at hp
      obtain ⟨c, sz, _, _, hp⟩ := hp
      rw [hp] at l1 ⊢
      simp only [Instr.loadAt, Instr.sureAddr, Sem.run_bind, Sem.run_pure, Result.andThen_ok] at l1
      simp only [Sem.run_bind, asAddr, Sem.run_pure, Result.andThen_ok, l1, e1]
    · cases h1
theorem resOf_VR {μ : Mu} {vs : List AV} {us : List Value} (h : VRs μ vs us) : VR μ (resOf vs) (if h : us.toArray.size = 1 then us.toArray[0] else .tuple us.toArray) := by
  have hl := h.length
  unfold resOf
  split
  · rename_i v
    simp only [VRs] at h
    obtain ⟨u, us', rfl, h2, rfl⟩ := h
    simpa using h2
  · rename_i hne
    have : ¬ us.toArray.size = 1 := fun e => by
      simp at e
      rw [hl] at e
      match vs, e with
      | [v], _ => exact hne v rfl
    rw [dif_neg this]
    simp only [VR]
    exact ⟨us, h, rfl⟩
include hE in
theorem results_sound {ts : Ts} {A : AHeap} {μ : Mu} {w : World} (R : Rel A μ w) {tmps : Array Value} (T : TR μ ts tmps) {F : Func} {vs : List AV} (h : resVals E ts A F.results.toList = some vs) :
    ∃ u, (results F tmps).run P w = .ok u w ∧ VR μ (resOf vs) u := by
  obtain ⟨us, e1, e2⟩ := resVals_sound hE R T h
  refine ⟨_, ?_, resOf_VR e2⟩
  have e : results F tmps = (do let vs ← F.results.mapM (resOne tmps); pure (if h : vs.size = 1 then vs[0] else .tuple vs)) := rfl
  rw [e, Array.mapM_eq_mapM_toList]
  simp only [Sem.run_bind, Sem.run_map, e1, Result.andThen_ok, Sem.run_pure]
include hC in
theorem evBody_n {n : Nat} {F : Func} {args : List AV} {A A' : AHeap} {v : AV} (h : evBody E call n F args A = some (v, A')) : A.n ≤ A'.n := by
  unfold evBody at h
  split at h
  · simp only [Option.bind_eq_some_iff] at h
    obtain ⟨s, h1, h2⟩ := h
    have n1 := evCode_n hC h1
    split at h2
    · cases h2
    · simp only [Option.bind_eq_some_iff, Option.some.injEq, Prod.mk.injEq] at h2
      obtain ⟨_, _, _, rfl⟩ := h2
      exact n1
  · cases h
theorem TR.args {μ : Mu} {args : List AV} {us : List Value} (hus : VRs μ args us) (n : Nat) : TR μ (Ts.ofArgs args n) (us.toArray ++ Array.replicate (n - us.toArray.size) undef) := by
  have hl := hus.length
  refine ⟨by simp [Ts.ofArgs, hl]; omega, fun t v ht => ?_⟩
  obtain ⟨h3, rfl⟩ := Ts.get_lt ht
  rw [Ts.ofArgs_f]
  simp only [Ts.ofArgs] at h3
  rw [Array.getElem?_append]
  cases hv : args[t]? with
  | some v =>
    obtain ⟨u, h4, h5⟩ := hus.get hv
    have : t < us.length := (List.getElem?_eq_some_iff.1 h4).1
    exact ⟨u, by simpa [this] using h4, h5⟩
  | none =>
    have h4 := List.getElem?_eq_none_iff.1 hv
    refine ⟨undef, ?_, VR_undef μ⟩
    have h5 : ¬ t < us.toArray.size := by simp; omega
    rw [if_neg h5]
    simp only [List.size_toArray, Array.getElem?_replicate]
    rw [if_pos (by omega)]
include hE hC hm in
theorem body_sound {n : Nat} {f : FuncId} {F : Func} (hF : P.funcs[f]? = some F) {args : List AV} {A A' : AHeap} {v : AV} (h : evBody E call n F args A = some (v, A')) {μ : Mu} {w : World} {us : List Value} (R : Rel A μ w) (hJ : Val.J μ w) (hus : VRs μ args us) (hfr : Fresh μ A.n A'.n) :
    Calls P f us.toArray w fun e w' => ∃ u μ', e = .returned u ∧ VR μ' v u ∧ Rel A' μ' w' ∧ Ext A A' μ μ' w w' := by
  unfold evBody at h
  split at h
  · rename_i c hb
    simp only [Option.bind_eq_some_iff] at h
    obtain ⟨s, h1, h2⟩ := h
    refine calls_of_wp hF hb ?_
    have T := TR.args hus F.ntmps
    cases hex : s.ex with
    | exit id => rw [hex] at h2; cases h2
    | normal =>
      rw [hex] at h2
      simp only [Option.bind_eq_some_iff, Option.some.injEq, Prod.mk.injEq] at h2
      obtain ⟨vs, h3, rfl, rfl⟩ := h2
      refine code_sound hE hC hm h1 R hJ T hfr fun a' w' μ' t1 t2 t3 t4 => ?_
      rw [hex]
      obtain ⟨u, e1, e2⟩ := results_sound hE t2 t1 h3
      exact ⟨t4, u, e1, u, μ', rfl, e2, t2, t3⟩
    | ret =>
      rw [hex] at h2
      simp only [Option.bind_eq_some_iff, Option.some.injEq, Prod.mk.injEq] at h2
      obtain ⟨vs, h3, rfl, rfl⟩ := h2
      refine code_sound hE hC hm h1 R hJ T hfr fun a' w' μ' t1 t2 t3 t4 => ?_
      rw [hex]
      obtain ⟨u, e1, e2⟩ := results_sound hE t2 t1 h3
      exact ⟨t4, u, e1, u, μ', rfl, e2, t2, t3⟩
  · cases h
/-- what must be shown of a function that is known otherwise -/
structure ExtOK (P : Program) (E : Env) (ext : FuncId → Option (List AV → AHeap → Option (AV × AHeap))) : Prop where
  fn : ∀ f g, ext f = some g → (E.fn f).isSome = true
  n : ∀ f g, ext f = some g → ∀ args A v A', g args A = some (v, A') → A.n ≤ A'.n
  ok : ∀ f g, ext f = some g → ∀ args A v A', g args A = some (v, A') → ∀ μ w us, Rel A μ w → Val.J μ w → VRs μ args us → Fresh μ A.n A'.n →
    Calls P f us.toArray w fun e w' => ∃ u μ', e = .returned u ∧ VR μ' v u ∧ Rel A' μ' w' ∧ Ext A A' μ μ' w w'
include hE hm in
/-- THE EVALUATOR IS RIGHT -/
theorem evCall_ok {ext : FuncId → Option (List AV → AHeap → Option (AV × AHeap))} (hX : ExtOK P E ext) : ∀ n, CallOK P E (evCall E ext n)
  | 0 => ⟨fun f args A v A' h => by simp [evCall] at h, fun f args A v A' h => by simp [evCall] at h, fun f args A v A' h => by simp [evCall] at h⟩
  | n + 1 => by
    have ih := evCall_ok hX n
    refine ⟨fun f args A v A' h => ?_, fun f args A v A' h => ?_, fun f args A v A' h μ w us R hJ hus hfr => ?_⟩ <;> simp only [evCall] at h <;> split at h
    · rename_i g hg; exact hX.fn f g hg
    · simp only [Option.bind_eq_some_iff] at h
      obtain ⟨F, h1, _⟩ := h
      simp [h1]
    · rename_i g hg; exact hX.n f g hg _ _ _ _ h
    · simp only [Option.bind_eq_some_iff] at h
      obtain ⟨F, _, h2⟩ := h
      exact evBody_n ih h2
    · rename_i g hg; exact hX.ok f g hg _ _ _ _ h μ w us R hJ hus hfr
    · simp only [Option.bind_eq_some_iff] at h
      obtain ⟨F, h1, h2⟩ := h
      exact body_sound hE ih hm (hE.fn f F h1).1 h2 R hJ hus hfr
end
end
end Go.AE
end
