/- The abstract evaluator, part 8: regions, code, calls. -/
import Derived.Test.YteabbkagekdehaaAe7
import Derived.Tactics
set_option linter.unusedVariables false
set_option linter.unusedSimpArgs false
namespace Go.AE

/-! ### Regions in the order of the text -/
abbrev ACall := FuncId → List AV → AHeap → Option (AV × AHeap)
def putA (ts : Ts) (d : Option Tmp) (v : AV) : Ts := match d with | some d => ts.set d v | none => ts
def guardTmp (ops : Array Oper) (j : Nat) : Option Tmp := (ops[j]?).bind (·.dst)
def wantA (ops : Array Oper) (ts : Ts) (o : Oper) : Bool :=
  match o.guard with
  | none => true
  | some (j, want) => match guardTmp ops j with
    | some t => match ts.get t with
      | some (.bool b) => b == want
      | _ => false
    | none => false
def stepNew (H : AHeap) (x : Option ANew) : Option (AV × AHeap) := x.bind fun p => some (p.2 H.n, H.push p.1)
def stepEff (call : ACall) (H : AHeap) (x : Option AOut) : Option (AV × AHeap) := x.bind fun out => match out with
  | .val v H' => some (v, H')
  | .enter f args => call f args H
def stepPass (H : AHeap) (x : Option AV) : Option (AV × AHeap) := x.bind fun v => some (v, H)
def stepOp (E : Env) (call : ACall) (ts : Ts) (H : AHeap) (op : Op) : Option (AV × AHeap) :=
  match opKind op with
  | .pass => stepPass H (aPass E ts H op)
  | .new => stepNew H (aNewO E ts op)
  | .eff => stepEff call H (aEff E ts H op)
def runOps (E : Env) (call : ACall) (ops : Array Oper) : List Oper → Ts → AHeap → Option (Ts × AHeap)
  | [], ts, H => some (ts, H)
  | o :: r, ts, H => match wantA ops ts o with
    | true => (stepOp E call ts H o.op).bind fun p => runOps E call ops r (putA ts o.dst p.1) p.2
    | false => runOps E call ops r (putA ts o.dst .undef) H

/-! ### Regions that draw their order -/
mutual
def AV.beq : AV → AV → Bool
  | .bool a, .bool b => a == b
  | .int k a, .int k' b => decide (k = k') && decide (a = b)
  | .sym k a, .sym k' b => decide (k = k') && decide (a = b)
  | .str a, .str b => decide (a.data.toList = b.data.toList)
  | .ptr b g o, .ptr b' g' o' => Nat.beq b b' && Nat.beq g g' && Nat.beq o o'
  | .nilPtr, .nilPtr => true
  | .sptr b g o l es z, .sptr b' g' o' l' es' z' => Nat.beq b b' && Nat.beq g g' && Nat.beq o o' && Nat.beq l l' && Nat.beq es es' && decide (z = z')
  | .opq a, .opq b => Nat.beq a b
  | .sl b g o l lo ex es, .sl b' g' o' l' lo' ex' es' => Nat.beq b b' && Nat.beq g g' && Nat.beq o o' && Nat.beq l l' && Nat.beq lo lo' && ex == ex' && Nat.beq es es'
  | .nilSl, .nilSl => true
  | .map b, .map b' => Nat.beq b b'
  | .nilMap, .nilMap => true
  | .fn f a b, .fn f' a' b' => Nat.beq f f' && AV.beqs a a' && AV.beqs b b'
  | .nilFn, .nilFn => true
  | .iface t v, .iface t' v' => Nat.beq t t' && AV.beq v v'
  | .nilIface, .nilIface => true
  | .agg a, .agg b => AV.beqs a b
  | .tup a, .tup b => AV.beqs a b
  | _, _ => false
def AV.beqs : List AV → List AV → Bool
  | [], [] => true
  | a :: x, b :: y => AV.beq a b && AV.beqs x y
  | _, _ => false
end
mutual
theorem AV.eq_of_beq : ∀ (a b : AV), AV.beq a b = true → a = b := by
  intro a b h
  cases a <;> cases b <;> simp only [AV.beq, Bool.and_eq_true, Nat.beq_eq, decide_eq_true_eq, beq_iff_eq] at h <;> try (cases h; done)
  case bool => rw [h]
  case int => rw [h.1, h.2]
  case sym => rw [h.1, h.2]
  case str a b =>
    obtain ⟨⟨x⟩⟩ := a
    obtain ⟨⟨y⟩⟩ := b
    simp at h; simp [h]
  case ptr => obtain ⟨⟨rfl, rfl⟩, rfl⟩ := h; rfl
  case nilPtr => rfl
  case sptr => obtain ⟨⟨⟨⟨⟨rfl, rfl⟩, rfl⟩, rfl⟩, rfl⟩, rfl⟩ := h; rfl
  case opq => rw [h]
  case sl => obtain ⟨⟨⟨⟨⟨⟨rfl, rfl⟩, rfl⟩, rfl⟩, rfl⟩, rfl⟩, rfl⟩ := h; rfl
  case nilSl => rfl
  case map => rw [h]
  case nilMap => rfl
  case fn f a1 b1 f' a2 b2 => obtain ⟨⟨rfl, h2⟩, h3⟩ := h; rw [AV.eq_of_beqs a1 a2 h2, AV.eq_of_beqs b1 b2 h3]
  case nilFn => rfl
  case iface t v t' v' => obtain ⟨rfl, h2⟩ := h; rw [AV.eq_of_beq v v' h2]
  case nilIface => rfl
  case agg a1 a2 => rw [AV.eq_of_beqs a1 a2 h]
  case tup a1 a2 => rw [AV.eq_of_beqs a1 a2 h]
theorem AV.eq_of_beqs : ∀ (a b : List AV), AV.beqs a b = true → a = b := by
  intro a b h
  cases a <;> cases b <;> simp only [AV.beqs, Bool.and_eq_true] at h <;> try (cases h; done)
  case nil => rfl
  case cons a1 x b1 y => rw [AV.eq_of_beq a1 b1 h.1, AV.eq_of_beqs x y h.2]
end

def maskOf (acc : List Nat) (o : Oper) : Nat := o.after.toList.foldl (fun s e => bif Region.binds .any e then s ||| 2 ^ e.on ||| acc.getD e.on 0 else s) 0
def masks : List Oper → List Nat → List Nat
  | [], acc => acc
  | o :: r, acc => masks r (acc ++ [maskOf acc o])
def isEff (o : Oper) : Bool := match opKind o.op with | .eff => true | _ => false
/-- the order in which the evaluator goes: the writing operations in the text's order, ahead of each what it waits for -/
def canonGo (n : Nat) (ms : List Nat) : List Nat → List Nat → List Nat
  | [], done => done ++ (List.range n).filter fun i => !done.elem i
  | e :: es, done => canonGo n ms es (done ++ ((List.range n).filter fun i => !done.elem i && (ms.getD e 0).testBit i) ++ [e])
def canon (ops : List Oper) (ms : List Nat) : List Nat := canonGo ops.length ms ((List.range ops.length).filter fun i => match ops[i]? with | some o => isEff o | none => false) []
def planOps (ops : List Oper) (ms : List Nat) : List Nat → List (Nat × Nat × Oper)
  | [] => []
  | i :: is => match ops[i]? with | some o => (i, ms.getD i 0, o) :: planOps ops ms is | none => planOps ops ms is
/-- all that the proof needs of an order, asked of it -/
def orderOK (ops : Array Oper) (ms : List Nat) : List (Nat × Nat × Oper) → List Nat → Bool
  | [], done => (List.range ops.size).all fun i => done.elem i
  | (i, m, o) :: r, done => !done.elem i && Nat.blt i ops.size && o.after.toList.all (fun e => !Region.binds .any e || done.elem e.on) &&
      (!isEff o || done.all fun k => m.testBit k) && orderOK ops ms r (done ++ [i])
def apartOK (ops : Array Oper) : List (Nat × Nat × Oper) → Bool
  | [] => true
  | (i, m, o) :: r => r.all (fun (j, m', o') => m'.testBit i || Oper.apart ops o o') && apartOK ops r
def noSel (o : Oper) : Bool := match o.op with | .select .. => false | _ => true
def plan (ops : Array Oper) : Option (List (Nat × Nat × Oper)) :=
  let ms := masks ops.toList []
  let p := planOps ops.toList ms (canon ops.toList ms)
  bif orderOK ops ms p [] && apartOK ops p && ops.toList.all noSel then some p else none
def heapDep : Op → Bool
  | .load .. | .lookup .. => true
  | .binOp .eql .. | .binOp .neq .. => true
  | .call _ => true
  | _ => false
/-- the value is the same in each heap since the last writing operation that it waits for -/
def chk (E : Env) (ts : Ts) (op : Op) (v : AV) (m : Nat) : List (Nat × AHeap) → AHeap → Bool
  | [], A0 => match aPass E ts A0 op with | some u => AV.beq u v | none => false
  | (e, A) :: h, A0 => (match aPass E ts A op with | some u => AV.beq u v | none => false) && (m.testBit e || chk E ts op v m h A0)
def chkPast (E : Env) (ts : Ts) (op : Op) (v : AV) (m : Nat) : List (Nat × AHeap) → AHeap → Bool
  | [], _ => true
  | (e, _) :: h, A0 => m.testBit e || chk E ts op v m h A0
def lastH : List (Nat × AHeap) → AHeap → AHeap
  | [], A0 => A0
  | (_, A) :: _, _ => A
def runPlan (E : Env) (call : ACall) (ops : Array Oper) (A0 : AHeap) : List (Nat × Nat × Oper) → List (Nat × AHeap) → Ts → AHeap → Option (Ts × AHeap)
  | [], _, ts, H => some (ts, H)
  | (i, m, o) :: r, hist, ts, H => match wantA ops ts o with
    | true => match opKind o.op with
      | .pass => (aPass E ts (lastH hist A0) o.op).bind fun v => bif !heapDep o.op || chkPast E ts o.op v m hist A0 then runPlan E call ops A0 r hist (putA ts o.dst v) H else none
      | .new => (stepNew H (aNewO E ts o.op)).bind fun p => runPlan E call ops A0 r hist (putA ts o.dst p.1) p.2
      | .eff => (stepEff call H (aEff E ts H o.op)).bind fun p => runPlan E call ops A0 r ((i, p.2) :: hist) (putA ts o.dst p.1) p.2
    | false => match opKind o.op with
      | .eff => runPlan E call ops A0 r ((i, H) :: hist) (putA ts o.dst .undef) H
      | _ => runPlan E call ops A0 r hist (putA ts o.dst .undef) H
def runRegion (E : Env) (call : ACall) (ops : Array Oper) (draw : Bool) (ts : Ts) (H : AHeap) : Option (Ts × AHeap) :=
  match draw with
  | false => runOps E call ops ops.toList ts H
  | true => (plan ops).bind fun p => runPlan E call ops H p [] ts H

/-! ### Code -/
inductive AEx where
  | normal
  | exit (id : Nat)
  | ret
structure ASt where
  ex : AEx
  ts : Ts
  H : AHeap
def loopN (body : Ts → AHeap → Option ASt) : Nat → Ts → AHeap → Option ASt
  | 0, _, _ => none
  | n + 1, ts, H => (body ts H).bind fun s => match s.ex with
    | .normal => loopN body n s.ts s.H
    | _ => some s
def evCode (E : Env) (call : ACall) (n : Nat) : Code → Ts → AHeap → Option ASt
  | .skip, ts, H => some ⟨.normal, ts, H⟩
  | .region _ ops draw, ts, H => (runRegion E call ops draw ts H).bind fun p => some ⟨.normal, p.1, p.2⟩
  | .seq a b, ts, H => (evCode E call n a ts H).bind fun s => match s.ex with
    | .normal => evCode E call n b s.ts s.H
    | _ => some s
  | .cond c a b, ts, H => (evalO E ts c).bind fun v => match v with
    | .bool true => evCode E call n a ts H
    | .bool false => evCode E call n b ts H
    | _ => none
  | .block id c, ts, H => (evCode E call n c ts H).bind fun s => match s.ex with
    | .exit id' => bif Nat.beq id' id then some ⟨.normal, s.ts, s.H⟩ else some s
    | _ => some s
  | .loop c, ts, H => loopN (evCode E call n c) n ts H
  | .exit id, ts, H => some ⟨.exit id, ts, H⟩
  | .ret, ts, H => some ⟨.ret, ts, H⟩
  | _, _, _ => none
def resVals (E : Env) (ts : Ts) (H : AHeap) : List ResultVar → Option (List AV)
  | [] => some []
  | .tmp t :: r => (ts.get t).bind fun v => (resVals E ts H r).bind fun vs => some (v :: vs)
  | .cell a t :: r => (ts.get a).bind fun p => (aLoad E H t p).bind fun v => (resVals E ts H r).bind fun vs => some (v :: vs)
def resOf : List AV → AV
  | [v] => v
  | vs => .tup vs
def evBody (E : Env) (call : ACall) (n : Nat) (F : Func) (args : List AV) (H : AHeap) : Option (AV × AHeap) :=
  match F.body with
  | some c => (evCode E call n c (Ts.ofArgs args F.ntmps) H).bind fun s => match s.ex with
    | .exit _ => none
    | _ => (resVals E s.ts s.H F.results.toList).bind fun vs => some (resOf vs, s.H)
  | none => none
/-- a call, with so many rounds; 'ext': the functions that are not evaluated but known otherwise -/
def evCall (E : Env) (ext : FuncId → Option (List AV → AHeap → Option (AV × AHeap))) : Nat → ACall
  | 0, _, _, _ => none
  | n + 1, f, args, H => match ext f with
    | some g => g args H
    | none => (E.fn f).bind fun F => evBody E (evCall E ext n) n F args H
end Go.AE
