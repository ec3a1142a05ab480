/- Server.open where the map has two requests: its code in pieces. -/
import Derived.Test.YthhhpaeheccelaaGreatLmOpen
set_option linter.unusedVariables false
set_option linter.unusedSimpArgs false
set_option linter.unusedSectionVars false
set_option maxRecDepth 100000
namespace Go.Proofs.YthhhpaeheccelaaGreat
open Go.AE Go.RowKit Go.IntWalk
section
variable [Val] {P : Program} {E : Env}
/-- the state between two pieces, and what has become of memory since the start -/
structure StX (A0 : AHeap) (μ0 : Mu) (w0 : World) (ts : Ts) (A : AHeap) (μ : Mu) (a : Act) (w : World) : Prop where
  tr : TR μ ts a.tmps
  rel : Rel A μ w
  j : Val.J μ w
  x : Ext A0 A μ0 μ w0 w
  hi : Hi A.n μ
  defers : a.defers = []
theorem StX.next {A0 : AHeap} {μ0 : Mu} {w0 : World} {ts ts' : Ts} {A A' : AHeap} {μ μ' : Mu} {a a' : Act} {w w' : World} (S : StX A0 μ0 w0 ts A μ a w) (t1 : TR μ' ts' a'.tmps) (t2 : Rel A' μ' w') (X : Ext A A' μ μ' w w') (t4 : a'.defers = a.defers) : StX A0 μ0 w0 ts' A' μ' a' w' :=
  ⟨t1, t2, Val.keep S.j X, S.x.trans X, S.hi.ext X, t4.trans S.defers⟩
variable (hE : EnvOK P E) (hm : P.follows .mixedOrders = true) {call : ACall} (hC : CallOK P E call)
include hE hm hC
theorem pieceX {n : Nat} {c : Code} {ts : Ts} {A : AHeap} {s : ASt} (h : evCode E call n c ts A = some s) {A0 : AHeap} {μ0 : Mu} {w0 : World} {μ : Mu} {a : Act} {w : World} (S : StX A0 μ0 w0 ts A μ a w) {Q : Exit → Act → World → Prop}
    (hQ : ∀ a' w' μ', StX A0 μ0 w0 s.ts s.H μ' a' w' → Q (exOf s.ex) a' w') : c.wp P Q a w :=
  code_sound hE hC hm h S.rel S.j S.tr (Hi.fresh S.hi) fun a' w' μ' t1 t2 t3 t4 => hQ a' w' μ' (S.next t1 t2 t3 t4)
omit hm in
theorem next_region {id : Nat} {ops : Array Oper} {o : Oper} {l : List Oper} (hops : ops.toList = o :: l) {t d : Nat} (ho : o.op = .next (.tmp t) false) (hg : o.guard = none) (hd : o.dst = some d) {A0 : AHeap} {μ0 : Mu} {w0 : World} {ts : Ts} {A : AHeap} {μ : Mu} {a : Act} {w : World} (S : StX A0 μ0 w0 ts A μ a w)
    {b m since last clock : Nat} {e1 e2 : AV × AV × Nat} (hx : ts.get t = some (.ptr b 0 0)) (h1 : aIter A b = some (some m, since, [], last)) (h2 : aMap A m = some ([e1, e2], clock)) (hb1 : e1.2.2 < since) (hb2 : e2.2.2 < since) {Q : Exit → Act → World → Prop}
    (hQ : ∀ e, (e = e1 ∨ e = e2) → ∃ ts' A', runOps E call ops l (ts.set d (.tup [.bool true, e.1, e.2.1])) (A.set b (.iter (some m) since [e.2.2] clock)) = some (ts', A') ∧ ∀ a' w' μ', StX A0 μ0 w0 ts' A' μ' a' w' → Q .normal a' w') :
    (Code.region id ops false).wp P Q a w := by
  refine wp_region ?_
  have hsz : ops.size = l.length + 1 := by have := congrArg List.length hops; simpa using this
  have h0 : ops[0]? = some o := by rw [← Array.getElem?_toList, hops]; rfl
  have hl : ∀ j, l[j]? = ops[1 + j]? := fun j => by rw [← Array.getElem?_toList, hops, Nat.add_comm]; rfl
  rw [hsz, List.range_eq_range', List.range'_succ]
  simp only [wpOps, h0, Region.wanted, hg, if_true]
  have hu : VR μ (.ptr b 0 0) (a.eval (.tmp t)) := S.tr.get hx
  obtain ⟨y, w1, e, he, hrun, hy, hR, hX⟩ := next2_sound (P := P) S.rel h1 h2 hb1 hb2 hu o.type
  have hexec : (execOp a.eval o).run P w = .ok (.value y) w1 := by
    obtain ⟨dst, op, type, pos, after, guard⟩ := o
    simp only at ho hrun
    subst ho
    simp [execOp, hrun]
  refine .inl ?_
  unfold Oper.wp
  rw [hexec]
  obtain ⟨ts', A', hr, hk⟩ := hQ e he
  have S1 : StX A0 μ0 w0 (ts.set d (.tup [.bool true, e.1, e.2.1])) (A.set b (.iter (some m) since [e.2.2] clock)) μ (a.put o.dst y) w1 := by
    refine S.next ?_ hR hX (by cases o.dst <;> rfl)
    have := S.tr.put hy (some d)
    rw [hd]; exact this
  exact runOps_sound hE hC hr hl S1.rel S1.j S1.tr (Hi.fresh S1.hi) fun a' w' μ' t1 t2 t3 t4 => hk a' w' μ' (S1.next t1 t2 t3 t4)
end
end Go.Proofs.YthhhpaeheccelaaGreat
