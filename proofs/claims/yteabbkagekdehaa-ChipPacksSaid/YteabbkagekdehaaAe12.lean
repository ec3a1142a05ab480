/- The abstract evaluator, part 12: a region that draws its order is right, whatever order is drawn. -/
import Derived.Test.YteabbkagekdehaaAe11
set_option linter.unusedVariables false
set_option linter.unusedSectionVars false
set_option linter.unusedSimpArgs false
namespace Go.AE
variable [Val]
/-- the same heap, but room is kept for so many blocks -/
def pad (H : AHeap) (N : Nat) : AHeap := ⟨H.t, N⟩
theorem pad_self (H : AHeap) : pad H H.n = H := rfl
@[simp] theorem pad_n (H : AHeap) (N : Nat) : (pad H N).n = N := rfl
theorem pad_get {H : AHeap} {N b : Nat} (h : b < H.n) (hN : H.n ≤ N) : (pad H N).get b = H.get b := by
  rw [AHeap.get_of_lt h, AHeap.get_of_lt (show b < (pad H N).n by simp; omega)]; rfl
theorem pad_aWr {H : AHeap} {N b : Nat} (h : b < H.n) (hN : H.n ≤ N) : aWr (pad H N) b = aWr H b := by unfold aWr; rw [pad_get h hN]
def SubH (A B : AHeap) : Prop := ∀ b x, A.get b = some x → B.get b = some x
theorem SubH.refl (A : AHeap) : SubH A A := fun _ _ h => h
theorem SubH.push {A B : AHeap} (h : SubH A B) (x : ABlk) : SubH A (B.push x) := fun b y hy => by
  have h1 := h b y hy
  rw [AHeap.get_push, if_neg (by have := AHeap.get_lt h1; omega)]; exact h1
theorem Rel.sub {A B : AHeap} {μ : Mu} {w : World} (R : Rel B μ w) (h : SubH A B) : Rel A μ w := ⟨R.bound, R.inj, fun b x hb => R.blk b x (h b x hb)⟩
theorem Ext.padStep {A0 H H' : AHeap} {N : Nat} {μ0 μ μ' : Mu} {w0 w w' : World} (X : Ext A0 (pad H N) μ0 μ w0 w) (S : Ext H H' μ μ' w w') (h0 : A0.n ≤ H.n) (hN : H'.n ≤ N) : Ext A0 (pad H' N) μ0 μ' w0 w' where
  mono := X.mono.trans S.mono
  above b g hb := by simp at hb; rw [S.above b g (by omega), X.above b g (by simpa using hb)]
  fresh b g h1 h2 := X.fresh b g h1 (by simpa using h2)
  n := by have := X.n; simpa using this
  os := S.os.trans X.os
  tape := S.tape.trans X.tape
  output := S.output.trans X.output
  size := Nat.le_trans X.size S.size
  range b g c sz hm := by
    rcases S.range b g c sz hm with ⟨g', h1⟩ | h1
    · exact X.range b g' c sz h1
    · exact .inr (Nat.le_trans X.size h1)
  wr b hb h0' := by
    have n1 := S.n
    rw [pad_aWr (by omega) hN]
    refine S.wr b (by omega) ?_
    rw [← pad_aWr (N := N) (by omega) (by omega)]
    exact X.wr b hb h0'
  frame c hc hf := by
    have n1 := S.n
    rw [S.frame c (Nat.lt_of_lt_of_le hc X.size) fun b g sz hm hb => ?_, X.frame c hc hf]
    rcases X.range b g c sz hm with ⟨g', h1⟩ | h1
    · by_cases hbn : b < A0.n
      · rw [← pad_aWr (N := N) hb (by omega)]; exact X.wr b hbn (hf b g' sz h1 hbn)
      · have := X.fresh b g' (by omega) (by simp; omega)
        rw [h1] at this; cases this
    · omega
/-- no more is known of the abstract heap; the block lies there already -/
theorem Ext.padPush {A0 H : AHeap} {N : Nat} {μ0 μ : Mu} {w0 w : World} (X : Ext A0 (pad H N) μ0 μ w0 w) (B : ABlk) (h0 : A0.n ≤ H.n) (hN : H.n + 1 ≤ N) : Ext A0 (pad (H.push B) N) μ0 μ w0 w where
  mono := X.mono
  above b g hb := X.above b g hb
  fresh b g h1 h2 := X.fresh b g h1 h2
  n := X.n
  os := X.os
  tape := X.tape
  output := X.output
  size := X.size
  range := X.range
  wr b hb h0' := by
    have h1 := X.wr b hb h0'
    rw [pad_aWr (by omega) (by omega)] at h1
    rw [pad_aWr (by simp; omega) (by simpa using hN)]
    unfold aWr at h1 ⊢; rw [AHeap.get_push, if_neg (by omega)]; exact h1
  frame := X.frame
/-- a block that is to come is made already -/
theorem Ext.padEarly {A0 H : AHeap} {N : Nat} {μ0 μ : Mu} {w0 w : World} (X : Ext A0 (pad H N) μ0 μ w0 w) {b0 : Nat} {o : Obj} (hb0 : b0 < N) (hn : ∀ g, μ b0 g = none) :
    Ext A0 (pad H N) μ0 (upd μ b0 0 (w.heap.size, objSize o)) w0 (w.alloc o) where
  mono := X.mono.trans (MuLe.upd (hn 0))
  above b g hb := by simp at hb; rw [upd_other _ _ (by omega)]; exact X.above b g (by simpa using hb)
  fresh := X.fresh
  n := X.n
  os := X.os
  tape := X.tape
  output := X.output
  size := by have := X.size; simp; omega
  range b g c sz hm := by
    by_cases e : b = b0 ∧ g = 0
    · obtain ⟨rfl, rfl⟩ := e; rw [upd_same] at hm; cases hm; exact .inr X.size
    · rw [upd_other _ _ e] at hm; exact X.range b g c sz hm
  wr := X.wr
  frame c hc hf := by rw [heap_alloc_old w o c (Nat.lt_of_lt_of_le hc X.size)]; exact X.frame c hc hf
theorem Rel.early {H : AHeap} {μ : Mu} {w : World} (R : Rel H μ w) {b0 : Nat} {o : Obj} (hb0 : H.n ≤ b0) (hn : ∀ g, μ b0 g = none) : Rel H (upd μ b0 0 (w.heap.size, objSize o)) (w.alloc o) := by
  have hle : MuLe μ (Go.AE.upd μ b0 0 (w.heap.size, objSize o)) := MuLe.upd (hn 0)
  refine ⟨fun b g c sz h => ?_, fun b g c sz b' g' sz' h h' => ?_, fun b B' hb g c sz h => ?_⟩
  · by_cases e : b = b0 ∧ g = 0
    · obtain ⟨rfl, rfl⟩ := e; rw [upd_same] at h; cases h; simp
    · rw [upd_other _ _ e] at h; have := R.bound b g c sz h; simp; omega
  · by_cases e : b = b0 ∧ g = 0 <;> by_cases e' : b' = b0 ∧ g' = 0
    · exact e.1.trans e'.1.symm
    · obtain ⟨rfl, rfl⟩ := e; rw [upd_same] at h; cases h; rw [upd_other _ _ e'] at h'; have := R.bound _ _ _ _ h'; omega
    · obtain ⟨rfl, rfl⟩ := e'; rw [upd_same] at h'; cases h'; rw [upd_other _ _ e] at h; have := R.bound _ _ _ _ h; omega
    · rw [upd_other _ _ e] at h; rw [upd_other _ _ e'] at h'; exact R.inj _ _ _ _ _ _ _ h h'
  · have hlt := AHeap.get_lt hb
    rw [upd_other _ _ (by omega)] at h
    obtain ⟨o', h1, h2⟩ := R.blk b B' hb g c sz h
    exact ⟨o', by rw [heap_alloc_old w o c (R.bound _ _ _ _ h)]; exact h1, h2.mono hle⟩

def todo (early : Early) (L : List Item) : Nat := L.countP fun k => (early k.1).isNone
structure Inv (P : Program) (E : Env) (call : ACall) (ops : Array Oper) (A0 : AHeap) (fin : Ts × AHeap) (μ0 : Mu) (w0 : World) (ds : List Deferred)
    (L : List Item) (hist : Hist) (ts : Ts) (H : AHeap) (early : Early) (listed : Array Bool) (a : Act) (w : World) (μ : Mu) : Prop where
  can : Can E call ops A0 fin early L hist ts H
  fr : Fr E call ops A0 μ w early L hist ts H
  rel : Rel H μ w
  sub : SubH (lastH hist A0) H
  tr : TR μ (ovl early L ts) a.tmps
  size : listed.size = ops.size
  lst : ∀ i, i < ops.size → (listed.getD i true = false ↔ ∃ k ∈ L, k.1 = i ∧ early i = none)
  items : ∀ k ∈ L, ops[k.1]? = some k.2.2 ∧ k.2.1 = (masks ops.toList []).getD k.1 0
  nodup : (L.map (·.1)).Nodup
  apart : apartOK ops L = true
  order : ∃ done, orderOK ops (masks ops.toList []) L done = true ∧ ∀ i ∈ done, listed.getD i false = true
  effs : ∀ k ∈ L, isEff k.2.2 = true → early k.1 = none
  closed : ClosedUnder ops fun i => listed.getD i false = true
  ext : Ext A0 (pad H fin.2.n) μ0 μ w0 w
  n : A0.n ≤ H.n
  defers : a.defers = ds
theorem getD_tf {l : Array Bool} {i : Nat} (h : i < l.size) : l.getD i true = l.getD i false := by simp [h]
theorem getD_ne {l : Array Bool} {i : Nat} (h : l.getD i true = false) : ¬ l.getD i false = true := by
  by_cases hl : i < l.size
  · rw [← getD_tf hl, h]; simp
  · simp [Array.getElem?_eq_none (by omega : l.size ≤ i)]
section
variable {P : Program} {E : Env} (hE : EnvOK P E) {call : ACall} (hC : CallOK P E call) {ops : Array Oper} {A0 : AHeap} {fin : Ts × AHeap} {μ0 : Mu} {w0 : World} {ds : List Deferred}
  {L : List Item} {hist : Hist} {ts : Ts} {H : AHeap} {early : Early} {listed : Array Bool} {a : Act} {w : World} {μ : Mu}
theorem Inv.notList (I : Inv P E call ops A0 fin μ0 w0 ds L hist ts H early listed a w μ) {k : Item} (hk : k ∈ L) (he : early k.1 = none) : ¬ listed.getD k.1 false = true :=
  getD_ne ((I.lst k.1 (Array.getElem?_eq_some_iff.1 (I.items k hk).1).1).2 ⟨k, hk, rfl, he⟩)
theorem Inv.isList (I : Inv P E call ops A0 fin μ0 w0 ds L hist ts H early listed a w μ) {k : Item} (hk : k ∈ L) (he : early k.1 ≠ none) : listed.getD k.1 false = true := by
  have hlt := (Array.getElem?_eq_some_iff.1 (I.items k hk).1).1
  rw [← getD_tf (by rw [I.size]; exact hlt)]
  cases h : listed.getD k.1 true with
  | true => rfl
  | false => obtain ⟨k', _, h2, h3⟩ := (I.lst k.1 hlt).1 h; exact absurd h3 he
theorem stepI_kind {it : Item} {v : AV} {hist' : Hist} {H' : AHeap} (h : stepI E call ops A0 it hist ts H = some (v, hist', H')) (hne : isEff it.2.2 = false) :
    hist' = hist ∧ (H' = H ∨ ∃ B, H' = H.push B) := by
  unfold stepI at h
  unfold isEff at hne
  split at h
  · split at h
    · simp only [Option.bind_eq_some_iff] at h
      obtain ⟨u, _, h2⟩ := h
      cases hc : (!heapDep it.2.2.op || chkPast E ts it.2.2.op u it.2.1 hist A0) with
      | false => simp [hc] at h2
      | true => simp only [hc, cond_true, Option.some.injEq, Prod.mk.injEq] at h2; obtain ⟨_, rfl, rfl⟩ := h2; exact ⟨rfl, .inl rfl⟩
    · simp only [Option.bind_eq_some_iff, stepNew, Option.some.injEq, Prod.mk.injEq] at h
      obtain ⟨p, ⟨q, _, rfl⟩, _, rfl, rfl⟩ := h
      exact ⟨rfl, .inr ⟨_, rfl⟩⟩
    · rename_i hk; rw [hk] at hne; cases hne
  · split at h
    · rename_i hk; rw [hk] at hne; cases hne
    · simp only [Option.some.injEq, Prod.mk.injEq] at h
      obtain ⟨_, rfl, rfl⟩ := h
      exact ⟨rfl, .inl rfl⟩
theorem orderOK_cons {ms : List Nat} {it : Item} {r : List Item} {done : List Nat} (h : orderOK ops ms (it :: r) done = true) :
    it.1 ∉ done ∧ it.1 < ops.size ∧ (∀ e ∈ it.2.2.after, Region.binds .any e = true → e.on ∈ done) ∧ (isEff it.2.2 = true → ∀ k ∈ done, it.2.1.testBit k = true) ∧ orderOK ops ms r (done ++ [it.1]) = true := by
  obtain ⟨i, m, o⟩ := it
  simp only [orderOK, Bool.and_eq_true, Bool.or_eq_true, Bool.not_eq_true', List.all_eq_true, blt_dec, decide_eq_true_eq, List.elem_eq_mem, decide_eq_false_iff_not] at h
  obtain ⟨⟨⟨⟨h1, h2⟩, h3⟩, h4⟩, h5⟩ := h
  refine ⟨h1, h2, fun e he hb => ?_, fun he k hk => ?_, h5⟩
  · rcases h3 e (by simpa using he) with h | h
    · rw [hb] at h; cases h
    · exact h
  · rcases h4 with h | h
    · simp only at he; rw [he] at h; cases h
    · exact h k hk
theorem orderOK_app {ms : List Nat} : ∀ {L1 L2 : List Item} {done : List Nat}, orderOK ops ms (L1 ++ L2) done = true → orderOK ops ms L2 (done ++ L1.map (·.1)) = true
  | [], L2, done, h => by simpa using h
  | it :: r, L2, done, h => by
    have := orderOK_app (orderOK_cons h).2.2.2.2
    simpa using this
theorem apartOK_cons {it : Item} {r : List Item} (h : apartOK ops (it :: r) = true) : (∀ k ∈ r, k.2.1.testBit it.1 = true ∨ Oper.apart ops it.2.2 k.2.2 = true) ∧ apartOK ops r = true := by
  obtain ⟨i, m, o⟩ := it
  simp only [apartOK, Bool.and_eq_true, List.all_eq_true, Bool.or_eq_true] at h
  exact ⟨fun k hk => h.1 k hk, h.2⟩
theorem apartOK_app : ∀ {L1 L2 : List Item}, apartOK ops (L1 ++ L2) = true → apartOK ops L2 = true ∧ ∀ k ∈ L1, ∀ q ∈ L2, q.2.1.testBit k.1 = true ∨ Oper.apart ops k.2.2 q.2.2 = true
  | [], L2, h => ⟨h, by simp⟩
  | it :: r, L2, h => by
    obtain ⟨h1, h2⟩ := apartOK_cons h
    obtain ⟨h3, h4⟩ := apartOK_app h2
    refine ⟨h3, fun k hk q hq => ?_⟩
    rcases List.mem_cons.1 hk with rfl | hk
    · exact h1 q (by simp [hq])
    · exact h4 k hk q hq
theorem push_ne {H : AHeap} {B : ABlk} : H ≠ H.push B := fun h => by have := congrArg AHeap.n h; simp at this
theorem push_inj {H : AHeap} {B B' : ABlk} (h : H.push B = H.push B') : B = B' := by
  have h1 := AHeap.get_push H H.n B
  rw [h, AHeap.get_push] at h1
  simpa using h1.symm

include hC in
/-- what was done early is passed over -/
theorem Inv.skip {it : Item} {r : List Item} {x : AV} (I : Inv P E call ops A0 fin μ0 w0 ds (it :: r) hist ts H early listed a w μ) (he : early it.1 = some x) :
    ∃ hist' ts' H', Inv P E call ops A0 fin μ0 w0 ds r hist' ts' H' early listed a w μ := by
  obtain ⟨v, hist', H', h1, h2, h3⟩ := I.can
  obtain rfl := h2 x he
  have hne : isEff it.2.2 = false := by
    cases hh : isEff it.2.2 with
    | false => rfl
    | true => have := I.effs it (by simp) hh; rw [he] at this; cases this
  obtain ⟨rfl, hH⟩ := stepI_kind h1 hne
  obtain ⟨f1, f2, f3⟩ := I.fr _ _ _ h1
  have n1 := stepI_n hC h1
  have n2 := can_n hC h3
  refine ⟨hist', putA ts it.2.2.dst x, H', ?_⟩
  have key : Rel H' μ w ∧ SubH (lastH hist' A0) H' ∧ Ext A0 (pad H' fin.2.n) μ0 μ w0 w := by
    rcases hH with rfl | ⟨B, rfl⟩
    · exact ⟨I.rel, I.sub, I.ext⟩
    · obtain ⟨c, sz, ob, g1, g2, g3, g4⟩ := f2 x he B rfl
      refine ⟨⟨I.rel.bound, I.rel.inj, fun b B' hb g c' sz' hm => ?_⟩, I.sub.push B, I.ext.padPush B I.n (by simpa using n2)⟩
      rw [AHeap.get_push] at hb
      by_cases e : b = H.n
      · subst e
        simp only [if_true, Option.some.injEq] at hb
        subst hb
        by_cases eg : g = 0
        · subst eg; rw [g1] at hm; cases hm; exact ⟨ob, g3, g4⟩
        · rw [g2 g eg] at hm; cases hm
      · rw [if_neg e] at hb; exact I.rel.blk b B' hb g c' sz' hm
  obtain ⟨k1, k2, k3⟩ := key
  have hlisted := I.isList (k := it) (by simp) (by simp [he])
  obtain ⟨done, o1, o2⟩ := I.order
  exact {
    can := h3
    fr := f3
    rel := k1
    sub := k2
    tr := by have := I.tr; simp only [ovl, he] at this; exact this
    size := I.size
    lst := fun i hi => by
      rw [I.lst i hi]
      constructor
      · rintro ⟨k, hk, rfl, hn⟩
        rcases List.mem_cons.1 hk with rfl | hk
        · rw [he] at hn; cases hn
        · exact ⟨k, hk, rfl, hn⟩
      · rintro ⟨k, hk, h4, h5⟩; exact ⟨k, by simp [hk], h4, h5⟩
    items := fun k hk => I.items k (by simp [hk])
    nodup := by have := I.nodup; simp only [List.map_cons, List.nodup_cons] at this; exact this.2
    apart := (apartOK_cons I.apart).2
    order := ⟨done ++ [it.1], (orderOK_cons o1).2.2.2.2, fun i hi => by
      rcases List.mem_append.1 hi with h | h
      · exact o2 i h
      · simp at h; subst h; exact hlisted⟩
    effs := fun k hk => I.effs k (by simp [hk])
    closed := I.closed
    ext := k3
    n := Nat.le_trans I.n n1
    defers := I.defers }
include hC in
theorem Inv.norm : ∀ {L : List Item} {hist : Hist} {ts : Ts} {H : AHeap}, Inv P E call ops A0 fin μ0 w0 ds L hist ts H early listed a w μ →
    ∃ L' hist' ts' H', Inv P E call ops A0 fin μ0 w0 ds L' hist' ts' H' early listed a w μ ∧ todo early L' = todo early L ∧ ∀ it r, L' = it :: r → early it.1 = none
  | [], hist, ts, H, I => ⟨[], hist, ts, H, I, rfl, fun it r h => by cases h⟩
  | it :: r, hist, ts, H, I => by
    cases he : early it.1 with
    | none => exact ⟨it :: r, hist, ts, H, I, rfl, fun it' r' h => by cases h; exact he⟩
    | some x =>
      obtain ⟨hist1, ts1, H1, I1⟩ := I.skip hC he
      obtain ⟨L', hist', ts', H', h1, h2, h3⟩ := Inv.norm I1
      exact ⟨L', hist', ts', H', h1, by rw [h2]; simp [todo, he], h3⟩
theorem fr_split : ∀ {L1 L2 : List Item} {hist : Hist} {ts : Ts} {H : AHeap} {hi : Hist} {ti : Ts} {Hi : AHeap}, Fr E call ops A0 μ w early (L1 ++ L2) hist ts H →
    runPre E call ops A0 L1 hist ts H = some (hi, ti, Hi) → Fr E call ops A0 μ w early L2 hi ti Hi
  | [], L2, hist, ts, H, hi, ti, Hi, h, hp => by
    simp only [runPre, Option.some.injEq, Prod.mk.injEq] at hp
    obtain ⟨rfl, rfl, rfl⟩ := hp
    exact h
  | it :: r, L2, hist, ts, H, hi, ti, Hi, h, hp => by
    simp only [runPre, Option.bind_eq_some_iff] at hp
    obtain ⟨⟨v, hist', H'⟩, h1, h2⟩ := hp
    exact fr_split (h _ _ _ h1).2.2 h2
theorem todo_upd {it : Item} {v : AV} {early : Early} : ∀ {L1 L2 : List Item}, early it.1 = none → (∀ k ∈ L1 ++ L2, k.1 ≠ it.1) → todo (earlyUpd early it.1 v) (L1 ++ it :: L2) + 1 = todo early (L1 ++ it :: L2) := by
  intro L1 L2 he hn
  have h : ∀ (M : List Item), (∀ k ∈ M, k.1 ≠ it.1) → todo (earlyUpd early it.1 v) M = todo early M := by
    intro M hM
    unfold todo
    refine List.countP_congr fun k hk => ?_
    simp [earlyUpd, hM k hk]
  have e1 : todo (earlyUpd early it.1 v) (L1 ++ it :: L2) = todo (earlyUpd early it.1 v) L1 + todo (earlyUpd early it.1 v) L2 := by
    simp [todo, List.countP_cons, earlyUpd]
  have e2 : todo early (L1 ++ it :: L2) = todo early L1 + (todo early L2 + 1) := by
    simp [todo, List.countP_cons, he]
  rw [e1, e2, h L1 (fun k hk => hn k (by simp [hk])), h L2 (fun k hk => hn k (by simp [hk]))]
  omega
end
end Go.AE
