/- The abstract evaluator, part 5: how a step extends memory; operations that make a block, and those that write. -/
import Derived.Test.YteabbkagekdehaaAe4
set_option linter.unusedVariables false
set_option linter.unusedSectionVars false
set_option linter.unusedSimpArgs false
namespace Go.AE
variable [Val]

theorem Ext.refl (A : AHeap) (μ : Mu) (w : World) : Ext A A μ μ w w :=
  ⟨MuLe.refl _, fun _ _ _ => rfl, fun b g h k => by omega, Nat.le_refl _, rfl, rfl, rfl, Nat.le_refl _, fun b g c sz h => .inl ⟨g, h⟩, fun _ _ h => h, fun _ _ _ => rfl⟩
theorem Ext.drew (A : AHeap) (μ : Mu) (w : World) : Ext A A μ μ w { w with drawn := w.drawn + 1 } :=
  ⟨MuLe.refl _, fun _ _ _ => rfl, fun b g h k => by omega, Nat.le_refl _, rfl, rfl, rfl, Nat.le_refl _, fun b g c sz h => .inl ⟨g, h⟩, fun _ _ h => h, fun _ _ _ => rfl⟩
theorem Ext.trans {A A1 A2 : AHeap} {μ μ1 μ2 : Mu} {w w1 w2 : World} (h : Ext A A1 μ μ1 w w1) (k : Ext A1 A2 μ1 μ2 w1 w2) : Ext A A2 μ μ2 w w2 where
  mono := h.mono.trans k.mono
  above b g hb := by rw [k.above b g hb, h.above b g (Nat.le_trans k.n hb)]
  fresh b g h1 h2 := by
    by_cases hb : b < A1.n
    · exact h.fresh b g h1 hb
    · rw [← h.above b g (by omega)]; exact k.fresh b g (by omega) h2
  n := Nat.le_trans h.n k.n
  os := k.os.trans h.os
  tape := k.tape.trans h.tape
  output := k.output.trans h.output
  size := Nat.le_trans h.size k.size
  range b g c sz hm := by
    rcases k.range b g c sz hm with ⟨g', h1⟩ | h1
    · exact h.range b g' c sz h1
    · exact .inr (Nat.le_trans h.size h1)
  wr b hb h0 := k.wr b (Nat.lt_of_lt_of_le hb h.n) (h.wr b hb h0)
  frame c hc hf := by
    rw [k.frame c (Nat.lt_of_lt_of_le hc h.size) fun b g sz hm hb => ?_, h.frame c hc hf]
    rcases h.range b g c sz hm with ⟨g', h1⟩ | h1
    · by_cases hbn : b < A.n
      · exact h.wr b hbn (hf b g' sz h1 hbn)
      · have := h.fresh b g' (by omega) hb
        rw [h1] at this; cases this
    · omega

def upd (μ : Mu) (b g : Nat) (x : Nat × Nat) : Mu := fun b' g' => if b' = b ∧ g' = g then some x else μ b' g'
theorem upd_same (μ : Mu) (b g : Nat) (x : Nat × Nat) : upd μ b g x b g = some x := by simp [upd]
theorem upd_other (μ : Mu) {b g b' g' : Nat} (x : Nat × Nat) (h : ¬ (b' = b ∧ g' = g)) : upd μ b g x b' g' = μ b' g' := by simp [upd, h]
theorem MuLe.upd {μ : Mu} {b g : Nat} {x : Nat × Nat} (h : μ b g = none) : MuLe μ (upd μ b g x) := by
  intro b' g' y hy
  by_cases e : b' = b ∧ g' = g
  · obtain ⟨rfl, rfl⟩ := e; rw [h] at hy; cases hy
  · rw [upd_other _ _ e]; exact hy

def objSize : Obj → Nat
  | .cells c _ _ => c.size
  | _ => 0
/-- a new block of the world stands for a new abstract block -/
theorem Rel.push {A : AHeap} {μ : Mu} {w : World} (R : Rel A μ w) {B : ABlk} {o : Obj} (hn : ∀ g, μ A.n g = none) (hB : BlkR μ B 0 (objSize o) o) :
    Rel (A.push B) (upd μ A.n 0 (w.heap.size, objSize o)) (w.alloc o) := by
  have hle : MuLe μ (Go.AE.upd μ A.n 0 (w.heap.size, objSize o)) := MuLe.upd (hn 0)
  refine ⟨fun b g c sz h => ?_, fun b g c sz b' g' sz' h h' => ?_, fun b B' hb g c sz h => ?_⟩
  · by_cases e : b = A.n ∧ g = 0
    · obtain ⟨rfl, rfl⟩ := e; rw [upd_same] at h; cases h; simp
    · rw [upd_other _ _ e] at h; have := R.bound b g c sz h; simp; omega
  · by_cases e : b = A.n ∧ g = 0 <;> by_cases e' : b' = A.n ∧ g' = 0
    · exact e.1.trans e'.1.symm
    · obtain ⟨rfl, rfl⟩ := e; rw [upd_same] at h; cases h; rw [upd_other _ _ e'] at h'; have := R.bound _ _ _ _ h'; omega
    · obtain ⟨rfl, rfl⟩ := e'; rw [upd_same] at h'; cases h'; rw [upd_other _ _ e] at h; have := R.bound _ _ _ _ h; omega
    · rw [upd_other _ _ e] at h; rw [upd_other _ _ e'] at h'; exact R.inj _ _ _ _ _ _ _ h h'
  · rw [AHeap.get_push] at hb
    by_cases e : b = A.n
    · subst e
      simp only [if_true, Option.some.injEq] at hb
      subst hb
      by_cases eg : g = 0
      · subst eg
        rw [upd_same] at h
        cases h
        exact ⟨o, heap_alloc_new w o, hB.mono hle⟩
      · rw [upd_other _ _ (fun h => eg h.2), hn] at h; cases h
    · rw [if_neg e] at hb
      rw [upd_other _ _ (fun h => e h.1)] at h
      obtain ⟨o', h1, h2⟩ := R.blk b B' hb g c sz h
      exact ⟨o', by rw [heap_alloc_old w o c (R.bound _ _ _ _ h)]; exact h1, h2.mono hle⟩
theorem Ext.push {A : AHeap} {μ : Mu} {w : World} {B : ABlk} {o : Obj} (hn : ∀ g, μ A.n g = none) :
    Ext A (A.push B) μ (upd μ A.n 0 (w.heap.size, objSize o)) w (w.alloc o) where
  mono := MuLe.upd (hn 0)
  above b g hb := upd_other _ _ (fun h => by simp at hb; omega)
  fresh b g h1 h2 := by
    obtain rfl : b = A.n := by simp at h2; omega
    exact hn g
  n := by simp
  os := rfl
  tape := rfl
  output := rfl
  size := by simp
  range b g c sz hm := by
    by_cases e : b = A.n ∧ g = 0
    · obtain ⟨rfl, rfl⟩ := e; rw [upd_same] at hm; cases hm; exact .inr (Nat.le_refl _)
    · rw [upd_other _ _ e] at hm; exact .inl ⟨g, hm⟩
  wr b hb h0 := by unfold aWr at h0 ⊢; rw [AHeap.get_push, if_neg (by omega)]; exact h0
  frame c hc _ := heap_alloc_old w o c hc
/-- a block is changed -/
theorem Rel.change {A : AHeap} {μ μ' : Mu} {w w' : World} (R : Rel A μ w) {b : Nat} {B' : ABlk} (hb : b < A.n)
    (hle : MuLe μ μ') (hμ : ∀ b' g, b' ≠ b → μ' b' g = μ b' g) (hsize : w.heap.size ≤ w'.heap.size)
    (hother : ∀ b' g c sz, b' ≠ b → μ b' g = some (c, sz) → w'.heap[c]? = w.heap[c]?)
    (hnew : ∀ g c sz, μ' b g = some (c, sz) → c < w'.heap.size ∧ (∀ b' g' sz', b' ≠ b → μ b' g' ≠ some (c, sz')) ∧ ∃ o, w'.heap[c]? = some o ∧ BlkR μ' B' g sz o) : Rel (A.set b B') μ' w' := by
  refine ⟨fun b1 g c sz h => ?_, fun b1 g c sz b2 g' sz' h h' => ?_, fun b1 B hB g c sz h => ?_⟩
  · by_cases e : b1 = b
    · subst e; exact (hnew g c sz h).1
    · rw [hμ _ _ e] at h; exact Nat.lt_of_lt_of_le (R.bound _ _ _ _ h) hsize
  · by_cases e : b1 = b <;> by_cases e' : b2 = b
    · rw [e, e']
    · subst e; rw [hμ _ _ e'] at h'; exact absurd h' ((hnew g c sz h).2.1 _ _ _ e')
    · subst e'; rw [hμ _ _ e] at h; exact absurd h ((hnew g' c sz' h').2.1 _ _ _ e)
    · rw [hμ _ _ e] at h; rw [hμ _ _ e'] at h'; exact R.inj _ _ _ _ _ _ _ h h'
  · rw [AHeap.get_set _ _ _ _ hb] at hB
    by_cases e : b1 = b
    · subst e
      simp only [if_true, Option.some.injEq] at hB
      subst hB
      exact (hnew g c sz h).2.2
    · rw [if_neg e] at hB
      rw [hμ _ _ e] at h
      obtain ⟨o, h1, h2⟩ := R.blk _ _ hB g c sz h
      exact ⟨o, by rw [hother _ _ _ _ e h]; exact h1, h2.mono hle⟩
theorem Ext.change {A : AHeap} {μ μ' : Mu} {w w' : World} {b : Nat} {B' : ABlk} (hb : b < A.n) (hle : MuLe μ μ') (hμ : ∀ b' g, b' ≠ b → μ' b' g = μ b' g) (hsize : w.heap.size ≤ w'.heap.size)
    (h1 : w'.os = w.os) (h2 : w'.tape = w.tape) (h3 : w'.output = w.output) (hwr : aWr A b = false → aWr (A.set b B') b = false)
    (hrange : ∀ g c sz, μ' b g = some (c, sz) → (∃ g', μ b g' = some (c, sz)) ∨ w.heap.size ≤ c)
    (hframe : ∀ c, c < w.heap.size → (∀ b g sz, μ b g = some (c, sz) → b < A.n → aWr A b = false) → w'.heap[c]? = w.heap[c]?) : Ext A (A.set b B') μ μ' w w' where
  mono := hle
  above b' g hb' := hμ b' g (by simp at hb'; omega)
  fresh b' g h1 h2 := by simp at h2; omega
  n := by simp
  os := h1
  tape := h2
  output := h3
  size := hsize
  range b' g c sz hm := by
    by_cases e : b' = b
    · subst e; exact hrange g c sz hm
    · rw [hμ _ _ e] at hm; exact .inl ⟨g, hm⟩
  wr b' hb' h0 := by
    by_cases e : b' = b
    · subst e; exact hwr h0
    · unfold aWr at h0 ⊢; rw [AHeap.get_set _ _ _ _ hb, if_neg e]; exact h0
  frame := hframe

section
variable {P : Program} {E : Env} (hE : EnvOK P E) {A : AHeap} {μ : Mu} {w : World} (R : Rel A μ w)

/-! ### New blocks -/
theorem rowR_of {vs : List AV} {cs : Array Value} {e : TypeId} (h : VRs μ vs cs.toList) (ha : vs.all AV.one = true) : BlkR μ (.row true 0 (stamp0 vs)) 0 (objSize (.cells cs e)) (.cells cs e) := by
  refine ⟨cs, e, (0, 0), rfl, rfl, fun _ => rfl, Nat.le_refl _, fun _ => by have := h.length; simp [stamp0] at this ⊢; omega, fun i v s hi _ => ?_⟩
  simp only [stamp0, List.getElem?_map, Option.map_eq_some_iff, Prod.mk.injEq] at hi
  obtain ⟨v', h1, rfl, _⟩ := hi
  obtain ⟨u, h2, h3⟩ := h.get h1
  exact ⟨u, by simpa using h2, h3, List.all_eq_true.1 ha _ (List.mem_of_getElem? h1)⟩
theorem rng0 : Array.range 0 = #[] := rfl
theorem aZeros_len (z : List AV) : ∀ n, (aZeros z n).length = n * z.length
  | 0 => by simp [aZeros]
  | n + 1 => by simp [aZeros, aZeros_len z n, Nat.add_mul]; omega
theorem aZeros_get (z : List AV) : ∀ (n i : Nat), i < n * z.length → (aZeros z n)[i]? = z[i % z.length]?
  | 0, i, h => by simp at h
  | n + 1, i, h => by
    simp only [aZeros]
    by_cases hi : i < z.length
    · rw [List.getElem?_append_left hi, Nat.mod_eq_of_lt hi]
    · rw [List.getElem?_append_right (by omega), aZeros_get z n (i - z.length) (by rw [Nat.add_mul] at h; omega)]
      rw [Nat.mod_eq_sub_mod (show i ≥ z.length by omega)]
theorem zeros_VRs {z : List AV} {zc : Array Value} (h : VRs μ z zc.toList) (n m : Nat) (hm : m = n * z.length) : VRs μ (aZeros z n) ((Array.range m).map (zc[· % zc.size]!)).toList := by
  have hl : zc.size = z.length := by simpa using h.length
  refine VRs.of_get (by simp [aZeros_len, hm]) fun i v u hv hu => ?_
  have hi : i < n * z.length := by have := (List.getElem?_eq_some_iff.1 hv).1; rwa [aZeros_len] at this
  rw [aZeros_get z n i hi] at hv
  obtain ⟨u', h1, h2⟩ := h.get hv
  have h3 : zc[i % z.length]? = some u' := by simpa using h1
  simp [hm, hi, hl, getElem!_def, h3] at hu
  subst hu
  exact h2
include hE in
theorem new_sound {o : Oper} {ts : Ts} {B : ABlk} {mk : Nat → AV} (h : aNewO E ts o.op = some (B, mk)) {a : Act} (T : TR μ ts a.tmps) :
    ∃ ob u, (execOp a.eval o).run P w = .ok (.value u) (w.alloc ob) ∧ BlkR μ B 0 (objSize ob) ob ∧ ∀ (μ' : Mu) id, μ' id 0 = some (w.heap.size, objSize ob) → VR μ' (mk id) u := by
  obtain ⟨dst, op, type, pos, after, guard⟩ := o
  simp only at h
  cases op <;> simp only [aNewO] at h <;> try (cases h; done)
  case alloc t =>
    simp only [aAlloc, Option.bind_eq_some_iff] at h
    obtain ⟨at', ha, z, hz, h⟩ := h
    cases hall : z.all AV.one with
    | false => simp [hall] at h
    | true =>
      simp only [hall, cond_true, Option.some.injEq, Prod.mk.injEq] at h
      obtain ⟨rfl, rfl⟩ := h
      obtain ⟨zv, z1, z2, _⟩ := run_zero hE w ha hz μ
      refine ⟨.cells zv.cells t, .pointer (some ⟨w.heap.size, 0, none⟩), ?_, rowR_of z2 hall, fun μ' id hm => by simp only [VR]; exact ⟨_, _, hm, rfl⟩⟩
      simp [execOp, Instr.alloc, z1, newVar, newRow]
  case box t x =>
    simp only [Option.bind_eq_some_iff] at h
    obtain ⟨v, h1, h⟩ := h
    have r := evalO_VR hE T h1
    unfold aBox at h
    cases hall : v.cells.all AV.one with
    | false => simp [hall] at h
    | true =>
      simp only [hall, cond_true, Option.some.injEq, Prod.mk.injEq] at h
      obtain ⟨rfl, rfl⟩ := h
      refine ⟨.cells (a.eval x).cells t, .pointer (some ⟨w.heap.size, 0, none⟩), ?_, rowR_of r.cells hall, fun μ' id hm => by simp only [VR]; exact ⟨_, _, hm, rfl⟩⟩
      simp [execOp, Instr.box, newVar, newRow]
  case buildSlice t len ps =>
    simp only [Option.bind_eq_some_iff] at h
    obtain ⟨vs, h1, h⟩ := h
    obtain ⟨pl, pk⟩ := evalPs_VR T hE h1
    simp only [aBuildSlice, Option.bind_eq_some_iff] at h
    obtain ⟨at', ha, h⟩ := h
    have hund := (hE.ty _ _ ha).1
    split at h
    case h_2 => cases h
    rename_i elem hd
    rw [hd] at hund
    simp only [Option.bind_eq_some_iff, ble_dec, beq_dec, blt_dec] at h
    obtain ⟨e, he, z, hz, h⟩ := h
    by_cases hc : (len * e.size ≤ 16777216 ∧ z.length = e.size) ∧ 0 < e.size
    case neg =>
      exfalso
      have : (decide (len * e.size ≤ 16777216) && decide (z.length = e.size) && decide (0 < e.size)) = false := by simp only [and_dec, decide_eq_false_iff_not]; exact hc
      rw [this] at h; cases h
    obtain ⟨⟨hc1, hc2⟩, hc3⟩ := hc
    simp only [hc1, hc2, hc3, decide_true, Bool.and_self, cond_true, Option.bind_eq_some_iff] at h
    obtain ⟨cs, hf, h⟩ := h
    cases hall : cs.all AV.one with
    | false => simp [hall] at h
    | true =>
      simp only [hall, cond_true, Option.some.injEq, Prod.mk.injEq] at h
      obtain ⟨rfl, rfl⟩ := h
      obtain ⟨zv, z1, z2, _⟩ := run_zero hE w he hz μ
      have hzs : zv.cells.size = e.size := by have := z2.length; simp at this; omega
      have hzz := zeros_VRs z2 len (len * e.size) (by rw [hc2])
      obtain ⟨out', f1, f2⟩ := fill_sound (place' := fun i => some (i * e.size, e.size)) (fun _ _ h => h) hf hzz pl pk
      refine ⟨.cells out' elem, .slice (some ⟨w.heap.size, 0, none⟩) len len, ?_, rowR_of f2 hall, fun μ' id hm => ?_⟩
      · have epx : (Array.map (fun (x : Nat × Operand) => match x with | (i, x) => (i, a.eval x)) ps).toList = (List.map (fun p => (p.1, a.eval p.2)) ps.toList) := by simp
        have h24 : ¬ (len * e.size > 2 ^ 24) := by omega
        simp only [execOp, Instr.buildSlice, Sem.run_bind, run_underlying hund, Result.andThen_ok, run_szo hE w he, if_neg h24, Sem.run_pure]
        by_cases h0 : len * e.size = 0
        · have hl0 : len = 0 := by rcases Nat.mul_eq_zero.1 h0 with h | h; exact h; omega
          subst hl0
          rw [epx]
          simp only [Nat.zero_mul, rng0, Array.map_empty] at f1
          simp [f1, newRow, rng0]
        · simp only [if_neg h0, Sem.run_bind, z1, Result.andThen_ok, Sem.run_pure]
          rw [epx, f1]
          simp [newRow]
      · simp only [VR]
        refine ⟨_, _, len, 0, hm, rfl, Nat.le_refl _, Nat.le_refl _, fun _ => rfl, fun _ => ⟨rfl, fun hx => by cases hx⟩, ?_⟩
        have : len ≤ len * e.size := Nat.le_mul_of_pos_right _ hc3
        simp only [maxLen]; omega
  case makeMap t r =>
    cases r <;> simp only [aNewO] at h <;> try (cases h; done)
    simp only [aMakeMap, Option.some.injEq, Prod.mk.injEq] at h
    obtain ⟨rfl, rfl⟩ := h
    refine ⟨.map #[] 0, .map (some w.heap.size), by simp [execOp, Instr.makeMap], ⟨rfl, #[], rfl, by simp [EntsR]⟩, fun μ' id hm => by simp only [VR]; exact ⟨_, _, hm, rfl⟩⟩
  case makeSlice t l c =>
    simp only [Option.bind_eq_some_iff] at h
    obtain ⟨lv, h1, cv, h2, h⟩ := h
    have r1 := evalO_VR hE T h1
    have r2 := evalO_VR hE T h2
    unfold aMakeSlice at h
    split at h
    case h_2 => cases h
    rename_i l' c'
    simp only [VR] at r1 r2
    simp only [Option.bind_eq_some_iff] at h
    obtain ⟨at', ha, h⟩ := h
    have hund := (hE.ty _ _ ha).1
    split at h
    case h_2 => cases h
    rename_i elem hd
    rw [hd] at hund
    simp only [Option.bind_eq_some_iff, beq_dec, blt_dec] at h
    obtain ⟨e, he, z, hz, h⟩ := h
    by_cases hc : (((((0 ≤ l' ∧ l' ≤ c') ∧ c' ≤ 9223372036854775807) ∧ e.bytes * c' ≤ 281474976710656) ∧ z.length = e.size) ∧ z.all AV.one = true) ∧ 0 < e.size
    case neg =>
      exfalso
      have : (decide (0 ≤ l') && decide (l' ≤ c') && decide (c' ≤ 9223372036854775807) && decide (e.bytes * c' ≤ 281474976710656) && decide (z.length = e.size) && z.all AV.one && decide (0 < e.size)) = false := by
        cases hz : z.all AV.one with
        | false => simp
        | true => simp only [and_dec, Bool.and_true, decide_eq_false_iff_not]; intro hx; exact hc ⟨⟨hx.1, hz⟩, hx.2⟩
      rw [this] at h; cases h
    obtain ⟨⟨⟨⟨⟨⟨c1, c2⟩, c3⟩, c4⟩, c5⟩, c6⟩, c7⟩ := hc
    simp only [c1, c2, c3, c4, c5, c6, c7, decide_true, Bool.and_self, cond_true, Option.some.injEq, Prod.mk.injEq] at h
    obtain ⟨rfl, rfl⟩ := h
    obtain ⟨i, ri, hby, hsz, hinfo⟩ := run_info hE w he
    obtain ⟨zv, z1, z2, _⟩ := run_zero hE w he hz μ
    have hzz := zeros_VRs z2 c'.toNat (c'.toNat * e.size) (by rw [c5])
    have hall : (aZeros z c'.toNat).all AV.one = true := by
      rw [List.all_eq_true]
      intro v hv
      obtain ⟨j, hj⟩ := List.mem_iff_getElem?.1 hv
      have hjl : j < c'.toNat * z.length := by have := (List.getElem?_eq_some_iff.1 hj).1; rwa [aZeros_len] at this
      rw [aZeros_get z _ j hjl] at hj
      exact List.all_eq_true.1 c6 _ (List.mem_of_getElem? hj)
    have wl : IntKind.i64.wrap l' = l' := by unfold IntKind.wrap; simp [IntKind.bits, IntKind.signed]; omega
    have wc : IntKind.i64.wrap c' = c' := by unfold IntKind.wrap; simp [IntKind.bits, IntKind.signed]; omega
    refine ⟨.cells ((Array.range (c'.toNat * e.size)).map (zv.cells[· % zv.cells.size]!)) elem, .slice (some ⟨w.heap.size, 0, none⟩) l'.toNat c'.toNat, ?_, rowR_of hzz hall, fun μ' id hm => ?_⟩
    · have hb : ¬ (i.bytes * c' > 2 ^ 48) := by rw [hby]; omega
      have hb' : ¬ (281474976710656 < (i.bytes : Int) * c') := by rw [hby]; omega
      have g1 : ¬ c' < 0 := by omega
      have g2 : ¬ l' < 0 := by omega
      have g3 : ¬ c' < l' := by omega
      simp only [execOp, r1, r2, Instr.makeSlice, Sem.run_bind, run_underlying hund, Result.andThen_ok, asInt, asIntOf, Sem.run_pure, ri, wl, wc]
      by_cases h0 : c'.toNat * e.size = 0
      · simp [newRow, hb', g1, g2, g3, run_szo hE w he, h0, rng0]
      · simp [newRow, hb', g1, g2, g3, run_szo hE w he, h0, z1]
    · simp only [VR]
      refine ⟨_, _, c'.toNat, 0, hm, rfl, by omega, Nat.le_refl _, fun _ => rfl, fun _ => ⟨rfl, fun hx => by cases hx⟩, by simp only [maxLen]; omega⟩
end
end Go.AE
