/- The abstract evaluator, part 3: the operations that only read are right. -/
import Derived.Test.YteabbkagekdehaaAe2
import Derived.Laws.StructEq
import Derived.ChangeKeysEq
import Derived.LaidEql
set_option linter.unusedVariables false
set_option linter.unusedSectionVars false
set_option linter.unusedSimpArgs false
namespace Go.AE
variable [Val]
section
variable {P : Program} {E : Env} (hE : EnvOK P E) {A : AHeap} {μ : Mu} {w : World} (R : Rel A μ w)

/-! ### Parts and builds -/
include hE in
theorem part_sound {t : TypeId} {cs : List AV} {off : Nat} {v : AV} (h : aPart E t cs off = some v) {us : List Value} (k : VRs μ cs us) :
    ∃ u, (part t us.toArray off).run P w = .ok u w ∧ VR μ v u := by
  simp only [aPart, Option.bind_eq_some_iff, ble_dec] at h
  obtain ⟨a, ha, h⟩ := h
  cases hag : a.isAgg with
  | true =>
    simp only [hag, cond_true] at h
    by_cases hl : off + a.size ≤ cs.length
    · simp only [hl, decide_true, cond_true, Option.some.injEq] at h
      subst h
      refine ⟨.agg (us.toArray.extract off (off + a.size)), by simp [part, run_agg hE w ha, hag, run_szo hE w ha], ?_⟩
      simp only [VR]
      exact ⟨(us.drop off).take a.size, (k.drop off).take _, by congr 1; apply Array.ext'; simp [List.extract_eq_take_drop]⟩
    · simp [hl] at h
  | false =>
    simp only [hag, cond_false] at h
    obtain ⟨u, h1, h2⟩ := k.get h
    exact ⟨u, by simp [part, run_agg hE w ha, hag, h1], h2⟩

theorem foldl_set (off : Nat) : ∀ (vs : List Value) (j : Nat) (cells : Array Value), off + j + vs.length ≤ cells.size →
    ((vs.zipIdx j).foldl (fun cs (p : Value × Nat) => cs.setIfInBounds (off + p.2) p.1) cells) = (cells.toList.take (off + j) ++ vs ++ cells.toList.drop (off + j + vs.length)).toArray
  | [], j, cells, h => by simp
  | v :: vs, j, cells, h => by
    simp only [List.zipIdx_cons, List.foldl_cons]
    rw [foldl_set off vs (j + 1) _ (by simp at h ⊢; omega)]
    apply Array.ext'
    simp only [Array.toList_setIfInBounds]
    have e := list_seg_step cells.toList (off + j) v vs (by simp at h ⊢; omega)
    simpa [Nat.add_assoc] using e
theorem fill_sound {place place' : Nat → Option (Nat × Nat)} (hp : ∀ i x, place i = some x → place' i = some x) : ∀ {parts : List (Nat × AV)} {cells out : List AV} {parts' : List (Nat × Value)} {cells' : Array Value},
    aFill place cells parts = some out → VRs μ cells cells'.toList → parts'.length = parts.length → (∀ (i : Nat) p p', parts[i]? = some p → parts'[i]? = some p' → p.1 = p'.1 ∧ VR μ p.2 p'.2) →
    ∃ out', Instr.fill place' cells' parts' = some out' ∧ VRs μ out out'.toList
  | [], cells, out, [], cells', h, hc, _, _ => by
    simp only [aFill, Option.some.injEq] at h
    subst h
    exact ⟨cells', rfl, hc⟩
  | [], _, _, _ :: _, _, _, _, hl, _ => by simp at hl
  | _ :: _, _, _, [], _, _, _, hl, _ => by simp at hl
  | (i, v) :: parts, cells, out, (i', u) :: parts', cells', h, hc, hl, hps => by
    obtain ⟨hi, hvu⟩ := hps 0 (i, v) (i', u) (by simp) (by simp)
    simp only at hi hvu
    subst hi
    simp only [aFill, Option.bind_eq_some_iff, beq_dec, ble_dec] at h
    obtain ⟨⟨off, size⟩, h1, h2⟩ := h
    have hvc := hvu.cells
    have hlen := hvc.length
    by_cases hs : v.cells.length = size ∧ off + size ≤ cells.length
    · obtain ⟨hs1, hs2⟩ := hs
      simp only [hs1, hs2, decide_true, Bool.and_self, cond_true] at h2
      have hcl := hc.length
      have hus : u.cells.size = size := by rw [← hs1, ← hlen]; simp
      have hcs : cells'.size = cells.length := by simpa using hcl
      have hfold := foldl_set off u.cells.toList 0 cells' (by simp [hus, hcs]; omega)
      have hx : VRs μ (cells.take off ++ v.cells ++ cells.drop (off + size)) (cells'.toList.take (off + 0) ++ u.cells.toList ++ cells'.toList.drop (off + 0 + u.cells.toList.length)) := by
        have : off + 0 + u.cells.toList.length = off + size := by simp [hus]
        rw [this]
        exact ((hc.take off).append hvc).append (hc.drop _)
      obtain ⟨out', h3, h4⟩ := fill_sound hp h2 (cells' := (cells'.toList.take (off + 0) ++ u.cells.toList ++ cells'.toList.drop (off + 0 + u.cells.toList.length)).toArray) (by simpa using hx) (by simpa using hl)
        (fun j p p' a b => hps (j + 1) p p' (by simpa using a) (by simpa using b))
      refine ⟨out', ?_, h4⟩
      simp only [Instr.fill, hp _ _ h1]
      have c1 : (u.cells.size ≠ size || decide (off + u.cells.size > cells'.size)) = false := by simp [hus, hcs]; omega
      simp only [c1, Bool.false_eq_true, if_false]
      have : (Array.zipIdx u.cells).foldl (fun cs (x : Value × Nat) => match x with | (c, j) => cs.setIfInBounds (off + j) c) cells' = (cells'.toList.take (off + 0) ++ u.cells.toList ++ cells'.toList.drop (off + 0 + u.cells.toList.length)).toArray := by
        rw [← hfold, ← Array.foldl_toList]
        simp
      rw [this]
      exact h3
    · exfalso
      have : (decide (v.cells.length = size) && decide (off + size ≤ cells.length)) = false := by
        simp only [Bool.and_eq_false_iff, decide_eq_false_iff_not]
        omega
      rw [this] at h2
      cases h2
theorem evalPs_VR {ts : Ts} {a : Act} (T : TR μ ts a.tmps) (hE : EnvOK P E) : ∀ {ps : List (Nat × Operand)} {vs : List (Nat × AV)}, evalPs E ts ps = some vs →
    (ps.map fun p => (p.1, a.eval p.2)).length = vs.length ∧ ∀ (i : Nat) p p', vs[i]? = some p → (ps.map fun p => (p.1, a.eval p.2))[i]? = some p' → p.1 = p'.1 ∧ VR μ p.2 p'.2
  | [], vs, h => by simp only [evalPs] at h; cases h; simp
  | (n, x) :: ps, vs, h => by
    simp only [evalPs, Option.bind_eq_some_iff] at h
    obtain ⟨v, h1, vs', h2, h3⟩ := h
    cases h3
    obtain ⟨l, k⟩ := evalPs_VR T hE h2
    refine ⟨by simpa using l, fun i p p' hp hp' => ?_⟩
    cases i with
    | zero => simp at hp hp'; subst hp; subst hp'; exact ⟨rfl, evalO_VR hE T h1⟩
    | succ i => exact k i p p' (by simpa using hp) (by simpa using hp')
include hE in
theorem places_sound : ∀ {fs : List Field} {ps : List (Nat × Nat)}, aPlaces E fs = some ps → (fs.mapM (m := Sem) fun f => do pure (f.offset, ← sizeOf f.type)).run P w = .ok ps w
  | [], ps, h => by simp only [aPlaces] at h; cases h; simp
  | f :: fs, ps, h => by
    simp only [aPlaces, Option.bind_eq_some_iff] at h
    obtain ⟨a, h1, ps', h2, h3⟩ := h
    cases h3
    have ih := places_sound h2
    rw [List.mapM_cons]
    simp only [Sem.run_bind, run_szo hE w h1, Result.andThen_ok, Sem.run_pure]
    rw [ih]
    rfl
include hE in
theorem build_sound {t : TypeId} {parts : List (Nat × AV)} {v : AV} (h : aBuild E t parts = some v) {parts' : List (Nat × Value)} (hl : parts'.length = parts.length)
    (hps : ∀ (i : Nat) p p', parts[i]? = some p → parts'[i]? = some p' → p.1 = p'.1 ∧ VR μ p.2 p'.2) : ∃ u, (Instr.build t parts'.toArray).run P w = .ok u w ∧ VR μ v u := by
  simp only [aBuild, Option.bind_eq_some_iff] at h
  obtain ⟨a, ha, z, hz, h⟩ := h
  obtain ⟨z', hz1, hz2, _⟩ := run_zero hE w ha hz μ
  split at h
  · rename_i fields hd
    simp only [Option.bind_eq_some_iff] at h
    obtain ⟨ps, h1, cs, h2, h3⟩ := h
    cases h3
    have hpl := places_sound hE (w := w) h1
    obtain ⟨out', h4, h5⟩ := fill_sound (place' := (ps.toArray[·]?)) (by simp) h2 hz2 hl hps
    refine ⟨.agg out', ?_, by simp only [VR]; exact ⟨out'.toList, h5, by simp⟩⟩
    have hpl' : (fields.mapM (m := Sem) fun f => do pure (f.offset, ← sizeOf f.type)).run P w = .ok ps.toArray w := by
      rw [Array.mapM_eq_mapM_toList]
      simp only [Sem.run_map, hpl, Result.andThen_ok]
    simp only [Instr.build, Sem.run_bind, hz1, Result.andThen_ok, run_und hE w ha, hd, hpl', h4, Sem.run_pure, List.toList_toArray]
  · rename_i n elem hd
    simp only [Option.bind_eq_some_iff] at h
    obtain ⟨e, h1, cs, h2, h3⟩ := h
    cases h3
    obtain ⟨out', h4, h5⟩ := fill_sound (place' := fun i => some (i * e.size, e.size)) (fun _ _ h => h) h2 hz2 hl hps
    refine ⟨.agg out', ?_, by simp only [VR]; exact ⟨out'.toList, h5, by simp⟩⟩
    simp only [Instr.build, Sem.run_bind, hz1, Result.andThen_ok, run_und hE w ha, hd, run_szo hE w h1, h4, Sem.run_pure, List.toList_toArray]
  · cases h

/-! ### Loads -/
include R in
theorem tab_sound {b g es : Nat} {k : IntKind} {c sz : Nat} (hm : μ b g = some (c, sz)) : ∀ (n off : Nat) (l : List Int), aTab A b g es k n off = some l → ∀ j, j < n → w.cell? ⟨c, off + j * es, none⟩ = some (.int k (l.getD j 0))
  | 0, _, _, _, j, hj => by omega
  | n + 1, off, l, h, j, hj => by
    simp only [aTab, Option.bind_eq_some_iff] at h
    obtain ⟨v, h1, h⟩ := h
    split at h
    · rename_i k' m
      by_cases hk : k' = k
      · subst hk
        simp only [decide_true, cond_true, Option.bind_eq_some_iff, Option.some.injEq] at h
        obtain ⟨l', h2, rfl⟩ := h
        cases j with
        | zero =>
          obtain ⟨x, h3, h4, h5⟩ := aRead1_sound R h1 hm
          simp only [VR] at h3
          subst h3
          simpa using h5
        | succ j =>
          have := tab_sound hm n (off + es) l' h2 j (by omega)
          rw [show off + (j + 1) * es = off + es + j * es by rw [Nat.add_mul]; omega]
          simpa using this
      · simp [hk] at h
    · cases h
include hE R in
theorem load_sound {t : TypeId} {p v : AV} (h : aLoad E A t p = some v) {u : Value} (hu : VR μ p u) : ∃ x, (Instr.loadAt t u).run P w = .ok x w ∧ VR μ v x := by
  unfold aLoad at h
  split at h
  · rename_i b g off
    simp only [VR] at hu
    obtain ⟨c, sz, hm, rfl⟩ := hu
    simp only [Option.bind_eq_some_iff] at h
    obtain ⟨a, ha, h⟩ := h
    cases hag : a.isAgg with
    | true =>
      simp only [hag, cond_true, Option.bind_eq_some_iff] at h
      obtain ⟨vs, h1, h2⟩ := h
      cases h2
      obtain ⟨us, h3, h4, _, h5⟩ := aRead_sound R h1 hm
      have hl := run_loadCells_list (P := P) w ⟨c, off, none⟩ us h5
      refine ⟨.agg us.toArray, ?_, by simp only [VR]; exact ⟨us, h3, rfl⟩⟩
      simp only [Instr.loadAt, Instr.sureAddr, loadVar, Sem.run_bind, Sem.run_pure, Result.andThen_ok, run_agg hE w ha, hag, if_true, run_szo hE w ha]
      rw [← h4, hl]
      rfl
    | false =>
      simp only [hag, cond_false] at h
      obtain ⟨x, h3, h4, h5⟩ := aRead1_sound R h hm
      refine ⟨x, ?_, h3⟩
      simp [Instr.loadAt, Instr.sureAddr, loadVar, run_agg hE w ha, hag, h5]
  · rename_i b g off len es z
    simp only [VR] at hu
    obtain ⟨c, sz, hm, ⟨hz1, hz2⟩, rfl⟩ := hu
    simp only [Option.bind_eq_some_iff] at h
    obtain ⟨a, ha, h⟩ := h
    split at h
    · rename_i k hd
      simp only [Option.bind_eq_some_iff, Option.some.injEq] at h
      obtain ⟨l, hl, rfl⟩ := h
      have h5 := tab_sound R hm len off l hl (z.ev Val.ρ).toNat (by omega)
      have hag : a.isAgg = false := by simp [ATy.isAgg, hd]
      refine ⟨_, ?_, by simp only [VR]; rfl⟩
      simp [Instr.loadAt, Instr.sureAddr, loadVar, run_agg hE w ha, hag, h5, Sy.ev]
    · cases h
  · cases h

/-! ### Numbers, strings -/
omit [Val] in
theorem lt_dec (a b : Int) : decide (a < b) = !decide (b ≤ a) := by by_cases h : a < b <;> simp [h] <;> omega
include hE in
theorem symBin_sound {op : BinOp} {k : IntKind} {a b : Sy} {v : AV} (h : aSymBin E op k a b = some v) (t : TypeId) (μ : Mu) : ∃ u, (binOp op t (.int k (a.ev Val.ρ)) (.int k (b.ev Val.ρ))).run P w = .ok u w ∧ VR μ v u := by
  cases op <;> simp only [aSymBin] at h
  case shl => cases h
  case shr => cases h
  case quo =>
    split at h
    · rename_i n
      split at h
      · cases h
      · rename_i h0
        cases h
        simp only [VR, exists_eq_right]
        simp [binOp, Op.intDiv, h0, Sy.ev, binVal, aIntBin]
    · cases h
  case rem =>
    split at h
    · rename_i n
      split at h
      · cases h
      · rename_i h0
        cases h
        simp only [VR, exists_eq_right]
        simp [binOp, Op.intDiv, h0, Sy.ev, binVal, aIntBin]
    · cases h
  case eql => simp only [Option.bind_eq_some_iff, Option.some.injEq] at h; obtain ⟨r, h1, rfl⟩ := h; simp only [VR, exists_eq_right]; rw [← hE.eq _ _ _ h1]; simp [binOp, Op.intCmp]; rfl
  case neq => simp only [Option.bind_eq_some_iff, Option.some.injEq] at h; obtain ⟨r, h1, rfl⟩ := h; simp only [VR, exists_eq_right]; rw [← hE.eq _ _ _ h1]; simp [binOp, Op.intCmp]; rfl
  case lss => simp only [Option.bind_eq_some_iff, Option.some.injEq] at h; obtain ⟨r, h1, rfl⟩ := h; simp only [VR, exists_eq_right]; rw [← hE.le _ _ _ h1]; simp [binOp, Op.intCmp, lt_dec]
  case leq => simp only [Option.bind_eq_some_iff, Option.some.injEq] at h; obtain ⟨r, h1, rfl⟩ := h; simp only [VR, exists_eq_right]; rw [← hE.le _ _ _ h1]; simp [binOp, Op.intCmp]
  case gtr => simp only [Option.bind_eq_some_iff, Option.some.injEq] at h; obtain ⟨r, h1, rfl⟩ := h; simp only [VR, exists_eq_right]; rw [← hE.le _ _ _ h1]; simp [binOp, Op.intCmp, lt_dec]
  case geq => simp only [Option.bind_eq_some_iff, Option.some.injEq] at h; obtain ⟨r, h1, rfl⟩ := h; simp only [VR, exists_eq_right]; rw [← hE.le _ _ _ h1]; simp [binOp, Op.intCmp]
  all_goals
    cases h
    simp only [VR, exists_eq_right]
    unfold binOp
    simp only [ne_eq, not_true_eq_false, if_false, Sy.ev, binVal, aIntBin]
    rfl
theorem intBin_sound {op : BinOp} {k : IntKind} {a b : Int} {v : AV} (h : aIntBin op k a b = some v) (t : TypeId) (μ : Mu) : ∃ u, (binOp op t (.int k a) (.int k b)).run P w = .ok u w ∧ VR μ v u := by
  cases op <;> simp only [aIntBin] at h
  case shl => cases h
  case shr => cases h
  case quo =>
    split at h
    · cases h
    · rename_i h0
      cases h
      simp only [VR, exists_eq_right]
      simp [binOp, Op.intDiv, h0]
  case rem =>
    split at h
    · cases h
    · rename_i h0
      cases h
      simp only [VR, exists_eq_right]
      simp [binOp, Op.intDiv, h0]
  all_goals
    cases h
    simp only [VR, exists_eq_right]
    unfold binOp
    simp only [ne_eq, not_true_eq_false, if_false]
    rfl
theorem shift_sound {op : BinOp} {k : IntKind} {a b : Int} {v : AV} (h : aShift op k a b = some v) (yk : IntKind) (μ : Mu) : ∃ u, (Op.shift op k a yk b).run P w = .ok u w ∧ VR μ v u := by
  unfold aShift at h
  split at h
  · cases h
  · rename_i h0
    split at h <;> first
      | (cases h; simp only [VR, exists_eq_right]; simp [Op.shift, h0])
      | cases h
theorem strBin_sound {op : BinOp} {x y : ByteArray} {v : AV} (h : aStrBin op x y = some v) (t : TypeId) (μ : Mu) : ∃ u, (binOp op t (.string x) (.string y)).run P w = .ok u w ∧ VR μ v u := by
  cases op <;> simp only [aStrBin] at h
  case add =>
    by_cases hl : x.size + y.size ≤ 9223372036854775807
    · simp only [ble_dec, hl, decide_true, cond_true] at h
      cases h
      refine ⟨.string (x ++ y), ?_, by simp only [VR]⟩
      have : ¬ (((x.size + y.size : Nat) : Int) > IntKind.i64.max) := by simp [IntKind.max, IntKind.bits, IntKind.signed]; omega
      simp only [binOp, Op.stringOp, this, if_false, Sem.run_pure]
    · simp [ble_dec, hl] at h
  all_goals first
    | (cases h; simp only [VR, exists_eq_right, ← ByteArray.toList_eq]; rfl)
    | cases h

/-! ### '==' -/
theorem cellsOf_ty (hE : EnvOK P E) {t : TypeId} {a : ATy} (h : E.ty t = some a) : P.cellsOf t = a.size := by
  obtain ⟨_, i, hi, hs, _⟩ := hE.ty t a h
  simp [Program.cellsOf, hi, hs]
include R in
theorem wr_cells {b g c sz : Nat} (hm : μ b g = some (c, sz)) (hw : aWrRow A b = true) : ∃ cs e, w.heap[c]? = some (.cells cs e (0, 0)) := by
  unfold aWrRow at hw
  split at hw
  · rename_i wr gen cells hg
    obtain ⟨o, h1, cs, e, fr, h2, h3, h4, _⟩ := R.blk b _ hg g c sz hm
    rw [h2, h4 hw] at h1
    exact ⟨cs, e, h1⟩
  · cases hw
include hE R in
set_option maxHeartbeats 2000000 in
theorem eq_sound : ∀ (d : Nat) (t : TypeId) (x y : AV) (r : Bool), aEq E A d t x y = some r → ∀ (u v : Value), VR μ x u → VR μ y v → ∀ D, d ≤ D → (Op.equalIn D t u v).run P w = .ok r w
  | 0, _, _, _, _, h, _, _, _, _, _, _ => by simp [aEq] at h
  | d + 1, t, x, y, r, h, u, v, hu, hv, 0, hD => by omega
  | d + 1, t, x, y, r, h, u, v, hu, hv, D + 1, hD => by
    have ih := eq_sound d
    simp only [aEq, Option.bind_eq_some_iff] at h
    obtain ⟨a, ha, h⟩ := h
    have hund := (hE.ty t a ha).1
    split at h
    case h_1 => rename_i hd; simp only [VR] at hu hv; subst hu; subst hv; cases h; simp [Op.equalIn, run_underlying hund, hd]
    case h_2 =>
      rename_i hd
      simp only [VR] at hu hv
      subst hu; subst hv
      split at h
      · rename_i hk; subst hk; cases h; simp [Op.equalIn, run_underlying hund, hd]
      · cases h
    case h_3 => rename_i hd; simp only [VR] at hu hv; subst hu; subst hv; cases h; simp only [Op.equalIn, Sem.run_bind, run_underlying hund, hd, Result.andThen_ok, Sem.run_pure, beq_toListBytes, ByteArray.toList_eq]
    case h_4 => rename_i hd; simp only [VR] at hu hv; subst hu; subst hv; cases h; simp [Op.equalIn, run_underlying hund, hd]
    case h_5 => rename_i hd; simp only [VR] at hu hv; subst hu; obtain ⟨c, sz, _, rfl⟩ := hv; cases h; simp [Op.equalIn, run_underlying hund, hd]
    case h_6 => rename_i hd; simp only [VR] at hu hv; obtain ⟨c, sz, _, rfl⟩ := hu; subst hv; cases h; simp [Op.equalIn, run_underlying hund, hd]
    case h_7 =>
      rename_i e b g o b' g' o' hd
      simp only [Option.bind_eq_some_iff, beq_dec] at h
      obtain ⟨ae, hae, h⟩ := h
      simp only [VR] at hu hv
      obtain ⟨c, sz, hm, rfl⟩ := hu
      obtain ⟨c', sz', hm', rfl⟩ := hv
      by_cases hz : ae.size = 0
      · simp [hz] at h
      · simp only [hz, decide_false, cond_false] at h
        have key : (Op.equalIn (D + 1) t (.pointer (some ⟨c, o, none⟩)) (.pointer (some ⟨c', o', none⟩))).run P w = (sameAddr ⟨c, o, none⟩ ⟨c', o', none⟩).run P w := by
          simp only [Op.equalIn, Sem.run_bind, run_underlying hund, hd, Result.andThen_ok, run_szo hE w hae]
          simp [hz]
        rw [key]
        by_cases hb : b = b'
        · subst hb
          simp only [decide_true, cond_true] at h
          by_cases hg : g = g'
          · subst hg
            simp only [decide_true, cond_true, Option.some.injEq] at h
            subst h
            rw [hm] at hm'; cases hm'
            have e1 : ((⟨c, o, none⟩ : Addr) == ⟨c, o', none⟩) = decide (o = o') := by
              by_cases ho : o = o'
              · subst ho; simp
              · simp [ho]
            simp [sameAddr, e1]
          · simp [hg] at h
        · simp only [hb, decide_false, cond_false] at h
          cases hw1 : aWrRow A b <;> cases hw2 : aWrRow A b' <;> simp [hw1, hw2] at h
          subst h
          have hne : c ≠ c' := fun e => hb (R.inj b g c sz b' g' sz' hm (e ▸ hm'))
          obtain ⟨cs1, e1, q1⟩ := wr_cells R hm hw1
          obtain ⟨cs2, e2, q2⟩ := wr_cells R hm' hw2
          exact run_sameAddr_other w (fun e => hne (by cases e; rfl)) q1 q2
    case h_8 => rename_i hd; simp only [VR] at hu hv; subst hu; subst hv; cases h; simp [Op.equalIn, run_underlying hund, hd]
    case h_9 => rename_i hd; simp only [VR] at hu hv; subst hu; obtain ⟨x', _, rfl⟩ := hv; cases h; simp [Op.equalIn, run_underlying hund, hd]
    case h_10 => rename_i hd; simp only [VR] at hu hv; obtain ⟨x', _, rfl⟩ := hu; subst hv; cases h; simp [Op.equalIn, run_underlying hund, hd]
    case h_11 => rename_i hd; simp only [VR] at hu hv; subst hu; subst hv; cases h; simp [Op.equalIn, run_underlying hund, hd]
    case h_12 => rename_i hd; simp only [VR] at hu hv; subst hu; obtain ⟨_, _, _, _, _, rfl, _⟩ := hv; cases h; simp [Op.equalIn, run_underlying hund, hd]
    case h_13 => rename_i hd; simp only [VR] at hu hv; subst hv; obtain ⟨_, _, _, _, _, rfl, _⟩ := hu; cases h; simp [Op.equalIn, run_underlying hund, hd]
    case h_14 => rename_i hd; simp only [VR] at hu hv; subst hu; subst hv; cases h; simp [Op.equalIn, run_underlying hund, hd]
    case h_15 => rename_i hd; simp only [VR] at hu hv; subst hu; obtain ⟨c, sz, _, rfl⟩ := hv; cases h; simp [Op.equalIn, run_underlying hund, hd]
    case h_16 => rename_i hd; simp only [VR] at hu hv; subst hv; obtain ⟨c, sz, _, rfl⟩ := hu; cases h; simp [Op.equalIn, run_underlying hund, hd]
    case h_17 => rename_i hd; simp only [VR] at hu hv; subst hu; subst hv; cases h; simp [Op.equalIn, run_underlying hund, hd]
    case h_18 => rename_i hd; simp only [VR] at hu hv; subst hu; obtain ⟨fs, cs, _, _, rfl⟩ := hv; cases h; simp [Op.equalIn, run_underlying hund, hd]
    case h_19 => rename_i hd; simp only [VR] at hu hv; subst hv; obtain ⟨fs, cs, _, _, rfl⟩ := hu; cases h; simp [Op.equalIn, run_underlying hund, hd]
    case h_20 =>
      rename_i fields xs ys hd
      cases hp : a.plain with
      | false => simp [hp] at h
      | true =>
        simp only [hp, cond_true] at h
        obtain ⟨_, i, _, _, _, _, hpl⟩ := hE.ty t a ha
        simp only [VR] at hu hv
        obtain ⟨us, k1, rfl⟩ := hu
        obtain ⟨vs, k2, rfl⟩ := hv
        have hf : P.fieldsOf t = fields := by simp [Program.fieldsOf, hund, hd]
        rw [run_equalIn_struct w D t _ _ (by rw [hf, hund, hd]) (hpl hp).1, hf]
        generalize fields.toList = fs at h
        induction fs with
        | nil => simp only [aEqFields] at h; cases h; simp [Op.eqFields]
        | cons f fs ihf =>
          simp only [aEqFields] at h
          simp only [Op.eqFields]
          split at h
          · rename_i hn
            simp only [Option.bind_eq_some_iff] at h
            obtain ⟨p, hp1, q, hq1, r1, hr1, h⟩ := h
            obtain ⟨u1, e1, e2⟩ := part_sound hE (w := w) hp1 k1
            obtain ⟨v1, e3, e4⟩ := part_sound hE (w := w) hq1 k2
            have e5 := ih f.type p q r1 hr1 u1 v1 e2 e4 D (by omega)
            rw [if_pos hn]
            simp only [Sem.run_bind, e1, e3, e5, Result.andThen_ok]
            cases r1 with
            | true => simp only [cond_true] at h; simpa using ihf h
            | false => simp only [cond_false, Option.some.injEq] at h; subst h; simp
          · rename_i hn
            rw [if_neg hn]
            exact ihf h
    case h_21 =>
      rename_i n e xs ys hd
      simp only [Option.bind_eq_some_iff] at h
      obtain ⟨ae, hae, h⟩ := h
      obtain ⟨_, ie, hie, _⟩ := hE.ty e ae hae
      simp only [VR] at hu hv
      obtain ⟨us, k1, rfl⟩ := hu
      obtain ⟨vs, k2, rfl⟩ := hv
      rw [run_equalIn_array w D _ _ (by rw [hund, hd]) hie, cellsOf_ty hE hae]
      generalize List.range n = is at h
      induction is with
      | nil => simp only [aEqItems] at h; cases h; simp [Op.eqItems]
      | cons j is ihf =>
        simp only [aEqItems, Option.bind_eq_some_iff] at h
        obtain ⟨p, hp1, q, hq1, r1, hr1, h⟩ := h
        obtain ⟨u1, e1, e2⟩ := part_sound hE (w := w) hp1 k1
        obtain ⟨v1, e3, e4⟩ := part_sound hE (w := w) hq1 k2
        have e5 := ih e p q r1 hr1 u1 v1 e2 e4 D (by omega)
        simp only [Op.eqItems, Sem.run_bind, e1, e3, e5, Result.andThen_ok]
        cases r1 with
        | true => simp only [cond_true] at h; simpa using ihf h
        | false => simp only [cond_false, Option.some.injEq] at h; subst h; simp
    case h_22 =>
      rename_i kk hd _
      simp only [Option.bind_eq_some_iff] at h
      obtain ⟨⟨k, p⟩, e1, ⟨k', q⟩, e2, h⟩ := h
      split at h
      · rename_i hk
        simp only at hk
        subst hk
        have q1 := toSy_VR hu e1
        have q2 := toSy_VR hv e2
        subst q1; subst q2
        have e3 := hE.eq _ _ _ h
        rw [← e3]
        simp [Op.equalIn, run_underlying hund, hd]
        rfl
      · cases h
    case h_23 => cases h
end
end Go.AE
