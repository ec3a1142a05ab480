/- The abstract evaluator, part 7: the other operations that write; all of them together. -/
import Derived.Test.YteabbkagekdehaaAe6
set_option linter.unusedVariables false
set_option linter.unusedSectionVars false
set_option linter.unusedSimpArgs false
namespace Go.AE
variable [Val]
section
variable {P : Program} {E : Env} (hE : EnvOK P E) {A : AHeap} {μ : Mu} {w : World} (R : Rel A μ w)
include R in
/-- the elements of a slice, or the bytes of a string -/
theorem src_sound {es : Nat} {x : AV} {m : Nat} {vs : List AV} (h : aSrc A es x = some (m, vs)) {u : Value} (hu : VR μ x u) :
    ∃ us, VRs μ vs us ∧ us.length = m * es ∧ vs.all AV.one = true ∧ (∀ w' : World, (Builtin.lenOf u).run P w' = .ok m w') ∧
      (∀ k, k ≤ m → ∀ w' : World, w'.heap = w.heap → (Builtin.firstCells es k u).run P w' = .ok (us.take (k * es)).toArray w') := by
  unfold aSrc at h
  split at h
  · rename_i b g off len lo ex es'
    simp only [beq_dec] at h
    by_cases hes : es = es'
    case neg => simp [hes] at h
    subst hes
    simp only [decide_true, cond_true, Option.bind_eq_some_iff, Option.some.injEq, Prod.mk.injEq] at h
    obtain ⟨vs', h1, rfl, rfl⟩ := h
    simp only [VR] at hu
    obtain ⟨c, sz, cap, off', hm, rfl, q1, q2, q3, q4, q5⟩ := hu
    obtain ⟨us, o1, o2, o3, o4⟩ := aRead_sound R h1 hm
    refine ⟨us, o1, o2, o3, fun w' => rfl, fun k hk w' hw' => ?_⟩
    by_cases hc0 : cap = 0
    · have hl0 : len = 0 := by omega
      subst hl0
      obtain rfl : k = 0 := by omega
      simp [Builtin.firstCells, loadCells, loadCellsFrom]
    · obtain ⟨rfl, _⟩ := q4 hc0
      have hkl : k * es ≤ len * es := Nat.mul_le_mul_right _ hk
      refine run_firstCells_some w' _ _ _ _ _ _ (by simp; omega) (fun j u hj => ?_)
      rw [List.getElem?_take] at hj
      split at hj
      · have := o4 j u hj; simpa [World.cell?, hw'] using this
      · cases hj
  · simp only [VR] at hu
    subst hu
    simp only [Option.some.injEq, Prod.mk.injEq] at h
    obtain ⟨rfl, rfl⟩ := h
    exact ⟨[], VRs.nil, by simp, rfl, fun w' => rfl, fun k hk w' _ => by simp [Builtin.firstCells]⟩
  · rename_i s
    simp only [VR] at hu
    subst hu
    simp only [beq_dec] at h
    by_cases hes : es = 1
    case neg => simp [hes] at h
    subst hes
    simp only [decide_true, cond_true, Option.some.injEq, Prod.mk.injEq] at h
    obtain ⟨rfl, rfl⟩ := h
    refine ⟨s.data.toList.map fun c => .int .u8 c.toNat, ?_, by simp, by rw [List.all_eq_true]; intro v hv; simp at hv; obtain ⟨c, _, rfl⟩ := hv; rfl, fun w' => rfl, fun k hk w' _ => ?_⟩
    · refine VRs.of_get (by simp) fun i v u hv hu => ?_
      simp only [List.getElem?_map, Option.map_eq_some_iff] at hv hu
      obtain ⟨c, h1, rfl⟩ := hv
      obtain ⟨c', h2, rfl⟩ := hu
      rw [h1] at h2; cases h2
      simp only [VR]
    · simp only [Builtin.firstCells, Sem.run_pure]
      congr 1
      apply Array.ext'
      simp [ByteArray.extract, ByteArray.copySlice, List.map_take]
  · cases h
theorem len_le {a b : Nat} (h : a ≤ b) (c : Nat) : a * c ≤ b * c := Nat.mul_le_mul_right _ h
theorem all_take {vs : List AV} (h : vs.all AV.one = true) (n : Nat) : (vs.take n).all AV.one = true := by
  rw [List.all_eq_true] at h ⊢
  exact fun v hv => h v (List.mem_of_mem_take hv)
include hE R in
theorem append_sound {t xt : TypeId} {s x v : AV} {A' : AHeap} (h : aAppend E A t xt s x = some (v, A')) (hfr : ∀ b g, A.n ≤ b → b < A'.n → μ b g = none) {su xu : Value} (hs : VR μ s su) (hx : VR μ x xu) (ty : TypeId) :
    ∃ u w' μ', (Builtin.append_ #[t, xt] ty #[su, xu]).run P w = .ok u w' ∧ VR μ' v u ∧ Rel A' μ' w' ∧ Ext A A' μ μ' w w' := by
  simp only [aAppend, Option.bind_eq_some_iff] at h
  obtain ⟨a, ha, h⟩ := h
  have hund := (hE.ty _ _ ha).1
  split at h
  case h_2 => cases h
  rename_i elem hd
  rw [hd] at hund
  simp only [Option.bind_eq_some_iff, blt_dec, beq_dec] at h
  obtain ⟨e, he, ax, hax, z, hz, h⟩ := h
  have hundx := (hE.ty _ _ hax).1
  by_cases hc : (0 < e.size ∧ z.length = e.size) ∧ z.all AV.one = true
  case neg =>
    exfalso
    have : (decide (0 < e.size) && decide (z.length = e.size) && z.all AV.one) = false := by
      cases hza : z.all AV.one with
      | false => simp
      | true => simp only [and_dec, Bool.and_true, decide_eq_false_iff_not]; intro hx; exact hc ⟨hx, hza⟩
    rw [this] at h; cases h
  obtain ⟨⟨hc1, hc2⟩, hc3⟩ := hc
  simp only [hc1, hc2, hc3, decide_true, Bool.and_self, cond_true, Option.bind_eq_some_iff] at h
  obtain ⟨⟨m, news⟩, hsrc, len, hlen, h⟩ := h
  simp only [ble_dec] at h
  by_cases hk : ((len + m) * e.bytes ≤ 140737488355328 ∧ len + m ≤ 9223372036854775807) ∧ news.all AV.one = true
  case neg =>
    exfalso
    have : (decide ((len + m) * e.bytes ≤ 140737488355328) && decide (len + m ≤ 9223372036854775807) && news.all AV.one) = false := by
      cases hza : news.all AV.one with
      | false => simp
      | true => simp only [and_dec, Bool.and_true, decide_eq_false_iff_not]; intro hx; exact hk ⟨hx, hza⟩
    rw [this] at h; cases h
  obtain ⟨⟨hk1, hk2⟩, hk3⟩ := hk
  simp only [hk1, hk2, hk3, decide_true, Bool.and_self, cond_true] at h
  have hszo := run_szo hE w he
  unfold aAppSrc at hsrc
  split at hsrc
  · -- a number of zeros
    rename_i k hdx
    rw [hdx] at hundx
    split at hsrc
    case h_2 => cases hsrc
    rename_i n
    simp only [VR] at hx
    subst hx
    by_cases hn : 0 ≤ n ∧ n ≤ 9223372036854775807
    case neg => simp only [and_dec, decide_eq_false hn, cond_false] at hsrc; cases hsrc
    simp only [hn.1, hn.2, decide_true, Bool.and_self, cond_true, Option.some.injEq, Prod.mk.injEq] at hsrc
    obtain ⟨rfl, rfl⟩ := hsrc
    obtain ⟨i, ri, hb, hsi, hinfo⟩ := run_info hE w he
    obtain ⟨zv, z1, z2, _⟩ := run_zero hE w he hz μ
    have z1' : ∀ w' : World, (zeroValue elem).run P w' = .ok zv w' := by
      intro w'
      obtain ⟨zv', z1', _⟩ := run_zero hE w' he hz μ
      simp only [zeroValue, typeInfo, Sem.run_bind, run_program, Result.andThen_ok, hinfo, Sem.run_pure] at z1 z1' ⊢
      cases hzz : i.zero with
      | none => simp [hzz] at z1
      | some q => simp [hzz] at z1 ⊢; exact z1
    have hzs : zv.cells.size = e.size := by have := z2.length; simp at this; omega
    have hzz := zeros_VRs z2 n.toNat (n.toNat * e.size) (by rw [hc2])
    have hb48 : ¬ (n * i.bytes > 2 ^ 48) := by
      have : n.toNat * e.bytes ≤ (len + n.toNat) * e.bytes := len_le (by omega) _
      have h2 : n * (i.bytes : Int) = ((n.toNat * e.bytes : Nat) : Int) := by rw [hb]; push_cast; rw [Int.toNat_of_nonneg hn.1]
      rw [h2]; omega
    obtain ⟨base, sCap, rfl, u, w', μ', e1, e2, e3, e4⟩ := appTail_sound hE R he hz hc2 hc1 h hfr hlen hk1 hk2 hk3 hzz (us := ((Array.range (n.toNat * e.size)).map (zv.cells[· % zv.cells.size]!)).toList) (by simp) (zeros := true) (x := .int .i64 n)
      (appended := (if n.toNat * e.size = 0 then pure #[] else do pure (Builtin.zeroCells (← zeroValue elem).cells n.toNat))) (fun w' _ => by
        by_cases h0 : n.toNat * e.size = 0
        · simp [h0, rng0]
        · simp only [if_neg h0, Sem.run_bind, z1', Result.andThen_ok, Sem.run_pure]
          simp only [Builtin.zeroCells, hzs]) hs
    exact ⟨u, w', μ', by rw [append_zeros hund hundx hszo ri hn.1 hn.2 hb48]; exact e1, e2, e3, e4⟩
  · rename_i hnint
    have hdx : ∀ k, ax.desc ≠ .int k := fun k hk => hnint k hk
    obtain ⟨us, s1, s2, s3, s4, s5⟩ := src_sound (P := P) R hsrc hx
    obtain ⟨base, sCap, rfl, u, w', μ', e1, e2, e3, e4⟩ := appTail_sound hE R he hz hc2 hc1 h hfr hlen hk1 hk2 hk3 s1 s2 (zeros := false) (x := xu) (appended := Builtin.firstCells e.size m xu)
      (fun w' hw' => by rw [s5 m (Nat.le_refl _) w' hw', ← s2, List.take_length]) hs
    exact ⟨u, w', μ', by rw [append_plain hund hundx hdx hszo (s4 w)]; exact e1, e2, e3, e4⟩
include hE R in
theorem copy_sound {t : TypeId} {d x v : AV} {A' : AHeap} (h : aCopy E A t d x = some (v, A')) {du xu : Value} (hd : VR μ d du) (hx : VR μ x xu) (ts : List TypeId) (ty : TypeId) :
    ∃ u w', (Builtin.copy_ (t :: ts).toArray ty #[du, xu]).run P w = .ok u w' ∧ VR μ v u ∧ Rel A' μ w' ∧ Ext A A' μ μ w w' := by
  simp only [aCopy, Option.bind_eq_some_iff] at h
  obtain ⟨a, ha, h⟩ := h
  have hund := (hE.ty _ _ ha).1
  split at h
  case h_2 => cases h
  rename_i elem hdd
  rw [hdd] at hund
  simp only [Option.bind_eq_some_iff] at h
  obtain ⟨e, he, h⟩ := h
  have hszo := run_szo hE w he
  split at h
  · simp only [VR] at hd
    subst hd
    simp only [Option.bind_eq_some_iff, Option.some.injEq, Prod.mk.injEq] at h
    obtain ⟨⟨m, vs⟩, hsrc, rfl, rfl⟩ := h
    obtain ⟨us, s1, s2, s3, s4, s5⟩ := src_sound (P := P) R hsrc hx
    refine ⟨.int .i64 0, w, ?_, by simp only [VR], R, Ext.refl _ _ _⟩
    have := s5 0 (Nat.zero_le _) w rfl
    simp [Builtin.copy_, run_underlying hund, s4, hszo, this, goInt]
  · rename_i b g off len lo ex es
    simp only [VR] at hd
    obtain ⟨c, sz, cap, off', hm, rfl, q1, q2, q3, q4, q5⟩ := hd
    simp only [beq_dec] at h
    by_cases hes : es = e.size
    case neg => simp [hes] at h
    subst hes
    simp only [decide_true, cond_true, Option.bind_eq_some_iff] at h
    obtain ⟨⟨m, vs⟩, hsrc, h⟩ := h
    obtain ⟨us, s1, s2, s3, s4, s5⟩ := src_sound (P := P) R hsrc hx
    have hfc := s5 (min m len) (Nat.min_le_left _ _) w rfl
    by_cases h0 : min m len = 0
    · simp only [h0, decide_true, cond_true, Option.some.injEq, Prod.mk.injEq] at h
      obtain ⟨rfl, rfl⟩ := h
      refine ⟨.int .i64 0, w, ?_, by simp only [VR], R, Ext.refl _ _ _⟩
      rw [h0] at hfc
      have hmn : m.min len = 0 := h0
      simp [Builtin.copy_, run_underlying hund, s4, hszo, hmn, hfc, goInt, storeCells]
    · simp only [h0, decide_false, cond_false, Option.bind_eq_some_iff, Option.some.injEq, Prod.mk.injEq] at h
      obtain ⟨A1, h1, rfl, rfl⟩ := h
      obtain ⟨rfl, _⟩ := q4 (by omega)
      obtain ⟨w', w1, w2, w3⟩ := write_sound (P := P) R h1 (s1.take _) hm
      refine ⟨.int .i64 (min m len : Nat), w', ?_, by simp only [VR], w2, w3⟩
      have hmn : m.min len = min m len := rfl
      simp only [Builtin.copy_, List.getElem?_toArray, List.getElem?_cons_zero, List.getElem?_cons_succ, Sem.run_bind, run_underlying hund, Result.andThen_ok, s4, hszo, hmn, hfc, w1, Sem.run_pure, goInt]
  · cases h
include R in
theorem map_change {b : Nat} {es es' : List (AV × AV × Nat)} {clock clock' : Nat} (h : aMap A b = some (es, clock)) {c sz : Nat} (hm : μ b 0 = some (c, sz)) {ms ms' : Array MapEntry} (hw : w.heap[c]? = some (.map ms clock)) (hent : EntsR μ es' ms'.toList) :
    (setObj c (.map ms' clock')).run P w = .ok () { w with heap := w.heap.setIfInBounds c (.map ms' clock') } ∧ Rel (A.set b (.map es' clock')) μ { w with heap := w.heap.setIfInBounds c (.map ms' clock') } ∧
      Ext A (A.set b (.map es' clock')) μ μ w { w with heap := w.heap.setIfInBounds c (.map ms' clock') } := by
  have hget : A.get b = some (.map es clock) := by
    unfold aMap at h
    split at h
    · rename_i hg; cases h; exact hg
    · cases h
  have hb := AHeap.get_lt hget
  have hcl : c < w.heap.size := R.bound _ _ _ _ hm
  have hsame : ∀ k, k ≠ c → (w.heap.setIfInBounds c (.map ms' clock'))[k]? = w.heap[k]? := fun k hk => by
    rw [Array.getElem?_setIfInBounds_ne (Ne.symm hk)]
  refine ⟨by simp [setObj, Sem.run, hw], Rel.change R hb (MuLe.refl _) (fun _ _ _ => rfl) (by simp) (fun b' g' c' sz' hne hm' => hsame c' fun e => hne (R.inj _ _ _ _ _ _ _ (e ▸ hm') hm)) (fun g1 c1 sz1 hm1 => ?_),
    Ext.change hb (MuLe.refl _) (fun _ _ _ => rfl) (by simp) rfl rfl rfl ?_ (fun g1 c1 sz1 hm1 => .inl ⟨g1, hm1⟩) (fun c0 hc0 hf => hsame c0 fun e => ?_)⟩
  · refine ⟨by simp; exact R.bound _ _ _ _ hm1, fun b' g' sz' hne h => hne (R.inj _ _ _ _ _ _ _ h hm1), ?_⟩
    by_cases hc : c1 = c
    · subst hc
      have h0 : g1 = 0 := by
        obtain ⟨o, h1, h0, _⟩ := R.blk _ _ hget g1 c1 sz1 hm1
        exact h0
      exact ⟨.map ms' clock', by simp [hcl], h0, ms', rfl, hent⟩
    · -- another generation of a map: it can't be
      obtain ⟨o, h1, h0, _⟩ := R.blk _ _ hget g1 c1 sz1 hm1
      subst h0
      rw [hm] at hm1
      cases hm1
      exact absurd rfl hc
  · unfold aWr; rw [AHeap.get_set _ _ _ _ hb, if_pos rfl, hget]; exact id
  · have := hf b 0 sz (e ▸ hm) hb
    simp [aWr, hget] at this
theorem beq_ba {a b : ByteArray} (h : (a == b) = true) : a = b := by
  rw [beq_toListBytes, ByteArray.toList_eq, ByteArray.toList_eq] at h
  obtain ⟨⟨x⟩⟩ := a
  obtain ⟨⟨y⟩⟩ := b
  simp at h
  simp [h]
theorem sameBits_of {k k0 : AV} (h : aScalarEq k k0 = some true) {u u0 : Value} (hu : VR μ k u) (hu0 : VR μ k0 u0) (n : Nat) : Instr.sameBits n u0 u = true := by
  cases k <;> cases k0 <;> simp only [aScalarEq] at h <;> try (cases h; done)
  all_goals (simp only [VR] at hu hu0; subst hu; subst hu0)
  · simp at h; subst h; cases n <;> simp [Instr.sameBits]
  · split at h
    · rename_i hk; subst hk; simp at h; subst h; cases n <;> simp [Instr.sameBits]
    · cases h
  · simp only [Option.some.injEq] at h; have := beq_ba h; subst this; cases n <;> simp [Instr.sameBits] <;> exact h
theorem keyStays {k k0 : AV} (h : aScalarEq k k0 = some true) {u u0 : Value} (hu : VR μ k u) (hu0 : VR μ k0 u0) : (Instr.keyThatStays u0 u).run P w = .ok u w := by
  simp [Instr.keyThatStays, sameBits_of h hu hu0]
include hE in
theorem find_sound {kt : TypeId} {k : AV} (hk : aKeyOK E kt k = true) {uk : Value} (huk : VR μ k uk) {es : List (AV × AV × Nat)} {r : Option (Nat × AV × Nat)} (h : aFind k es 0 = some r) {ms : Array MapEntry} (hent : EntsR μ es ms.toList) :
    ∃ r', (Instr.findKey kt uk ms.toList).run P w = .ok r' w ∧ (r = none → r' = none) ∧ (∀ j v s, r = some (j, v, s) → ∃ y k0 m, r' = some (j, y) ∧ VR μ v y ∧ es[j]? = some (k0, v, s) ∧ aScalarEq k k0 = some true ∧ ms[j]? = some m ∧ EntR μ (k0, v, s) m) := by
  obtain ⟨ak, hak, hmd, hck⟩ := key_sound hE (w := w) hk huk
  obtain ⟨r', e1, e2, e3⟩ := findNow_sound huk hmd h hent
  refine ⟨r', ?_, e2, fun j v s hj => ?_⟩
  · simp only [Instr.findKey, Sem.run_bind, run_underlying (hE.ty _ _ hak).1, Result.andThen_ok, e1]
    rfl
  · obtain ⟨y, k0, a1, a2, _, a4, a5⟩ := e3 j v s hj
    simp only [Nat.sub_zero] at a4
    have hj' : j < ms.toList.length := by rw [hent.1]; exact (List.getElem?_eq_some_iff.1 a4).1
    have hm := hent.2 j _ _ a4 (List.getElem?_eq_getElem hj')
    exact ⟨y, k0, _, a1, a2, a4, a5, by simp, hm⟩
theorem ents_set {es : List (AV × AV × Nat)} {ms : Array MapEntry} (hent : EntsR μ es ms.toList) {i : Nat} {e' : AV × AV × Nat} {f : MapEntry → MapEntry} (hf : ∀ m, ms[i]? = some m → EntR μ e' (f m)) : EntsR μ (es.set i e') (ms.modify i f).toList := by
  refine ⟨by have := hent.1; simpa using this, fun j e m h1 h2 => ?_⟩
  simp only [Array.toList_modify] at h2
  rw [List.getElem?_modify, Option.map_eq_map, Option.map_eq_some_iff] at h2
  obtain ⟨m0, h3, h4⟩ := h2
  rw [List.getElem?_set] at h1
  by_cases hij : i = j
  · subst hij
    rw [if_pos rfl] at h1 h4
    split at h1
    · cases h1
      subst h4
      exact hf m0 (by simpa using h3)
    · cases h1
  · rw [if_neg hij] at h1 h4
    subst h4
    exact hent.2 j e m0 h1 h3
theorem ents_push {es : List (AV × AV × Nat)} {ms : Array MapEntry} (hent : EntsR μ es ms.toList) {e' : AV × AV × Nat} {m' : MapEntry} (h : EntR μ e' m') : EntsR μ (es ++ [e']) (ms.push m').toList := by
  refine ⟨by have := hent.1; simp at this ⊢; exact this, fun j e m h1 h2 => ?_⟩
  simp only [Array.toList_push] at h2
  have hl := hent.1
  rw [List.getElem?_append] at h1 h2
  rw [hl] at h2
  split at h1
  · rename_i hj; rw [if_pos hj] at h2; exact hent.2 j e m h1 h2
  · rename_i hj
    rw [if_neg hj] at h2
    cases hd : j - es.length with
    | zero => rw [hd] at h1 h2; simp at h1 h2; subst h1; subst h2; exact h
    | succ n => rw [hd] at h1; simp at h1
include hE R in
theorem mapUpdate_sound {t : TypeId} {m k v : AV} {A' : AHeap} (h : aMapUpdate E A t m k v = some A') {um uk uv : Value} (hm : VR μ m um) (hk : VR μ k uk) (hv : VR μ v uv) :
    ∃ w', (Instr.mapUpdate t um uk uv).run P w = .ok () w' ∧ Rel A' μ w' ∧ Ext A A' μ μ w w' := by
  simp only [aMapUpdate, Option.bind_eq_some_iff] at h
  obtain ⟨a, ha, h⟩ := h
  have hund := (hE.ty _ _ ha).1
  split at h
  case h_2 => cases h
  rename_i kt vt b hd
  rw [hd] at hund
  cases hok : aKeyOK E kt k with
  | false => simp [hok] at h
  | true =>
    simp only [hok, cond_true, Option.bind_eq_some_iff] at h
    obtain ⟨⟨es, clock⟩, h1, r, h2, h3⟩ := h
    simp only [VR] at hm
    obtain ⟨c, sz, hmu, rfl⟩ := hm
    obtain ⟨ms, hw, hent⟩ := map_sound R h1 hmu
    obtain ⟨_, _, _, hck⟩ := key_sound hE (w := w) hok hk
    obtain ⟨r', f1, f2, f3⟩ := find_sound hE (w := w) hok hk h2 hent
    cases r with
    | none =>
      rw [f2 rfl] at f1
      simp only [Option.some.injEq] at h3
      subst h3
      obtain ⟨s1, s2, s3⟩ := map_change (P := P) R h1 hmu hw (ents_push hent (e' := (k, v, clock)) (m' := { key := uk, val := uv, born := clock }) ⟨hk, hv, rfl⟩) (clock' := clock + 1)
      refine ⟨_, ?_, s2, s3⟩
      simp only [Instr.mapUpdate, Sem.run_bind, run_underlying hund, Result.andThen_ok, run_getObj_map hw, hck, f1]
      exact s1
    | some p =>
      obtain ⟨i, v0, s0⟩ := p
      obtain ⟨y, k0, mm, rfl, _, g2, g3, g4, g5⟩ := f3 i v0 s0 rfl
      simp only [Option.some.injEq] at h3
      subst h3
      obtain ⟨s1, s2, s3⟩ := map_change (P := P) R h1 hmu hw (clock' := clock) (ents_set hent (i := i) (e' := (k, v, s0)) (f := fun e => { e with key := uk, val := uv }) (fun m' hm' => by
        rw [g4] at hm'; cases hm'; exact ⟨hk, hv, g5.2.2⟩))
      refine ⟨_, ?_, s2, s3⟩
      simp only [Instr.mapUpdate, Sem.run_bind, run_underlying hund, Result.andThen_ok, run_getObj_map hw, hck, f1, g4, Option.map_some, Option.getD_some, keyStays g3 hk g5.1]
      exact s1
include hE R in
theorem mapEntry_sound {t : TypeId} {m k v : AV} {A' : AHeap} (h : aMapEntry E A t m k = some (v, A')) {um uk : Value} (hm : VR μ m um) (hk : VR μ k uk) :
    ∃ u w', (Instr.mapEntry t um uk).run P w = .ok u w' ∧ VR μ v u ∧ Rel A' μ w' ∧ Ext A A' μ μ w w' := by
  simp only [aMapEntry, Option.bind_eq_some_iff] at h
  obtain ⟨a, ha, h⟩ := h
  have hund := (hE.ty _ _ ha).1
  split at h
  case h_2 => cases h
  rename_i kt vt b hd
  rw [hd] at hund
  cases hok : aKeyOK E kt k with
  | false => simp [hok] at h
  | true =>
    simp only [hok, cond_true, Option.bind_eq_some_iff] at h
    obtain ⟨⟨es, clock⟩, h1, r, h2, h3⟩ := h
    simp only [VR] at hm
    obtain ⟨c, sz, hmu, rfl⟩ := hm
    obtain ⟨ms, hw, hent⟩ := map_sound R h1 hmu
    obtain ⟨_, _, _, hck⟩ := key_sound hE (w := w) hok hk
    obtain ⟨r', f1, f2, f3⟩ := find_sound hE (w := w) hok hk h2 hent
    cases r with
    | none =>
      rw [f2 rfl] at f1
      simp only [Option.bind_eq_some_iff, Option.some.injEq, Prod.mk.injEq] at h3
      obtain ⟨e, he, z, hz, rfl, rfl⟩ := h3
      obtain ⟨zv, z1, z2⟩ := zeroV_sound hE (w := w) he hz μ
      obtain ⟨s1, s2, s3⟩ := map_change (P := P) R h1 hmu hw (ents_push hent (e' := (k, z, clock)) (m' := { key := uk, val := zv, born := clock }) ⟨hk, z2, rfl⟩) (clock' := clock + 1)
      refine ⟨.tuple #[zv, goInt clock], _, ?_, ?_, s2, s3⟩
      · simp only [Instr.mapEntry, Sem.run_bind, run_underlying hund, Result.andThen_ok, run_getObj_map hw, hck, f1, z1, s1, Sem.run_pure]
      · simp only [VR, VRs]
        exact ⟨_, ⟨_, _, rfl, z2, _, _, rfl, rfl, rfl⟩, rfl⟩
    | some p =>
      obtain ⟨i, v0, s0⟩ := p
      obtain ⟨y, k0, mm, rfl, g1, g2, g3, g4, g5⟩ := f3 i v0 s0 rfl
      simp only [Option.some.injEq, Prod.mk.injEq] at h3
      obtain ⟨rfl, rfl⟩ := h3
      have hset : es.set i (k0, v0, s0) = es := by
        apply List.ext_getElem?
        intro j
        rw [List.getElem?_set]
        by_cases hij : i = j
        · subst hij; rw [if_pos rfl, g2]; have := (List.getElem?_eq_some_iff.1 g2).1; simp [this]
        · rw [if_neg hij]
      have hkk : VR μ k0 uk := by
        have : k = k0 := by
          cases k <;> cases k0 <;> simp only [aScalarEq] at g3 <;> try (cases g3; done)
          · simp at g3; rw [g3]
          · split at g3
            · rename_i hh; subst hh; simp at g3; rw [g3]
            · cases g3
          · simp only [Option.some.injEq] at g3; rw [beq_ba g3]
        rw [← this]; exact hk
      have he := ents_set hent (i := i) (e' := (k0, v0, s0)) (f := fun e => { e with key := uk }) (fun m' hm' => by rw [g4] at hm'; cases hm'; exact ⟨hkk, g5.2.1, g5.2.2⟩)
      rw [hset] at he
      obtain ⟨s1, s2, s3⟩ := map_change (P := P) R h1 hmu hw (clock' := clock) he
      refine ⟨.tuple #[y, goInt s0], _, ?_, ?_, s2, s3⟩
      · have hb : mm.born = s0 := g5.2.2
        simp only [Instr.mapEntry, Sem.run_bind, run_underlying hund, Result.andThen_ok, run_getObj_map hw, hck, f1, g4, Option.map_some, Option.getD_some, keyStays g3 hk g5.1, s1, Sem.run_pure, hb]
      · simp only [VR, VRs]
        exact ⟨_, ⟨_, _, rfl, g1, _, _, rfl, rfl, rfl⟩, rfl⟩
include hE R in
theorem clear_sound {t : TypeId} {x : AV} {A' : AHeap} (h : aClear E A t x = some A') {u : Value} (hu : VR μ x u) (ts : List TypeId) (ty : TypeId) :
    ∃ w', (Builtin.clear_ (t :: ts).toArray ty #[u]).run P w = .ok (.tuple #[]) w' ∧ Rel A' μ w' ∧ Ext A A' μ μ w w' := by
  unfold aClear at h
  split at h
  · simp only [Option.bind_eq_some_iff, Option.some.injEq] at h
    obtain ⟨a, ha, rfl⟩ := h
    simp only [VR] at hu; subst hu
    refine ⟨w, ?_, R, Ext.refl _ _ _⟩
    simp only [Builtin.clear_, List.getElem?_toArray, List.getElem?_cons_zero, Sem.run_bind, run_und hE w ha, Result.andThen_ok]
    cases a.desc <;> rfl
  · rename_i b g off len lo ex es
    simp only [VR] at hu
    obtain ⟨c, sz, cap, off', hm, rfl, q1, q2, q3, q4, q5⟩ := hu
    simp only [beq_dec] at h
    by_cases hl : len = 0
    · subst hl
      simp only [decide_true, cond_true, Option.bind_eq_some_iff, Option.some.injEq] at h
      obtain ⟨a, ha, rfl⟩ := h
      refine ⟨w, ?_, R, Ext.refl _ _ _⟩
      simp only [Builtin.clear_, List.getElem?_toArray, List.getElem?_cons_zero, Sem.run_bind, run_und hE w ha, Result.andThen_ok]
      cases a.desc <;> rfl
    · simp only [hl, decide_false, cond_false, Option.bind_eq_some_iff] at h
      obtain ⟨a, ha, h⟩ := h
      have hund := (hE.ty _ _ ha).1
      split at h
      case h_2 => cases h
      rename_i elem hd
      rw [hd] at hund
      simp only [Option.bind_eq_some_iff] at h
      obtain ⟨e, he, z, hz, h⟩ := h
      by_cases hc : (e.size = es ∧ z.length = es) ∧ z.all AV.one = true
      case neg =>
        exfalso
        have : (decide (e.size = es) && decide (z.length = es) && z.all AV.one) = false := by
          cases hza : z.all AV.one with
          | false => simp
          | true => simp only [and_dec, Bool.and_true, decide_eq_false_iff_not]; intro hx; exact hc ⟨hx, hza⟩
        rw [this] at h; cases h
      obtain ⟨⟨hc1, hc2⟩, hc3⟩ := hc
      simp only [hc1, hc2, hc3, decide_true, Bool.and_self, cond_true] at h
      obtain ⟨rfl, _⟩ := q4 (by omega)
      obtain ⟨zv, z1, z2, _⟩ := run_zero hE w he hz μ
      have hzs : zv.cells.size = es := by have := z2.length; simp at this; omega
      have hzz := zeros_VRs z2 len (len * es) (by rw [hc2])
      obtain ⟨w', w1, w2, w3⟩ := write_sound (P := P) R h hzz hm
      refine ⟨w', ?_, w2, w3⟩
      have hzc : Builtin.zeroCells zv.cells len = (Array.range (len * es)).map (zv.cells[· % zv.cells.size]!) := by simp [Builtin.zeroCells, hzs]
      obtain ⟨len', rfl⟩ : ∃ l, len = l + 1 := ⟨len - 1, by omega⟩
      simp only [Builtin.clear_, List.getElem?_toArray, List.getElem?_cons_zero, Sem.run_bind, run_underlying hund, Result.andThen_ok, z1, hzc, w1, Sem.run_pure]
  · cases h
theorem ents_erase {es : List (AV × AV × Nat)} {ms : Array MapEntry} (hent : EntsR μ es ms.toList) (i : Nat) : EntsR μ (es.eraseIdx i) (ms.eraseIdxIfInBounds i).toList := by
  have hl := hent.1
  have e : (ms.eraseIdxIfInBounds i).toList = ms.toList.eraseIdx i := by
    unfold Array.eraseIdxIfInBounds
    split
    · simp
    · rename_i h
      rw [List.eraseIdx_of_length_le (by simp; omega)]
  rw [e]
  refine ⟨by simp only [List.length_eraseIdx, hl], fun j x m h1 h2 => ?_⟩
  rw [List.getElem?_eraseIdx] at h1 h2
  split at h1
  · rename_i hj; rw [if_pos hj] at h2; exact hent.2 _ _ _ h1 h2
  · rename_i hj; rw [if_neg hj] at h2; exact hent.2 _ _ _ h1 h2
include hE R in
theorem delete_sound {t : TypeId} {m k : AV} {A' : AHeap} (h : aDelete E A t m k = some A') {um uk : Value} (hm : VR μ m um) (hk : VR μ k uk) (ts : List TypeId) (ty : TypeId) :
    ∃ w', (Builtin.delete_ (t :: ts).toArray ty #[um, uk]).run P w = .ok (.tuple #[]) w' ∧ Rel A' μ w' ∧ Ext A A' μ μ w w' := by
  simp only [aDelete, Option.bind_eq_some_iff] at h
  obtain ⟨a, ha, h⟩ := h
  have hund := (hE.ty _ _ ha).1
  split at h
  case h_2 => cases h
  rename_i kt vt hd
  rw [hd] at hund
  cases hok : aKeyOK E kt k with
  | false => simp [hok] at h
  | true =>
    simp only [hok, cond_true] at h
    obtain ⟨_, _, _, hck⟩ := key_sound hE (w := w) hok hk
    split at h
    · simp only [Option.some.injEq] at h
      subst h
      simp only [VR] at hm; subst hm
      refine ⟨w, ?_, R, Ext.refl _ _ _⟩
      simp only [Builtin.delete_, List.getElem?_toArray, List.getElem?_cons_zero, List.getElem?_cons_succ, Sem.run_bind, run_underlying hund, Result.andThen_ok, hck, Sem.run_pure]
    · rename_i b
      simp only [Option.bind_eq_some_iff] at h
      obtain ⟨⟨es, clock⟩, h1, r, h2, h3⟩ := h
      simp only [VR] at hm
      obtain ⟨c, sz, hmu, rfl⟩ := hm
      obtain ⟨ms, hw, hent⟩ := map_sound R h1 hmu
      obtain ⟨r', f1, f2, f3⟩ := find_sound hE (w := w) hok hk h2 hent
      cases r with
      | none =>
        rw [f2 rfl] at f1
        simp only [Option.some.injEq] at h3
        subst h3
        obtain ⟨s1, s2, s3⟩ := map_change (P := P) R h1 hmu hw hent (clock' := clock)
        refine ⟨_, ?_, s2, s3⟩
        simp only [Builtin.delete_, List.getElem?_toArray, List.getElem?_cons_zero, List.getElem?_cons_succ, Sem.run_bind, run_underlying hund, Result.andThen_ok, run_getObj_map hw, hck, f1, s1, Sem.run_pure]
      | some p =>
        obtain ⟨i, v0, s0⟩ := p
        obtain ⟨y, k0, mm, rfl, g1, g2, g3, g4, g5⟩ := f3 i v0 s0 rfl
        simp only [Option.some.injEq] at h3
        subst h3
        obtain ⟨s1, s2, s3⟩ := map_change (P := P) R h1 hmu hw (ents_erase hent i) (clock' := clock)
        refine ⟨_, ?_, s2, s3⟩
        simp only [Builtin.delete_, List.getElem?_toArray, List.getElem?_cons_zero, List.getElem?_cons_succ, Sem.run_bind, run_underlying hund, Result.andThen_ok, run_getObj_map hw, hck, f1, s1, Sem.run_pure]
    · cases h

/-- EVERY OPERATION THAT WRITES, calls apart. -/
def Left (μ : Mu) (v : AV) (nx : Next) : Prop := (∃ u, nx = .value u ∧ VR μ v u) ∨ (nx = .skip ∧ v = .undef)
include hE R in
theorem mark_sound {s d : TypeId} {x v : AV} {A' : AHeap} (h : aMark E A s d x = some (v, A')) {u : Value} (h1 : VR μ x u) :
    ∃ y w', (convert s d u).run P w = .ok y w' ∧ VR μ v y ∧ Rel A' μ w' ∧ Ext A A' μ μ w w' := by
  unfold aMark at h
  split at h
  · rename_i b g off len lo ex es
    cases hsd : Nat.beq s d with
    | false => simp [hsd] at h
    | true =>
      have hsd' : s = d := by simpa using hsd
      subst hsd'
      simp only [hsd, cond_true, Option.bind_eq_some_iff] at h
      obtain ⟨a, ha, h⟩ := h
      split at h
      case h_2 => cases h
      rename_i e hd
      simp only [Option.bind_eq_some_iff] at h
      obtain ⟨ae, hae, h⟩ := h
      split at h
      case h_2 => cases h
      rename_i hde
      simp only [Option.bind_eq_some_iff] at h
      obtain ⟨⟨wr, gen, cells⟩, hrow, h⟩ := h
      cases wr with
      | false => simp at h
      | true =>
      simp only [cond_true, Option.some.injEq, Prod.mk.injEq] at h
      obtain ⟨rfl, rfl⟩ := h
      have hx := h1
      simp only [VR] at h1
      obtain ⟨c, sz, cap, off', hm, rfl, _⟩ := h1
      obtain ⟨cs, el, fr, hw, hs, hfr, hg, hl, hc⟩ := Rel.row R hrow hm
      have hget : A.get b = some (.row true gen cells) := by
        unfold aRow at hrow
        split at hrow
        · rename_i hg'; simp only [Option.some.injEq, Prod.mk.injEq] at hrow; obtain ⟨rfl, rfl, rfl⟩ := hrow; exact hg'
        · cases hrow
      have hb := AHeap.get_lt hget
      have hcl : c < w.heap.size := R.bound _ _ _ _ hm
      have e1 := (hE.ty _ _ ha).1
      have e2 := (hE.ty _ _ hae).1
      have hrun : (convert s s (.slice (some ⟨c, off', none⟩) len cap)).run P w = .ok (.slice (some ⟨c, off', none⟩) len cap) (w.freeze ⟨c, cs.size, none⟩ 1) := by
        simp only [convert, Sem.run_bind, run_underlying e1, Result.andThen_ok, hd]
        simp [run_underlying e2, hde, markStringish, shape, freeze, Sem.run, World.shape?, hw]
      have hfz : ∃ fr', (w.freeze ⟨c, cs.size, none⟩ 1).heap[c]? = some (.cells cs el fr') := by
        obtain ⟨f1, f2⟩ := fr
        refine ⟨if f1 == f2 then (cs.size, cs.size + 1) else (min f1 cs.size, max f2 (cs.size + 1)), ?_⟩
        simp only [World.freeze, Nat.one_ne_zero, if_false]
        rw [Array.getElem?_modify]
        simp only [if_true, hw, Option.map_some]
      have hother : ∀ k, k ≠ c → (w.freeze ⟨c, cs.size, none⟩ 1).heap[k]? = w.heap[k]? := fun k hk => by
        simp only [World.freeze, Nat.one_ne_zero, if_false]
        rw [Array.getElem?_modify]
        simp [Ne.symm hk]
      have hsize : (w.freeze ⟨c, cs.size, none⟩ 1).heap.size = w.heap.size := by simp [World.freeze]
      refine ⟨_, _, hrun, hx, Rel.change R hb (MuLe.refl _) (fun _ _ _ => rfl) (by rw [hsize]; exact Nat.le_refl _) (fun b' g' c' sz' hne hm' => hother c' fun e => hne (R.inj _ _ _ _ _ _ _ (e ▸ hm') hm)) (fun g1 c1 sz1 hm1 => ?_),
        Ext.change hb (MuLe.refl _) (fun _ _ _ => rfl) (by rw [hsize]; exact Nat.le_refl _) rfl rfl rfl ?_ (fun g1 c1 sz1 hm1 => .inl ⟨g1, hm1⟩) (fun c0 hc0 hf => hother c0 fun e => ?_)⟩
      · refine ⟨by rw [hsize]; exact R.bound _ _ _ _ hm1, fun b' g' sz' hne h => hne (R.inj _ _ _ _ _ _ _ h hm1), ?_⟩
        obtain ⟨cs1, el1, fr1, hw1, hs1, hfr1, hg1, hl1, hc1⟩ := Rel.row R hrow hm1
        by_cases hcc : c1 = c
        · subst hcc
          obtain ⟨fr', hf'⟩ := hfz
          rw [hw] at hw1
          cases hw1
          exact ⟨_, hf', cs, el, fr', rfl, hs1, (fun h => by cases h), hg1, hl1, hc1⟩
        · exact ⟨_, by rw [hother c1 hcc]; exact hw1, cs1, el1, fr1, rfl, hs1, (fun h => by cases h), hg1, hl1, hc1⟩
      · unfold aWr
        rw [hget]
        intro h0
        cases h0
      · have := hf b g sz (e ▸ hm) hb
        simp [aWr, hget] at this
  · simp only [Option.bind_eq_some_iff, Option.some.injEq, Prod.mk.injEq] at h
    obtain ⟨v', h2, rfl, rfl⟩ := h
    obtain ⟨y, e1, e2⟩ := convert_sound hE (w := w) h2 h1
    exact ⟨y, w, e1, e2, R, Ext.refl _ _ _⟩
include hE R in
theorem eff_sound {o : Oper} {ts : Ts} {v : AV} {A' : AHeap} (h : aEff E ts A o.op = some (.val v A')) {a : Act} (T : TR μ ts a.tmps) (hfr : ∀ b g, A.n ≤ b → b < A'.n → μ b g = none) :
    ∃ nx w' μ', (execOp a.eval o).run P w = .ok nx w' ∧ Left μ' v nx ∧ Rel A' μ' w' ∧ Ext A A' μ μ' w w' := by
  obtain ⟨dst, op, type, pos, after, guard⟩ := o
  simp only at h
  cases op <;> simp only [aEff] at h <;> try (cases h; done)
  case store t x y =>
    simp only [Option.bind_eq_some_iff, outH, Option.some.injEq, AOut.val.injEq] at h
    obtain ⟨p, h1, q, h2, A1, h3, rfl, rfl⟩ := h
    obtain ⟨w', s1, s2, s3⟩ := store_sound hE R h3 (evalO_VR hE T h1) (evalO_VR hE T h2)
    exact ⟨.skip, w', μ, by simp [execOp, s1], .inr ⟨rfl, rfl⟩, s2, s3⟩
  case convert s d x =>
    simp only [Option.bind_eq_some_iff, outVH, Option.some.injEq, AOut.val.injEq] at h
    obtain ⟨p, h1, ⟨v1, A1⟩, h2, rfl, rfl⟩ := h
    obtain ⟨y, w', e1, e2, e3, e4⟩ := mark_sound hE R h2 (evalO_VR hE T h1)
    exact ⟨.value y, w', μ, by simp [execOp, e1], .inl ⟨y, rfl, e2⟩, e3, e4⟩
  case mapUpdate t m k x =>
    simp only [Option.bind_eq_some_iff, outH, Option.some.injEq, AOut.val.injEq] at h
    obtain ⟨p, h1, q, h2, r, h3, A1, h4, rfl, rfl⟩ := h
    obtain ⟨w', s1, s2, s3⟩ := mapUpdate_sound hE R h4 (evalO_VR hE T h1) (evalO_VR hE T h2) (evalO_VR hE T h3)
    exact ⟨.skip, w', μ, by simp [execOp, s1], .inr ⟨rfl, rfl⟩, s2, s3⟩
  case insert t m k x =>
    simp only [Option.bind_eq_some_iff, outH, Option.some.injEq, AOut.val.injEq] at h
    obtain ⟨p, h1, q, h2, r, h3, A1, h4, rfl, rfl⟩ := h
    obtain ⟨w', s1, s2, s3⟩ := mapUpdate_sound hE R h4 (evalO_VR hE T h1) (evalO_VR hE T h2) (evalO_VR hE T h3)
    exact ⟨.skip, w', μ, by simp [execOp, s1], .inr ⟨rfl, rfl⟩, s2, s3⟩
  case mapEntry t m k =>
    simp only [Option.bind_eq_some_iff, outVH, Option.some.injEq, AOut.val.injEq] at h
    obtain ⟨p, h1, q, h2, ⟨v1, A1⟩, h3, rfl, rfl⟩ := h
    obtain ⟨u, w', s1, s2, s3, s4⟩ := mapEntry_sound hE R h3 (evalO_VR hE T h1) (evalO_VR hE T h2)
    exact ⟨.value u, w', μ, by simp [execOp, s1], .inl ⟨u, rfl, s2⟩, s3, s4⟩
  case call c =>
    obtain ⟨callee, args, argTypes⟩ := c
    cases callee <;> simp only at h <;> try (cases h; done)
    case value f =>
      simp only [Option.bind_eq_some_iff] at h
      obtain ⟨f', h1, vs, h2, h3⟩ := h
      unfold aEnter at h3
      split at h3 <;> cases h3
    case builtin b =>
      simp only [Option.bind_eq_some_iff] at h
      obtain ⟨vs, h1, h2⟩ := h
      have r := evalOs_VRs hE T h1
      have ea : args.map a.eval = (args.toList.map a.eval).toArray := by apply Array.ext'; simp
      have et : argTypes = argTypes.toList.toArray := by simp
      generalize args.toList.map a.eval = us at r ea
      generalize argTypes.toList = tl at h2 et
      subst et
      unfold aEffBuiltin at h2
      split at h2
      · rename_i t xt s x
        simp only [Option.bind_eq_some_iff, outVH, Option.some.injEq, AOut.val.injEq] at h2
        obtain ⟨⟨v1, A1⟩, h3, rfl, rfl⟩ := h2
        simp only [VRs] at r
        obtain ⟨su, us', rfl, r1, xu, us'', rfl, r2, rfl⟩ := r
        obtain ⟨u, w', μ', s1, s2, s3, s4⟩ := append_sound hE R h3 hfr r1 r2 type
        exact ⟨.value u, w', μ', by simp only [execOp, resolve, ea, Sem.run_bind, Sem.run_pure, Result.andThen_ok, invoke, builtin, s1], .inl ⟨u, rfl, s2⟩, s3, s4⟩
      · rename_i t tl d x
        simp only [Option.bind_eq_some_iff, outVH, Option.some.injEq, AOut.val.injEq] at h2
        obtain ⟨⟨v1, A1⟩, h3, rfl, rfl⟩ := h2
        simp only [VRs] at r
        obtain ⟨su, us', rfl, r1, xu, us'', rfl, r2, rfl⟩ := r
        obtain ⟨u, w', s1, s2, s3, s4⟩ := copy_sound hE R h3 r1 r2 tl type
        exact ⟨.value u, w', μ, by simp only [execOp, resolve, ea, Sem.run_bind, Sem.run_pure, Result.andThen_ok, invoke, builtin, s1], .inl ⟨u, rfl, s2⟩, s3, s4⟩
      · rename_i t tl x
        simp only [Option.bind_eq_some_iff, outH, Option.some.injEq, AOut.val.injEq] at h2
        obtain ⟨A1, h3, rfl, rfl⟩ := h2
        simp only [VRs] at r
        obtain ⟨su, us', rfl, r1, rfl⟩ := r
        obtain ⟨w', s1, s3, s4⟩ := clear_sound hE R h3 r1 tl type
        exact ⟨.value (.tuple #[]), w', μ, by simp only [execOp, resolve, ea, Sem.run_bind, Sem.run_pure, Result.andThen_ok, invoke, builtin, s1], .inl ⟨_, rfl, by simp only [AV.undef, VR, VRs]; exact ⟨[], rfl, rfl⟩⟩, s3, s4⟩
      · rename_i t tl m k
        simp only [Option.bind_eq_some_iff, outH, Option.some.injEq, AOut.val.injEq] at h2
        obtain ⟨A1, h3, rfl, rfl⟩ := h2
        simp only [VRs] at r
        obtain ⟨su, us', rfl, r1, xu, us'', rfl, r2, rfl⟩ := r
        obtain ⟨w', s1, s3, s4⟩ := delete_sound hE R h3 r1 r2 tl type
        exact ⟨.value (.tuple #[]), w', μ, by simp only [execOp, resolve, ea, Sem.run_bind, Sem.run_pure, Result.andThen_ok, invoke, builtin, s1], .inl ⟨_, rfl, by simp only [AV.undef, VR, VRs]; exact ⟨[], rfl, rfl⟩⟩, s3, s4⟩
      · cases h2
include hE in
theorem enter_sound {o : Oper} {ts : Ts} {f : FuncId} {args : List AV} (h : aEff E ts A o.op = some (.enter f args)) {a : Act} (T : TR μ ts a.tmps) {F : Func} (hF : E.fn f = some F) :
    ∃ us, (execOp a.eval o).run P w = .ok (.enter f us.toArray) w ∧ VRs μ args us := by
  obtain ⟨dst, op, type, pos, after, guard⟩ := o
  simp only at h
  obtain ⟨hf1, hf2, hf3⟩ := hE.fn f F hF
  cases op <;> simp only [aEff] at h <;> try (cases h; done)
  case store t x y => simp only [Option.bind_eq_some_iff, outH, Option.some.injEq] at h; obtain ⟨_, _, _, _, _, _, h⟩ := h; cases h
  case mapUpdate t m k x => simp only [Option.bind_eq_some_iff, outH, Option.some.injEq] at h; obtain ⟨_, _, _, _, _, _, _, _, h⟩ := h; cases h
  case insert t m k x => simp only [Option.bind_eq_some_iff, outH, Option.some.injEq] at h; obtain ⟨_, _, _, _, _, _, _, _, h⟩ := h; cases h
  case mapEntry t m k => simp only [Option.bind_eq_some_iff, outVH, Option.some.injEq] at h; obtain ⟨_, _, _, _, _, _, h⟩ := h; cases h
  case convert s d x => simp only [Option.bind_eq_some_iff, outVH, Option.some.injEq] at h; obtain ⟨_, _, _, _, h⟩ := h; cases h
  case call c =>
    obtain ⟨callee, as, argTypes⟩ := c
    cases callee <;> simp only at h <;> try (cases h; done)
    case builtin b =>
      simp only [Option.bind_eq_some_iff] at h
      obtain ⟨vs, h1, h2⟩ := h
      unfold aEffBuiltin at h2
      split at h2
      all_goals first
        | (cases h2; done)
        | (simp only [Option.bind_eq_some_iff, outVH, outH, Option.some.injEq] at h2; obtain ⟨_, _, h2⟩ := h2; cases h2)
    case value fo =>
      simp only [Option.bind_eq_some_iff] at h
      obtain ⟨fv, h1, vs, h2, h3⟩ := h
      have r1 := evalO_VR hE T h1
      have r2 := evalOs_VRs hE T h2
      unfold aEnter at h3
      split at h3
      case h_2 => cases h3
      rename_i f' first captured
      simp only [Option.some.injEq, AOut.enter.injEq] at h3
      obtain ⟨rfl, rfl⟩ := h3
      simp only [VR] at r1
      obtain ⟨fs, cs, r3, r4, r5⟩ := r1
      refine ⟨fs ++ as.toList.map a.eval ++ cs, ?_, (r3.append r2).append r4⟩
      have ea : as.map a.eval = (as.toList.map a.eval).toArray := by apply Array.ext'; simp
      have hnm : (F.name == "runtime.NumGoroutine") = false := by simpa using hf2
      have hbn : F.body ≠ none := fun hb => by rw [hb] at hf3; cases hf3
      simp [execOp, resolve, Deferred.ofValue, r5, invoke, callFunc, hf1, hf2, hbn, ea]
end
end Go.AE
