/- The abstract evaluator, part 6: the operations that write. -/
import Derived.Test.YteabbkagekdehaaAe5
set_option linter.unusedVariables false
set_option linter.unusedSectionVars false
set_option linter.unusedSimpArgs false
namespace Go.AE
variable [Val]
theorem seg_get {α : Type} (l m : List α) (off i : Nat) (h : off + m.length ≤ l.length) :
    (l.take off ++ m ++ l.drop (off + m.length))[i]? = if i < off then l[i]? else if i < off + m.length then m[i - off]? else l[i]? := by
  have hmin : min off l.length = off := by omega
  by_cases h1 : i < off
  · rw [if_pos h1, List.append_assoc, List.getElem?_append_left (by simp [hmin]; omega), List.getElem?_take, if_pos h1]
  · rw [if_neg h1]
    by_cases h2 : i < off + m.length
    · rw [if_pos h2, List.getElem?_append_left (by simp [hmin]; omega), List.getElem?_append_right (by simp [hmin]; omega)]
      simp [hmin]
    · rw [if_neg h2, List.getElem?_append_right (by simp [hmin]; omega), List.getElem?_drop]
      congr 1
      simp [hmin]; omega
section
variable {P : Program} {E : Env} (hE : EnvOK P E) {A : AHeap} {μ : Mu} {w : World} (R : Rel A μ w)

theorem Rel.drew' (R : Rel A μ w) : Rel A μ w.drew := ⟨R.bound, R.inj, R.blk⟩
theorem get_of_row {b : Nat} {wr : Bool} {gen : Nat} {cells : List (AV × Nat)} (h : aRow A b = some (wr, gen, cells)) : A.get b = some (.row wr gen cells) := by
  unfold aRow at h
  split at h
  · rename_i hg; cases h; exact hg
  · cases h
include R in
/-- new cells in a block that may be written, seen by a new generation at the same place, or by the same one -/
theorem setRow_sound {b gen gen' : Nat} {cells cells' : List (AV × Nat)} (hrow : aRow A b = some (true, gen, cells)) {g c sz : Nat} (hm : μ b g = some (c, sz)) {cs cs' : Array Value} {e : TypeId}
    (hw : w.heap[c]? = some (.cells cs e (0, 0))) (hsz : cs'.size = cs.size) {μ' : Mu} (hle : MuLe μ μ') (hμ : ∀ b' g, b' ≠ b → μ' b' g = μ b' g) (hgen : gen ≤ gen')
    (hμb : ∀ g1 x, μ' b g1 = some x → (μ b g1 = some x ∧ g1 ≤ gen) ∨ (x = (c, sz) ∧ g1 = gen'))
    (hlen : ∀ sz, μ' b gen' = some (c, sz) → cells'.length ≤ cs'.size) (hgg : gen' = gen → g = gen)
    (hnew : ∀ g1, g1 ≤ gen' → ∀ (i : Nat) v s, cells'[i]? = some (v, s) → s ≤ g1 →
      (g1 = gen' ∧ ∃ u, cs'[i]? = some u ∧ VR μ' v u ∧ v.one = true) ∨ (g1 ≤ gen ∧ cells[i]? = some (v, s) ∧ cs'[i]? = cs[i]?)) :
    Rel (A.set b (.row true gen' cells')) μ' (w.setRow c cs') ∧ Ext A (A.set b (.row true gen' cells')) μ μ' w (w.setRow c cs') := by
  have hget := get_of_row hrow
  have hb := AHeap.get_lt hget
  have hsz' : sz = cs.size := by
    obtain ⟨cs1, e1, fr1, h1, h2, _⟩ := Rel.row R hrow hm
    rw [hw] at h1; cases h1; exact h2.symm
  refine ⟨Rel.change R hb hle hμ (by simp) (fun b' g' c' sz' hne hm' => ?_) (fun g1 c1 sz1 hm1 => ?_), Ext.change hb hle hμ (by simp) rfl rfl rfl ?_ (fun g1 c1 sz1 hm1 => ?_) (fun c0 hc0 hf => ?_)⟩
  · exact setRow_other w c c' cs' (fun e => hne (R.inj _ _ _ _ _ _ _ (e ▸ hm') hm))
  · rcases hμb g1 _ hm1 with ⟨hm2, hg1⟩ | ⟨hx, rfl⟩
    · refine ⟨by simp; exact R.bound _ _ _ _ hm2, fun b' g' sz' hne h => hne (R.inj _ _ _ _ _ _ _ h hm2), ?_⟩
      obtain ⟨cs1, e1, fr1, h1, h2, h3, h4, h5, h6⟩ := Rel.row R hrow hm2
      by_cases hc : c1 = c
      · subst hc
        rw [hw] at h1
        cases h1
        refine ⟨_, setRow_heap w c1 cs cs' e (0, 0) hw, cs', e, (0, 0), rfl, by omega, fun _ => rfl, by omega, fun he => hlen sz1 (he ▸ hm1), fun i v s hi hs => ?_⟩
        rcases hnew g1 (by omega) i v s hi hs with ⟨_, q⟩ | ⟨_, q1, q2⟩
        · exact q
        · obtain ⟨u, p1, p2, p3⟩ := h6 i v s q1 hs
          exact ⟨u, by rw [q2]; exact p1, VR.mono hle _ _ p2, p3⟩
      · refine ⟨_, (setRow_other w c c1 cs' hc).trans h1, cs1, e1, fr1, rfl, h2, h3, by omega, fun he => ?_, fun i v s hi hs => ?_⟩
        · have e3 : gen' = gen := by omega
          have e4 := hgg e3
          rw [he, e3, ← e4, hm] at hm2
          cases hm2; exact absurd rfl hc
        · rcases hnew g1 (by omega) i v s hi hs with ⟨e2, q⟩ | ⟨_, q1, q2⟩
          · have e3 : gen' = gen := by omega
            have e4 := hgg e3
            rw [e2, e3, ← e4, hm] at hm2
            cases hm2; exact absurd rfl hc
          · obtain ⟨u, p1, p2, p3⟩ := h6 i v s q1 hs
            exact ⟨u, p1, VR.mono hle _ _ p2, p3⟩
    · cases hx
      refine ⟨by simp; exact R.bound _ _ _ _ hm, fun b' g' sz' hne h => hne (R.inj _ _ _ _ _ _ _ h hm), ?_⟩
      refine ⟨_, setRow_heap w c cs cs' e (0, 0) hw, cs', e, (0, 0), rfl, by omega, fun _ => rfl, Nat.le_refl _, fun _ => hlen sz hm1, fun i v s hi hs => ?_⟩
      rcases hnew g1 (Nat.le_refl _) i v s hi hs with ⟨_, q⟩ | ⟨q0, q1, q2⟩
      · exact q
      · have e3 : g1 = gen := by omega
        have e4 := hgg e3
        rw [e4] at hm
        obtain ⟨cs1, e1, fr1, h1, h2, h3, h4, h5, h6⟩ := Rel.row R hrow hm
        rw [hw] at h1
        cases h1
        obtain ⟨u, p1, p2, p3⟩ := h6 i v s q1 (by omega)
        exact ⟨u, by rw [q2]; exact p1, VR.mono hle _ _ p2, p3⟩
  · unfold aWr
    rw [AHeap.get_set _ _ _ _ hb, if_pos rfl, hget]
    exact id
  · rcases hμb g1 _ hm1 with ⟨hm2, _⟩ | ⟨hx, _⟩
    · exact .inl ⟨g1, hm2⟩
    · rw [hx]; exact .inl ⟨g, hm⟩
  · refine setRow_other w c c0 cs' fun e => ?_
    have := hf b g sz (e ▸ hm) hb
    simp [aWr, hget] at this
include R in
theorem write_sound {b g off : Nat} {vs : List AV} {A' : AHeap} (h : aWrite A b g off vs = some A') {us : List Value} (hv : VRs μ vs us) {c sz : Nat} (hm : μ b g = some (c, sz)) :
    ∃ w', (storeCells ⟨c, off, none⟩ us).run P w = .ok () w' ∧ Rel A' μ w' ∧ Ext A A' μ μ w w' := by
  simp only [aWrite, Option.bind_eq_some_iff, beq_dec] at h
  obtain ⟨⟨wr, gen, cells⟩, hrow, h⟩ := h
  cases hwr : wr with
  | false => simp [hwr] at h
  | true =>
    by_cases hg : g = gen
    case neg => simp [hg] at h
    cases hall : vs.all AV.one with
    | false => simp [hall] at h
    | true =>
      subst hwr; subst hg
      simp only [hall, decide_true, Bool.and_self, cond_true, Option.bind_eq_some_iff, Option.some.injEq, writeCells, ble_dec] at h
      obtain ⟨cs', h1, rfl⟩ := h
      by_cases hl : off + vs.length ≤ cells.length
      case neg => simp [hl] at h1
      simp only [hl, decide_true, cond_true, Option.some.injEq] at h1
      subst h1
      obtain ⟨cur, e, fr, hw, hsz, hfr, hgg, hlen, hcell⟩ := Rel.row R hrow hm
      have := hfr rfl; subst this
      have hlen' := hlen rfl
      have hul := hv.length
      have hst := run_storeCells_at P c off e us 0 cur w hw (by omega) (hv.all_one hall)
      have hml : (vs.map fun v => (v, g)).length = vs.length := by simp
      refine ⟨_, hst, ?_⟩
      refine setRow_sound R hrow hm hw (by simp; omega) (MuLe.refl _) (fun _ _ _ => rfl) (Nat.le_refl _) (fun g1 x hx => ?_) (fun _ _ => ?_) (fun _ => rfl) (fun g1 hg1 i v s hi hs => ?_)
      · obtain ⟨c1, sz1⟩ := x
        obtain ⟨_, _, _, _, _, _, hle, _⟩ := Rel.row R hrow hx
        exact .inl ⟨hx, hle⟩
      · simp; omega
      · have e1 := seg_get cells (vs.map fun v => (v, g)) off i (by simp; omega)
        rw [hml] at e1
        rw [e1] at hi
        have e2 := seg_get cur.toList us off i (by simp; omega)
        simp only [Nat.add_zero, List.getElem?_toArray]
        rw [e2]
        by_cases h1 : i < off
        · rw [if_pos h1] at hi
          exact .inr ⟨hg1, hi, by simp [h1]⟩
        · rw [if_neg h1] at hi
          by_cases h2 : i < off + vs.length
          · rw [if_pos h2] at hi
            simp only [List.getElem?_map, Option.map_eq_some_iff, Prod.mk.injEq] at hi
            obtain ⟨v', q1, rfl, rfl⟩ := hi
            obtain ⟨u, q2, q3⟩ := hv.get q1
            exact .inl ⟨by omega, u, by rw [if_neg h1, if_pos (by omega)]; exact q2, q3, List.all_eq_true.1 hall _ (List.mem_of_getElem? q1)⟩
          · rw [if_neg h2] at hi
            exact .inr ⟨hg1, hi, by rw [if_neg h1, if_neg (by omega)]; simp⟩

include hE R in
theorem store_sound {t : TypeId} {p v : AV} {A' : AHeap} (h : aStore E A t p v = some A') {up uv : Value} (hp : VR μ p up) (hv : VR μ v uv) :
    ∃ w', (Instr.storeAt t up uv).run P w = .ok () w' ∧ Rel A' μ w' ∧ Ext A A' μ μ w w' := by
  unfold aStore at h
  split at h
  · rename_i b g off
    simp only [VR] at hp
    obtain ⟨c, sz, hm, rfl⟩ := hp
    simp only [Option.bind_eq_some_iff, beq_dec] at h
    obtain ⟨a, ha, h⟩ := h
    by_cases hs : v.cells.length = a.size
    · simp only [hs, decide_true, cond_true] at h
      obtain ⟨w', h1, h2, h3⟩ := write_sound (P := P) R h hv.cells hm
      refine ⟨w', ?_, h2, h3⟩
      have : uv.cells.size = a.size := by rw [← hs, ← hv.cells.length]; simp
      simp [Instr.storeAt, Instr.sureAddr, storeVar, run_szo hE w ha, this, h1]
    · simp [hs] at h
  · cases h

/-! ### append -/
def appTail (elem : TypeId) (base : Option Addr) (sLen sCap size : Nat) (zeros : Bool) (n : Nat) (x : Value) (appended : Sem (Array Value)) : Sem Value := do
  let need := sLen + n
  if need ≤ sCap then
    let new ← appended
    if let some a := base then storeCells (a.add (sLen * size)) new.toList
    pure (.slice base need sCap)
  else
    if (need : Int) > IntKind.i64.max ∧ (zeros ∨ (← typeInfo elem).bytes = 0) then runtimePanic (.error "growslice: len out of range")
    if Builtin.nextslicecap need sCap * (← typeInfo elem).bytes > 2 ^ 48 then (if zeros then runtimePanic (.error "growslice: len out of range") else do
      if !(← Builtin.mayShare size sLen n base x) then mark .noRoom
      unsupported (.resourceLimit "append: a slice or a string whose bytes no memory bears"))
    let newCap ← choose (.appendCap need sCap elem)
    askRoom (newCap * (← typeInfo elem).bytes)
    let old ← Builtin.firstCells size sLen (.slice base sLen sCap)
    let new ← appended
    let rest := Builtin.zeroCells (← zeroValue elem).cells (newCap - need)
    pure (.slice (some (← newRow elem (old ++ new ++ rest))) need newCap)
theorem append_plain {t xt elem : TypeId} {dx : TypeDesc} {size n sLen sCap : Nat} {base : Option Addr} {x : Value} {ty : TypeId} (ht : P.underlying t = some (.slice elem)) (hx : P.underlying xt = some dx) (hd : ∀ k, dx ≠ .int k)
    (hs : (sizeOf elem).run P w = .ok size w) (hn : (Builtin.lenOf x).run P w = .ok n w) :
    (Builtin.append_ #[t, xt] ty #[.slice base sLen sCap, x]).run P w = (appTail elem base sLen sCap size false n x (Builtin.firstCells size n x)).run P w := by
  have hz : (match dx with | .int _ => true | _ => false) = false := by cases dx <;> first | rfl | exact absurd rfl (hd _)
  unfold Builtin.append_ appTail
  simp only [List.getElem?_toArray, List.getElem?_cons_zero, List.getElem?_cons_succ, Sem.run_bind, run_underlying ht, run_underlying hx, Result.andThen_ok, hs, Sem.run_pure]
  cases dx <;> first
    | exact absurd rfl (hd _)
    | (simp only [Bool.false_eq_true, if_false, Bool.not_false, if_true]; rw [Sem.run_bind, hn]; rfl)
theorem append_zeros {t xt elem : TypeId} {k : IntKind} {size sLen sCap : Nat} {m : Int} {base : Option Addr} {ty : TypeId} {i : TypeInfo} (ht : P.underlying t = some (.slice elem)) (hx : P.underlying xt = some (.int k))
    (hs : (sizeOf elem).run P w = .ok size w) (hi : (typeInfo elem).run P w = .ok i w) (h0 : 0 ≤ m) (h63 : m ≤ 9223372036854775807) (hb : ¬ (m * i.bytes > 2 ^ 48)) :
    (Builtin.append_ #[t, xt] ty #[.slice base sLen sCap, .int .i64 m]).run P w = (appTail elem base sLen sCap size true m.toNat (.int .i64 m) (if m.toNat * size = 0 then pure #[] else do pure (Builtin.zeroCells (← zeroValue elem).cells m.toNat))).run P w := by
  have wl : IntKind.i64.wrap m = m := by unfold IntKind.wrap; simp [IntKind.bits, IntKind.signed]; omega
  have g2 : ¬ m < 0 := by omega
  unfold Builtin.append_ appTail
  simp only [List.getElem?_toArray, List.getElem?_cons_zero, List.getElem?_cons_succ, Sem.run_bind, run_underlying ht, run_underlying hx, Result.andThen_ok, hs, Sem.run_pure, if_true, asInt, asIntOf, wl, g2, if_false, hi, hb]
  simp only [Bool.not_true, Bool.false_eq_true, if_false]
  rfl
include hE in
theorem grow_run {elem : TypeId} {e : ATy} (he : E.ty elem = some e) {zs : List AV} (hz : e.zero = some zs) (hzl : zs.length = e.size) {base : Option Addr} {sLen sCap m : Nat} {zeros : Bool} {x : Value} {appended : Sem (Array Value)} {us olds : List Value}
    (happ : ∀ w' : World, w'.heap = w.heap → appended.run P w' = .ok us.toArray w') (hold : ∀ w' : World, w'.heap = w.heap → (Builtin.firstCells e.size sLen (.slice base sLen sCap)).run P w' = .ok olds.toArray w')
    (hgt : sCap < sLen + m) (h63 : sLen + m ≤ 9223372036854775807) (hby : (sLen + m) * e.bytes ≤ 140737488355328) :
    ∃ cap zc, sLen + m ≤ cap ∧ cap ≤ 9223372036854775807 ∧ zc.length = (cap - (sLen + m)) * e.size ∧
      (appTail elem base sLen sCap e.size zeros m x appended).run P w = .ok (.slice (some ⟨w.heap.size, 0, none⟩) (sLen + m) cap) (w.drew.alloc (.cells (olds ++ us ++ zc).toArray elem)) := by
  obtain ⟨i, ri, hb, hs, hinfo⟩ := run_info hE w he
  obtain ⟨zv, z1, z2, _⟩ := run_zero hE w.drew he hz (fun _ _ => none)
  have ri' : ∀ w', (typeInfo elem).run P w' = .ok i w' := fun w' => by simp [typeInfo, hinfo]
  have hzs : zv.cells.size = e.size := by have := z2.length; simp at this; omega
  have h1 : ¬ (sLen + m ≤ sCap) := by omega
  have h2 : ¬ (((sLen + m : Nat) : Int) > IntKind.i64.max) := by simp [IntKind.max, IntKind.bits, IntKind.signed]; omega
  have h3 : ¬ (Builtin.nextslicecap (sLen + m) sCap * i.bytes > 2 ^ 48) := by
    have := growslice_fits (bytes := e.bytes) hgt hby
    rw [hb]; omega
  refine ⟨grownCap w (sLen + m) sCap elem, (Builtin.zeroCells zv.cells (grownCap w (sLen + m) sCap elem - (sLen + m))).toList, grownCap_ge _ _ _ _, ?_, ?_, ?_⟩
  · have := grownCap_le_maxLen w (sLen + m) sCap elem (by simp only [maxLen]; omega)
    simpa only [maxLen] using this
  · have : ∀ (z : Array Value) n, (Builtin.zeroCells z n).size = n * z.size := fun z n => by simp [Builtin.zeroCells]
    simp [this, hzs]
  · have e1 : (Builtin.zeroCells zv.cells (grownCap w (sLen + m) sCap elem - (sLen + m))) = (Builtin.zeroCells zv.cells (grownCap w (sLen + m) sCap elem - (sLen + m))).toList.toArray := by simp
    have hch : ∀ (q : Question), q.forced = false → (choose q).run P w = .ok (q.cut (w.tape w.drawn q)) w.drew := fun q hq => by simp [run_choose, hq]
    unfold appTail
    simp only [if_neg h1, Sem.run_bind, ri', Result.andThen_ok]
    have h2' : ¬ (((sLen + m : Nat) : Int) > IntKind.i64.max ∧ (zeros = true ∨ i.bytes = 0)) := fun h => h2 h.1
    rw [if_neg h2']
    simp only [Sem.run_bind, ri', Result.andThen_ok, if_neg h3]
    rw [hch _ rfl]
    simp only [Result.andThen_ok, ri', run_askRoom, hold w.drew rfl, happ w.drew rfl, z1, newRow, Sem.run_bind, run_newObj, Sem.run_pure]
    simp [grownCap, World.alloc, List.append_assoc]
    congr 2
    apply Array.ext'
    simp
theorem pushed_sl {A : AHeap} {μ : Mu} {w : World} (R : Rel A μ w) (hn : ∀ g, μ A.n g = none) {vs : List AV} {us zc : List Value} {elem : TypeId} (hv : VRs μ vs us) (hall : vs.all AV.one = true) :
    Rel (A.push (.row true 0 (stamp0 vs))) (upd μ A.n 0 (w.heap.size, us.length + zc.length)) (w.drew.alloc (.cells (us ++ zc).toArray elem)) ∧ Ext A (A.push (.row true 0 (stamp0 vs))) μ (upd μ A.n 0 (w.heap.size, us.length + zc.length)) w (w.drew.alloc (.cells (us ++ zc).toArray elem)) := by
  have hB : BlkR μ (.row true 0 (stamp0 vs)) 0 (objSize (.cells (us ++ zc).toArray elem)) (.cells (us ++ zc).toArray elem) := by
    refine ⟨_, elem, (0, 0), rfl, rfl, fun _ => rfl, Nat.le_refl _, fun _ => by have := hv.length; simp [stamp0] at this ⊢; omega, fun i v s hi _ => ?_⟩
    simp only [stamp0, List.getElem?_map, Option.map_eq_some_iff, Prod.mk.injEq] at hi
    obtain ⟨v', h1, rfl, _⟩ := hi
    obtain ⟨u, h2, h3⟩ := hv.get h1
    refine ⟨u, ?_, h3, List.all_eq_true.1 hall _ (List.mem_of_getElem? h1)⟩
    have := (List.getElem?_eq_some_iff.1 h2).1
    simp [List.getElem?_append_left this, h2]
  have h1 := Rel.push (Rel.drew' R) hn hB
  have h2 : Ext A (A.push (.row true 0 (stamp0 vs))) μ _ w.drew (w.drew.alloc (.cells (us ++ zc).toArray elem)) := Ext.push (o := .cells (us ++ zc).toArray elem) (B := .row true 0 (stamp0 vs)) hn
  have e : objSize (.cells (us ++ zc).toArray elem) = us.length + zc.length := by simp [objSize]
  rw [e] at h1 h2
  exact ⟨h1, (Ext.drew A μ w).trans h2⟩
include hE R in
theorem appTail_sound {elem : TypeId} {e : ATy} (he : E.ty elem = some e) {zs : List AV} (hz : e.zero = some zs) (hzl : zs.length = e.size) (hpos : 0 < e.size) {s v : AV} {A' : AHeap} {m : Nat} {news : List AV} (h : aAppendTo A e.bytes e.size s m news = some (v, A'))
    (hfr : ∀ b g, A.n ≤ b → b < A'.n → μ b g = none) {len : Nat} (hlen : aLenOf s = some len)
    (hby : (len + m) * e.bytes ≤ 140737488355328) (h63 : len + m ≤ 9223372036854775807) (hall : news.all AV.one = true) {us : List Value} (hv : VRs μ news us) (hul : us.length = m * e.size)
    {zeros : Bool} {x : Value} {appended : Sem (Array Value)} (happ : ∀ w' : World, w'.heap = w.heap → appended.run P w' = .ok us.toArray w') {su : Value} (hs : VR μ s su) :
    ∃ base sCap, su = .slice base len sCap ∧ ∃ u w' μ', (appTail elem base len sCap e.size zeros m x appended).run P w = .ok u w' ∧ VR μ' v u ∧ Rel A' μ' w' ∧ Ext A A' μ μ' w w' := by
  unfold aAppendTo at h
  split at h
  · -- nil
    simp only [VR] at hs
    subst hs
    simp only [aLenOf, Option.some.injEq] at hlen
    subst hlen
    refine ⟨none, 0, rfl, ?_⟩
    simp only [beq_dec] at h
    by_cases hm : m = 0
    · subst hm
      simp only [decide_true, cond_true, Option.some.injEq, Prod.mk.injEq] at h
      obtain ⟨rfl, rfl⟩ := h
      refine ⟨.slice none 0 0, w, μ, ?_, by simp only [VR], R, Ext.refl _ _ _⟩
      simp [appTail, happ w rfl]
    · simp only [hm, decide_false, cond_false, Option.some.injEq, Prod.mk.injEq] at h
      obtain ⟨rfl, rfl⟩ := h
      have hn : ∀ g, μ A.n g = none := fun g => hfr _ g (Nat.le_refl _) (by simp)
      obtain ⟨cap, zc, c1, c2, c3, c4⟩ := grow_run hE (w := w) he hz hzl (base := none) (sLen := 0) (sCap := 0) (m := m) (zeros := zeros) (x := x) (appended := appended) (us := us) (olds := []) happ
        (fun w' _ => run_firstCells_none w' _ _ _ _) (by omega) h63 hby
      obtain ⟨p1, p2⟩ := pushed_sl (zc := zc) (elem := elem) R hn hv hall
      simp only [List.nil_append] at c4
      refine ⟨_, _, _, c4, ?_, p1, p2⟩
      simp only [VR]
      refine ⟨w.heap.size, us.length + zc.length, cap, 0, upd_same _ _ _ _, by simp, Nat.le_refl _, by omega, (fun hx => by cases hx), fun _ => ⟨rfl, fun _ => ?_⟩, by simp only [maxLen]; omega⟩
      rw [hul, c3, ← Nat.add_mul]
      simp
      exact Nat.mul_le_mul_right _ (by omega)
  · -- a slice
    rename_i b g off len' lo ex es'
    simp only [aLenOf, Option.some.injEq] at hlen
    subst hlen
    simp only [VR] at hs
    obtain ⟨c, sz, cap, off', hm, rfl, q1, q2, q3, q4, q5⟩ := hs
    refine ⟨some ⟨c, off', none⟩, cap, rfl, ?_⟩
    simp only [beq_dec, ble_dec] at h
    by_cases hes : e.size = es'
    case neg => simp [hes] at h
    subst hes
    simp only [decide_true, cond_true] at h
    by_cases hlo : len' + m ≤ lo
    · simp only [hlo, decide_true, cond_true, Option.bind_eq_some_iff] at h
      obtain ⟨A1, h1, h2⟩ := h
      cases h2
      by_cases hm0 : m = 0
      · subst hm0
        simp only [decide_true, cond_true, Option.some.injEq] at h1
        subst h1
        have : us = [] := List.eq_nil_of_length_eq_zero (by simpa using hul)
        subst this
        refine ⟨.slice (some ⟨c, off', none⟩) len' cap, w, μ, ?_, ?_, R, Ext.refl _ _ _⟩
        · have : len' + 0 ≤ cap := by omega
          simp only [appTail, if_pos this, Sem.run_bind, happ w rfl, Result.andThen_ok, storeCells, Sem.run_pure]
          rfl
        · simp only [VR]
          exact ⟨c, sz, cap, off', hm, rfl, by omega, q2, q3, q4, q5⟩
      · simp only [hm0, decide_false, cond_false] at h1
        obtain ⟨rfl, q4'⟩ := q4 (by omega)
        obtain ⟨w', s1, s2, s3⟩ := write_sound (P := P) R h1 hv hm
        refine ⟨.slice (some ⟨c, off', none⟩) (len' + m) cap, w', μ, ?_, ?_, s2, s3⟩
        · have : len' + m ≤ cap := by omega
          simp only [appTail, if_pos this, Sem.run_bind, happ w rfl, Result.andThen_ok, Addr.add_lit, s1, Sem.run_pure]
        · simp only [VR]
          exact ⟨c, sz, cap, off', hm, rfl, by omega, q2, q3, fun _ => ⟨rfl, q4'⟩, q5⟩
    · simp only [hlo, decide_false, cond_false] at h
      cases hex : ex with
      | true =>
        simp only [hex, cond_true, Option.bind_eq_some_iff, Option.some.injEq, Prod.mk.injEq] at h
        obtain ⟨olds, h1, rfl, rfl⟩ := h
        have hcap := q3 hex
        have hn : ∀ g, μ A.n g = none := fun g => hfr _ g (Nat.le_refl _) (by simp)
        obtain ⟨ous, o1, o2, o3, o4⟩ := aRead_sound R h1 hm
        have hfc : ∀ w' : World, w'.heap = w.heap → (Builtin.firstCells e.size len' (.slice (some ⟨c, off', none⟩) len' cap)).run P w' = .ok ous.toArray w' := by
          intro w' hw'
          by_cases hc0 : cap = 0
          · have hl0 : len' = 0 := by omega
            subst hl0
            have : ous = [] := List.eq_nil_of_length_eq_zero (by simpa using o2)
            subst this
            simp [Builtin.firstCells, loadCells, loadCellsFrom]
          · obtain ⟨rfl, _⟩ := q4 hc0
            exact run_firstCells_some w' _ _ _ _ _ ous o2 (fun j u hj => by have := o4 j u hj; simpa [World.cell?, hw'] using this)
        obtain ⟨ncap, zc, c1, c2, c3, c4⟩ := grow_run hE (w := w) he hz hzl (base := some ⟨c, off', none⟩) (sLen := len') (sCap := cap) (m := m) (zeros := zeros) (x := x) (appended := appended) (us := us) (olds := ous) happ hfc (by omega) h63 hby
        obtain ⟨p1, p2⟩ := pushed_sl (zc := zc) (elem := elem) R hn (o1.append hv) (by rw [List.all_append, o3, hall]; rfl)
        refine ⟨_, _, _, c4, ?_, p1, p2⟩
        simp only [VR]
        refine ⟨w.heap.size, (ous ++ us).length + zc.length, ncap, 0, upd_same _ _ _ _, rfl, Nat.le_refl _, c1, (fun hx => by cases hx), fun _ => ⟨rfl, fun _ => ?_⟩, by simp only [maxLen]; omega⟩
        rw [List.length_append, o2, hul, c3, ← Nat.add_mul, ← Nat.add_mul]
        simp
        exact Nat.mul_le_mul_right _ (by omega)
      | false =>
        subst hex
        simp only [cond_false, Option.bind_eq_some_iff] at h
        obtain ⟨⟨wr, gen, cells⟩, hrow, h⟩ := h
        cases hwr : wr with
        | false => simp [hwr] at h
        | true =>
          subst hwr
          by_cases hoff : off = 0
          case neg => simp [hoff] at h
          subst hoff
          simp only [decide_true, Bool.and_self, cond_true, Option.bind_eq_some_iff, Option.some.injEq, Prod.mk.injEq] at h
          obtain ⟨olds, h1, rfl, rfl⟩ := h
          obtain ⟨ous, o1, o2, o3, o4⟩ := aRead_sound R h1 hm
          have hget := get_of_row hrow
          have hb := AHeap.get_lt hget
          obtain ⟨cur, e0, fr, hw, hsz, hfr0, hgg, hlen0, hcell⟩ := Rel.row R hrow hm
          have := hfr0 rfl; subst this
          have hnone : μ b (gen + 1) = none := by
            cases hx : μ b (gen + 1) with
            | none => rfl
            | some x => obtain ⟨c1, sz1⟩ := x; obtain ⟨_, _, _, _, _, _, hle, _⟩ := Rel.row R hrow hx; omega
          -- what is read of the old cells
          have hrd : ∃ rs, readFrom g (len' * e.size) cells = some rs ∧ rs = olds := by
            simp only [aRead, hrow, Option.bind_some, ble_dec, hgg, decide_true, cond_true, readCells, List.drop_zero] at h1
            exact ⟨olds, h1, rfl⟩
          obtain ⟨rs, hrs, rfl⟩ := hrd
          obtain ⟨rl, rk⟩ := readFrom_get hrs
          have hcl : len' * e.size ≤ cells.length := by
            rcases Nat.eq_zero_or_pos (len' * e.size) with h0 | h0
            · omega
            · have hi : len' * e.size - 1 < rs.length := by omega
              obtain ⟨s0, hs0, _⟩ := rk _ _ (List.getElem?_eq_getElem hi)
              have := (List.getElem?_eq_some_iff.1 hs0).1
              omega
          have hidx : ∀ (i : Nat) v s, (cells.take (len' * e.size) ++ news.map fun v => (v, gen + 1))[i]? = some (v, s) → (i < len' * e.size ∧ cells[i]? = some (v, s) ∧ s ≤ g) ∨ (len' * e.size ≤ i ∧ news[i - len' * e.size]? = some v ∧ s = gen + 1) := by
            intro i v s hi
            have hmin : min (len' * e.size) cells.length = len' * e.size := by omega
            by_cases h1 : i < len' * e.size
            · rw [List.getElem?_append_left (by simp [hmin]; exact h1), List.getElem?_take, if_pos h1] at hi
              obtain ⟨s0, hs0, hs1⟩ := rk i rs[i] (List.getElem?_eq_getElem (by omega))
              rw [hi] at hs0; cases hs0
              exact .inl ⟨h1, hi, hs1⟩
            · rw [List.getElem?_append_right (by simp [hmin]; omega)] at hi
              simp only [List.length_take, hmin, List.getElem?_map, Option.map_eq_some_iff, Prod.mk.injEq] at hi
              obtain ⟨v', q, rfl, rfl⟩ := hi
              exact .inr ⟨by omega, q, rfl⟩
          by_cases hroom : len' + m ≤ cap
          · -- in place
            have hm0 : m ≠ 0 := by omega
            obtain ⟨rfl, q4'⟩ := q4 (by omega)
            have hfit : (len' + m) * e.size ≤ cur.size := by
              have := q4' rfl
              have h2 : (len' + m) * e.size ≤ cap * e.size := Nat.mul_le_mul_right _ hroom
              omega
            rw [Nat.add_mul] at hfit
            have hst := run_storeCells_at P c (0 + len' * e.size) e0 us 0 cur w hw (by omega) (hv.all_one hall)
            refine ⟨.slice (some ⟨c, 0, none⟩) (len' + m) cap, w.setRow c (cur.toList.take (0 + len' * e.size + 0) ++ us ++ cur.toList.drop (0 + len' * e.size + 0 + us.length)).toArray, upd μ b (gen + 1) (c, sz), ?_, ?_, ?_⟩
            · simp only [appTail, if_pos hroom, Sem.run_bind, happ w rfl, Result.andThen_ok, Addr.add_lit]
              rw [hst]
              rfl
            · simp only [VR]
              exact ⟨c, sz, cap, 0, upd_same _ _ _ _, rfl, Nat.le_refl _, hroom, (fun hx => by cases hx), fun _ => ⟨rfl, fun _ => q4' rfl⟩, q5⟩
            · refine setRow_sound R hrow hm hw (by simp; omega) (MuLe.upd hnone) (fun b' g' hne => upd_other _ _ (fun h => hne h.1)) (by omega) (fun g1 x hx => ?_) (fun _ _ => ?_) (fun h => by omega) (fun g1 hg1 i v s hi hs => ?_)
              · by_cases hg1 : g1 = gen + 1
                · subst hg1; rw [upd_same] at hx; cases hx; exact .inr ⟨rfl, rfl⟩
                · rw [upd_other _ _ (fun h => hg1 h.2)] at hx
                  obtain ⟨c1, sz1⟩ := x
                  obtain ⟨_, _, _, _, _, _, hle, _⟩ := Rel.row R hrow hx
                  exact .inl ⟨hx, hle⟩
              · have := hv.length; simp; omega
              · have e2 := seg_get cur.toList us (len' * e.size) i (by simp; omega)
                have hnu := hv.length
                simp only [Nat.zero_add, Nat.add_zero, List.getElem?_toArray]
                rw [e2]
                rcases hidx i v s hi with ⟨a1, a2, a3⟩ | ⟨a1, a2, a3⟩
                · by_cases hgl : g1 ≤ gen
                  · exact .inr ⟨hgl, a2, by simp [a1]⟩
                  · obtain ⟨u, b1, b2, b3⟩ := hcell i v s a2 a3
                    exact .inl ⟨by omega, u, by simp [a1]; simpa using b1, VR.mono (MuLe.upd hnone) _ _ b2, b3⟩
                · obtain ⟨u, b1, b2⟩ := hv.get a2
                  have := (List.getElem?_eq_some_iff.1 b1).1
                  exact .inl ⟨by omega, u, by rw [if_neg (by omega), if_pos (by omega)]; exact b1, VR.mono (MuLe.upd hnone) _ _ b2, List.all_eq_true.1 hall _ (List.mem_of_getElem? a2)⟩
          · -- a new row
            have hfc : ∀ w' : World, w'.heap = w.heap → (Builtin.firstCells e.size len' (.slice (some ⟨c, off', none⟩) len' cap)).run P w' = .ok ous.toArray w' := by
              intro w' hw'
              by_cases hc0 : cap = 0
              · have hl0 : len' = 0 := by omega
                subst hl0
                have : ous = [] := List.eq_nil_of_length_eq_zero (by simpa using o2)
                subst this
                simp [Builtin.firstCells, loadCells, loadCellsFrom]
              · obtain ⟨rfl, _⟩ := q4 hc0
                exact run_firstCells_some w' _ _ _ _ _ ous o2 (fun j u hj => by have := o4 j u hj; simpa [World.cell?, hw'] using this)
            obtain ⟨ncap, zc, c1, c2, c3, c4⟩ := grow_run hE (w := w) he hz hzl (base := some ⟨c, off', none⟩) (sLen := len') (sCap := cap) (m := m) (zeros := zeros) (x := x) (appended := appended) (us := us) (olds := ous) happ hfc (by omega) h63 hby
            have hsize : (ous ++ us ++ zc).length = ncap * e.size := by
              rw [List.length_append, List.length_append, o2, hul, c3, ← Nat.add_mul, ← Nat.add_mul]; congr 1; omega
            have hheap : (w.drew.alloc (.cells (ous ++ us ++ zc).toArray elem)).heap[w.heap.size]? = some (.cells (ous ++ us ++ zc).toArray elem) := heap_alloc_new w.drew _
            have hold : ∀ c0, c0 < w.heap.size → (w.drew.alloc (.cells (ous ++ us ++ zc).toArray elem)).heap[c0]? = w.heap[c0]? := fun c0 h0 => heap_alloc_old w.drew _ c0 h0
            have hle : MuLe μ (upd μ b (gen + 1) (w.heap.size, ncap * e.size)) := MuLe.upd hnone
            refine ⟨_, _, upd μ b (gen + 1) (w.heap.size, ncap * e.size), c4, ?_, ?_, ?_⟩
            · simp only [VR]
              exact ⟨w.heap.size, ncap * e.size, ncap, 0, upd_same _ _ _ _, rfl, Nat.le_refl _, c1, (fun hx => by cases hx), fun _ => ⟨rfl, fun _ => by omega⟩, by simp only [maxLen]; omega⟩
            · refine Rel.change R hb hle (fun b' g' hne => upd_other _ _ (fun h => hne h.1)) (by simp) (fun b' g' c' sz' hne hm' => hold c' (R.bound _ _ _ _ hm')) (fun g1 c1' sz1 hm1 => ?_)
              by_cases hg1 : g1 = gen + 1
              · subst hg1
                rw [upd_same] at hm1
                cases hm1
                refine ⟨by simp, fun b' g' sz' hne h => by have := R.bound _ _ _ _ h; omega, _, hheap, _, elem, (0, 0), rfl, by simpa using hsize, fun _ => rfl, Nat.le_refl _, fun _ => ?_, fun i v s hi hs => ?_⟩
                · have := hv.length; simp; omega
                · rcases hidx i v s hi with ⟨a1, a2, a3⟩ | ⟨a1, a2, a3⟩
                  · have hrsi : rs[i]? = some v := by
                      obtain ⟨s0, hs0, _⟩ := rk i rs[i] (List.getElem?_eq_getElem (by omega))
                      rw [a2] at hs0; cases hs0
                      exact List.getElem?_eq_getElem (by omega)
                    obtain ⟨u, b1, b2⟩ := o1.get hrsi
                    have := (List.getElem?_eq_some_iff.1 b1).1
                    exact ⟨u, by simp [List.getElem?_append_left this, b1], VR.mono hle _ _ b2, List.all_eq_true.1 o3 _ (List.mem_of_getElem? hrsi)⟩
                  · obtain ⟨u, b1, b2⟩ := hv.get a2
                    have h7 := (List.getElem?_eq_some_iff.1 b1).1
                    refine ⟨u, ?_, VR.mono hle _ _ b2, List.all_eq_true.1 hall _ (List.mem_of_getElem? a2)⟩
                    simp only [List.append_assoc, List.getElem?_toArray]
                    rw [List.getElem?_append_right (by omega), o2, List.getElem?_append_left h7]
                    exact b1
              · rw [upd_other _ _ (fun h => hg1 h.2)] at hm1
                have hc1 := R.bound _ _ _ _ hm1
                obtain ⟨cs1, e1, fr1, k1, k2, k3, k4, k5, k6⟩ := Rel.row R hrow hm1
                refine ⟨by simp; omega, fun b' g' sz' hne h => hne (R.inj _ _ _ _ _ _ _ h hm1), _, (hold c1' hc1).trans k1, cs1, e1, fr1, rfl, k2, k3, by omega, fun h => by omega, fun i v s hi hs => ?_⟩
                rcases hidx i v s hi with ⟨a1, a2, a3⟩ | ⟨a1, a2, a3⟩
                · obtain ⟨u, b1, b2, b3⟩ := k6 i v s a2 hs
                  exact ⟨u, b1, VR.mono hle _ _ b2, b3⟩
                · omega
            · refine Ext.change hb hle (fun b' g' hne => upd_other _ _ (fun h => hne h.1)) (by simp) rfl rfl rfl ?_ (fun g1 c1' sz1 hm1 => ?_) (fun c0 hc0 _ => hold c0 hc0)
              · unfold aWr; rw [AHeap.get_set _ _ _ _ hb, if_pos rfl, hget]; exact id
              · by_cases hg1 : g1 = gen + 1
                · subst hg1; rw [upd_same] at hm1; cases hm1; exact .inr (Nat.le_refl _)
                · rw [upd_other _ _ (fun h => hg1 h.2)] at hm1; exact .inl ⟨g1, hm1⟩
  · cases h
end
end Go.AE
