/- The abstract evaluator, part 6: the operations that write. -/
import Derived.Test.YthhhpaeheccelaaGreatAeA
import Derived.Tactics
section
set_option linter.unusedVariables false
set_option linter.unusedSectionVars false
set_option linter.unusedSimpArgs false
namespace Go.AE
variable [Val]
theorem seg_get {α : Type} (l m : List α) (off i : Nat) (h : off + m.length ≤ l.length) :
    (l.take off ++ m ++ l.drop (off + m.length))[i]? = if i < off then l[i]? else if i < off + m.length then m[i - off]? else l[i]? := by
  have hmin : min off l.length = off := by omega
  by_cases h1 : i < off
  · rw [if_pos h1, List.append_assoc, List.getElem?_append_left (by simp [hmin]; omega), List.getElem?_take, if_pos h1]
  · rw [if_neg h1]
    by_cases h2 : i < off + m.length
    · rw [if_pos h2, List.getElem?_append_left (by simp [hmin]; omega), List.getElem?_append_right (by simp [hmin]; omega)]
      simp [hmin]
    · rw [if_neg h2, List.getElem?_append_right (by simp [hmin]; omega), List.getElem?_drop]
      congr 1
      simp [hmin]; omega
section
variable {P : Program} {E : Env} (hE : EnvOK P E) {A : AHeap} {μ : Mu} {w : World} (R : Rel A μ w)

theorem Rel.drew' (R : Rel A μ w) : Rel A μ w.drew := ⟨R.bound, R.inj, R.blk⟩
theorem get_of_row {b : Nat} {wr : Bool} {gen : Nat} {cells : List (AV × Nat)} (h : aRow A b = some (wr, gen, cells)) : A.get b = some (.row wr gen cells) := by
  unfold aRow at h
  split at h
  · rename_i hg; cases h; exact hg
  · cases h
include R in
/-- new cells in a block that may be written, seen by a new generation at the same place, or by the same one -/
theorem setRow_sound {b gen gen' : Nat} {cells cells' : List (AV × Nat)} (hrow : aRow A b = some (true, gen, cells)) {g c sz : Nat} (hm : μ b g = some (c, sz)) {cs cs' : Array Value} {e : TypeId}
    (hw : w.heap[c]? = some (.cells cs e (0, 0))) (hsz : cs'.size = cs.size) {μ' : Mu} (hle : MuLe μ μ') (hμ : ∀ b' g, b' ≠ b → μ' b' g = μ b' g) (hgen : gen ≤ gen')
    (hμb : ∀ g1 x, μ' b g1 = some x → (μ b g1 = some x ∧ g1 ≤ gen) ∨ (x = (c, sz) ∧ g1 = gen'))
    (hlen : ∀ sz, μ' b gen' = some (c, sz) → cells'.length ≤ cs'.size) (hgg : gen' = gen → g = gen)
    (hnew : ∀ g1, g1 ≤ gen' → ∀ (i : Nat) v s, cells'[i]? = some (v, s) → s ≤ g1 →
      (g1 = gen' ∧ ∃ u, cs'[i]? = some u ∧ VR μ' v u ∧ v.one = true) ∨ (g1 ≤ gen ∧ cells[i]? = some (v, s) ∧ cs'[i]? = cs[i]?)) :
    Rel (A.set b (.row true gen' cells')) μ' (w.setRow c cs') ∧ Ext A (A.set b (.row true gen' cells')) μ μ' w (w.setRow c cs') := by
  have hget := get_of_row hrow
  have hb := AHeap.get_lt hget
  have hsz' : sz = cs.size := by
    obtain ⟨cs1, e1, fr1, h1, h2, _⟩ := Rel.row R hrow hm
    rw [hw] at h1; cases h1; exact h2.symm
  refine ⟨Rel.change R hb hle hμ (by simp) (fun b' g' c' sz' hne hm' => ?_) (fun g1 c1 sz1 hm1 => ?_), Ext.change hb hle hμ (by simp) rfl rfl rfl ?_ (fun g1 c1 sz1 hm1 => ?_) (fun c0 hc0 hf => ?_)⟩
  · exact setRow_other w c c' cs' (fun e => hne (R.inj _ _ _ _ _ _ _ (e ▸ hm') hm))
  · rcases hμb g1 _ hm1 with ⟨hm2, hg1⟩ | ⟨hx, rfl⟩
    · refine ⟨by simp; exact R.bound _ _ _ _ hm2, fun b' g' sz' hne h => hne (R.inj _ _ _ _ _ _ _ h hm2), ?_⟩
      obtain ⟨cs1, e1, fr1, h1, h2, h3, h4, h5, h6⟩ := Rel.row R hrow hm2
      by_cases hc : c1 = c
      · subst hc
        rw [hw] at h1
        cases h1
        refine ⟨_, setRow_heap w c1 cs cs' e (0, 0) hw, cs', e, (0, 0), rfl, by omega, fun _ => rfl, by omega, fun he => hlen sz1 (he ▸ hm1), fun i v s hi hs => ?_⟩
        rcases hnew g1 (by omega) i v s hi hs with ⟨_, q⟩ | ⟨_, q1, q2⟩
        · exact q
        · obtain ⟨u, p1, p2, p3⟩ := h6 i v s q1 hs
          exact ⟨u, by rw [q2]; exact p1, VR.mono hle _ _ p2, p3⟩
      · refine ⟨_, (setRow_other w c c1 cs' hc).trans h1, cs1, e1, fr1, rfl, h2, h3, by omega, fun he => ?_, fun i v s hi hs => ?_⟩
        · have e3 : gen' = gen := by omega
          have e4 := hgg e3
          rw [he, e3, ← e4, hm] at hm2
          cases hm2; exact absurd rfl hc
        · rcases hnew g1 (by omega) i v s hi hs with ⟨e2, q⟩ | ⟨_, q1, q2⟩
          · have e3 : gen' = gen := by omega
            have e4 := hgg e3
            rw [e2, e3, ← e4, hm] at hm2
            cases hm2; exact absurd rfl hc
          · obtain ⟨u, p1, p2, p3⟩ := h6 i v s q1 hs
            exact ⟨u, p1, VR.mono hle _ _ p2, p3⟩
    · cases hx
      refine ⟨by simp; exact R.bound _ _ _ _ hm, fun b' g' sz' hne h => hne (R.inj _ _ _ _ _ _ _ h hm), ?_⟩
      refine ⟨_, setRow_heap w c cs cs' e (0, 0) hw, cs', e, (0, 0), rfl, by omega, fun _ => rfl, Nat.le_refl _, fun _ => hlen sz hm1, fun i v s hi hs => ?_⟩
      rcases hnew g1 (Nat.le_refl _) i v s hi hs with ⟨_, q⟩ | ⟨q0, q1, q2⟩
      · exact q
      · have e3 : g1 = gen := by omega
        have e4 := hgg e3
        rw [e4] at hm
        obtain ⟨cs1, e1, fr1, h1, h2, h3, h4, h5, h6⟩ := Rel.row R hrow hm
        rw [hw] at h1
        cases h1
        obtain ⟨u, p1, p2, p3⟩ := h6 i v s q1 (by omega)
        exact ⟨u, by rw [q2]; exact p1, VR.mono hle _ _ p2, p3⟩
  · unfold aWr
    rw [AHeap.get_set _ _ _ _ hb, if_pos rfl, hget]
    exact id
  · rcases hμb g1 _ hm1 with ⟨hm2, _⟩ | ⟨hx, _⟩
    · exact .inl ⟨g1, hm2⟩
    · rw [hx]; exact .inl ⟨g, hm⟩
  · refine setRow_other w c c0 cs' fun e => ?_
    have := hf b g sz (e ▸ hm) hb
    simp [aWr, hget] at this
include R in
theorem write_sound0 {b g off : Nat} {vs : List AV} {A' : AHeap} (h : aWrite0 A b g off vs = some A') {us : List Value} (hv : VRs μ vs us) {c sz : Nat} (hm : μ b g = some (c, sz)) :
    ∃ w', (storeCells ⟨c, off, none⟩ us).run P w = .ok () w' ∧ Rel A' μ w' ∧ Ext A A' μ μ w w' := by
  simp only [aWrite0, Option.bind_eq_some_iff, beq_dec] at h
  obtain ⟨⟨wr, gen, cells⟩, hrow, h⟩ := h
  cases hwr : wr with
  | false => simp [hwr] at h
  | true =>
    by_cases hg : g = gen
    case neg => simp [hg] at h
    cases hall : vs.all AV.one with
    | false => simp [hall] at h
    | true =>
      subst hwr; subst hg
      simp only [hall, decide_true, Bool.and_self, cond_true, Option.bind_eq_some_iff, Option.some.injEq, writeCells, ble_dec] at h
      obtain ⟨cs', h1, rfl⟩ := h
      by_cases hl : off + vs.length ≤ cells.length
      case neg => simp [hl] at h1
      simp only [hl, decide_true, cond_true, Option.some.injEq] at h1
      subst h1
      obtain ⟨cur, e, fr, hw, hsz, hfr, hgg, hlen, hcell⟩ := Rel.row R hrow hm
      have := hfr rfl; subst this
      have hlen' := hlen rfl
      have hul := hv.length
      have hst := run_storeCells_at P c off e us 0 cur w hw (by omega) (hv.all_one hall)
      have hml : (vs.map fun v => (v, g)).length = vs.length := by simp
      refine ⟨_, hst, ?_⟩
      refine setRow_sound R hrow hm hw (by simp; omega) (MuLe.refl _) (fun _ _ _ => rfl) (Nat.le_refl _) (fun g1 x hx => ?_) (fun _ _ => ?_) (fun _ => rfl) (fun g1 hg1 i v s hi hs => ?_)
      · obtain ⟨c1, sz1⟩ := x
        obtain ⟨_, _, _, _, _, _, hle, _⟩ := Rel.row R hrow hx
        exact .inl ⟨hx, hle⟩
      · simp; omega
      · have e1 := seg_get cells (vs.map fun v => (v, g)) off i (by simp; omega)
        rw [hml] at e1
        rw [e1] at hi
        have e2 := seg_get cur.toList us off i (by simp; omega)
        simp only [Nat.add_zero, List.getElem?_toArray]
        rw [e2]
        by_cases h1 : i < off
        · rw [if_pos h1] at hi
          exact .inr ⟨hg1, hi, by simp [h1]⟩
        · rw [if_neg h1] at hi
          by_cases h2 : i < off + vs.length
          · rw [if_pos h2] at hi
            simp only [List.getElem?_map, Option.map_eq_some_iff, Prod.mk.injEq] at hi
            obtain ⟨v', q1, rfl, rfl⟩ := hi
            obtain ⟨u, q2, q3⟩ := hv.get q1
            exact .inl ⟨by omega, u, by rw [if_neg h1, if_pos (by omega)]; exact q2, q3, List.all_eq_true.1 hall _ (List.mem_of_getElem? q1)⟩
          · rw [if_neg h2] at hi
            exact .inr ⟨hg1, hi, by rw [if_neg h1, if_neg (by omega)]; simp⟩

omit R in
theorem Rel.congr {A1 A2 : AHeap} {w : World} (h : ∀ j, A1.get j = A2.get j) (R : Rel A1 μ w) : Rel A2 μ w := ⟨R.bound, R.inj, fun b B hb => R.blk b B (by rw [h]; exact hb)⟩
omit R in
theorem Ext.congr {A0 A1 A2 : AHeap} {μ' : Mu} {w w' : World} (hn : A1.n = A2.n) (h : ∀ j, A1.get j = A2.get j) (X : Ext A0 A1 μ μ' w w') : Ext A0 A2 μ μ' w w' :=
  ⟨X.mono, fun b g hb => X.above b g (by omega), fun b g h1 h2 => X.fresh b g h1 (by omega), by have := X.n; omega, X.os, X.tape, X.output, X.size, X.range, fun b hb h0 => by have := X.wr b hb h0; unfold aWr at this ⊢; rw [← h]; exact this, X.frame⟩
include R in
theorem write_sound {b g off : Nat} {vs : List AV} {A' : AHeap} (h : aWrite A b g off vs = some A') {us : List Value} (hv : VRs μ vs us) {c sz : Nat} (hm : μ b g = some (c, sz)) :
    ∃ w', (storeCells ⟨c, off, none⟩ us).run P w = .ok () w' ∧ Rel A' μ w' ∧ Ext A A' μ μ w w' := by
  obtain ⟨A2, h0, hn, hg⟩ := aWrite_inv h
  obtain ⟨w', s1, s2, s3⟩ := write_sound0 (P := P) R h0 hv hm
  exact ⟨w', s1, s2.congr hg, s3.congr hn hg⟩
include hE R in
theorem store_sound {t : TypeId} {p v : AV} {A' : AHeap} (h : aStore E A t p v = some A') {up uv : Value} (hp : VR μ p up) (hv : VR μ v uv) :
    ∃ w', (Instr.storeAt t up uv).run P w = .ok () w' ∧ Rel A' μ w' ∧ Ext A A' μ μ w w' := by
  unfold aStore at h
  split at h
  · rename_i b g off
    simp only [VR] at hp
    obtain ⟨c, sz, hm, rfl⟩ := hp
    simp only [Option.bind_eq_some_iff, beq_dec] at h
    obtain ⟨a, ha, h⟩ := h
    by_cases hs : v.cells.length = a.size
    · simp only [hs, decide_true, cond_true] at h
      obtain ⟨w', h1, h2, h3⟩ := write_sound (P := P) R h hv.cells hm
      refine ⟨w', ?_, h2, h3⟩
      have : uv.cells.size = a.size := by rw [← hs, ← hv.cells.length]; simp
      simp [Instr.storeAt, Instr.sureAddr, storeVar, run_szo hE w ha, this, h1]
    · simp [hs] at h
  · cases h

/-! ### append -/
def appTail (elem : TypeId) (base : Option Addr) (sLen sCap size : Nat) (zeros : Bool) (n : Nat) (x : Value) (appended : Sem (Array Value)) : Sem Value := do
  let need := sLen + n
  if need ≤ sCap then
    let new ← appended
    if let some a := base then storeCells (a.add (sLen * size)) new.toList
    pure (.slice base need sCap)
  else
    if (need : Int) > IntKind.i64.max ∧ (zeros ∨ (← typeInfo elem).bytes = 0) then runtimePanic (.error "growslice: len out of range")
    if Builtin.nextslicecap need sCap * (← typeInfo elem).bytes > 2 ^ 48 then (if zeros then runtimePanic (.error "growslice: len out of range") else do
      if !(← Builtin.mayShare size sLen n base x) then mark .noRoom
      unsupported (.resourceLimit "append: a slice or a string whose bytes no memory bears"))
    let newCap ← choose (.appendCap need sCap elem)
    askRoom (newCap * (← typeInfo elem).bytes)
    let old ← Builtin.firstCells size sLen (.slice base sLen sCap)
    let new ← appended
    let rest := Builtin.zeroCells (← zeroValue elem).cells (newCap - need)
    pure (.slice (some (← newRow elem (old ++ new ++ rest))) need newCap)
theorem append_plain {t xt elem : TypeId} {dx : TypeDesc} {size n sLen sCap : Nat} {base : Option Addr} {x : Value} {ty : TypeId} (ht : P.underlying t = some (.slice elem)) (hx : P.underlying xt = some dx) (hd : ∀ k, dx ≠ .int k)
    (hs : (sizeOf elem).run P w = .ok size w) (hn : (Builtin.lenOf x).run P w = .ok n w) :
    (Builtin.append_ #[t, xt] ty #[.slice base sLen sCap, x]).run P w = (appTail elem base sLen sCap size false n x (Builtin.firstCells size n x)).run P w := by
  have hz : (match dx with | .int _ => true | _ => false) = false := by cases dx <;> first | rfl | exact absurd rfl (hd _)
  unfold Builtin.append_ appTail
  simp only [List.getElem?_toArray, List.getElem?_cons_zero, List.getElem?_cons_succ, Sem.run_bind, run_underlying ht, run_underlying hx, Result.andThen_ok, hs, Sem.run_pure]
  cases dx <;> first
    | exact absurd rfl (hd _)
    | (simp only [Bool.false_eq_true, if_false, Bool.not_false, if_true]; rw [Sem.run_bind, hn]; rfl)
theorem append_zeros {t xt elem : TypeId} {k : IntKind} {size sLen sCap : Nat} {m : Int} {base : Option Addr} {ty : TypeId} {i : TypeInfo} (ht : P.underlying t = some (.slice elem)) (hx : P.underlying xt = some (.int k))
    (hs : (sizeOf elem).run P w = .ok size w) (hi : (typeInfo elem).run P w = .ok i w) (h0 : 0 ≤ m) (h63 : m ≤ 9223372036854775807) (hb : ¬ (m * i.bytes > 2 ^ 48)) :
    (Builtin.append_ #[t, xt] ty #[.slice base sLen sCap, .int .i64 m]).run P w = (appTail elem base sLen sCap size true m.toNat (.int .i64 m) (if m.toNat * size = 0 then pure #[] else do pure (Builtin.zeroCells (← zeroValue elem).cells m.toNat))).run P w := by
  have wl : IntKind.i64.wrap m = m := by unfold IntKind.wrap; simp [IntKind.bits, IntKind.signed]; omega
  have g2 : ¬ m < 0 := by omega
  unfold Builtin.append_ appTail
  simp only [List.getElem?_toArray, List.getElem?_cons_zero, List.getElem?_cons_succ, Sem.run_bind, run_underlying ht, run_underlying hx, Result.andThen_ok, hs, Sem.run_pure, if_true, asInt, asIntOf, wl, g2, if_false, hi, hb]
  simp only [Bool.not_true, Bool.false_eq_true, if_false]
  rfl
include hE in
theorem grow_run {elem : TypeId} {e : ATy} (he : E.ty elem = some e) {zs : List AV} (hz : e.zero = some zs) (hzl : zs.length = e.size) {base : Option Addr} {sLen sCap m : Nat} {zeros : Bool} {x : Value} {appended : Sem (Array Value)} {us olds : List Value}
    (happ : ∀ w' : World, w'.heap = w.heap → appended.run P w' = .ok us.toArray w') (hold : ∀ w' : World, w'.heap = w.heap → (Builtin.firstCells e.size sLen (.slice base sLen sCap)).run P w' = .ok olds.toArray w')
    (hgt : sCap < sLen + m) (h63 : sLen + m ≤ 9223372036854775807) (hby : (sLen + m) * e.bytes ≤ 140737488355328) :
    ∃ cap zc, sLen + m ≤ cap ∧ cap ≤ 9223372036854775807 ∧ zc.length = (cap - (sLen + m)) * e.size ∧
      (appTail elem base sLen sCap e.size zeros m x appended).run P w = .ok (.slice (some ⟨w.heap.size, 0, none⟩) (sLen + m) cap) (w.drew.alloc (.cells (olds ++ us ++ zc).toArray elem)) := by
  obtain ⟨i, ri, hb, hs, hinfo⟩ := run_info hE w he
  obtain ⟨zv, z1, z2, _⟩ := run_zero hE w.drew he hz (fun _ _ => none)
  have ri' : ∀ w', (typeInfo elem).run P w' = .ok i w' := fun w' => by simp [typeInfo, hinfo]
  have hzs : zv.cells.size = e.size := by have := z2.length; simp at this; omega
  have h1 : ¬ (sLen + m ≤ sCap) := by omega
  have h2 : ¬ (((sLen + m : Nat) : Int) > IntKind.i64.max) := by simp [IntKind.max, IntKind.bits, IntKind.signed]; omega
  have h3 : ¬ (Builtin.nextslicecap (sLen + m) sCap * i.bytes > 2 ^ 48) := by
    have := growslice_fits (bytes := e.bytes) hgt hby
    rw [hb]; omega
  refine ⟨grownCap w (sLen + m) sCap elem, (Builtin.zeroCells zv.cells (grownCap w (sLen + m) sCap elem - (sLen + m))).toList, grownCap_ge _ _ _ _, ?_, ?_, ?_⟩
  · have := grownCap_le_maxLen w (sLen + m) sCap elem (by simp only [maxLen]; omega)
    simpa only [maxLen] using this
  · have : ∀ (z : Array Value) n, (Builtin.zeroCells z n).size = n * z.size := fun z n => by simp [Builtin.zeroCells]
    simp [this, hzs]
  · have e1 : (Builtin.zeroCells zv.cells (grownCap w (sLen + m) sCap elem - (sLen + m))) = (Builtin.zeroCells zv.cells (grownCap w (sLen + m) sCap elem - (sLen + m))).toList.toArray := by simp
    have hch : ∀ (q : Question), q.forced = false → (choose q).run P w = .ok (q.cut (w.tape w.drawn q)) w.drew := fun q hq => by simp [run_choose, hq]
    unfold appTail
    simp only [if_neg h1, Sem.run_bind, ri', Result.andThen_ok]
    have h2' : ¬ (((sLen + m : Nat) : Int) > IntKind.i64.max ∧ (zeros = true ∨ i.bytes = 0)) := fun h => h2 h.1
    rw [if_neg h2']
    simp only [Sem.run_bind, ri', Result.andThen_ok, if_neg h3]
    rw [hch _ rfl]
    simp only [Result.andThen_ok, ri', run_askRoom, hold w.drew rfl, happ w.drew rfl, z1, newRow, Sem.run_bind, run_newObj, Sem.run_pure]
    simp [grownCap, World.alloc, List.append_assoc]
    congr 2
    apply Array.ext'
    simp
theorem pushed_sl {A : AHeap} {μ : Mu} {w : World} (R : Rel A μ w) (hn : ∀ g, μ A.n g = none) {vs : List AV} {us zc : List Value} {elem : TypeId} (hv : VRs μ vs us) (hall : vs.all AV.one = true) :
    Rel (A.push (.row true 0 (stamp0 vs))) (upd μ A.n 0 (w.heap.size, us.length + zc.length)) (w.drew.alloc (.cells (us ++ zc).toArray elem)) ∧ Ext A (A.push (.row true 0 (stamp0 vs))) μ (upd μ A.n 0 (w.heap.size, us.length + zc.length)) w (w.drew.alloc (.cells (us ++ zc).toArray elem)) := by
  have hB : BlkR μ (.row true 0 (stamp0 vs)) 0 (objSize (.cells (us ++ zc).toArray elem)) (.cells (us ++ zc).toArray elem) := by
    refine ⟨_, elem, (0, 0), rfl, rfl, fun _ => rfl, Nat.le_refl _, fun _ => by have := hv.length; simp [stamp0] at this ⊢; omega, fun i v s hi _ => ?_⟩
    simp only [stamp0, List.getElem?_map, Option.map_eq_some_iff, Prod.mk.injEq] at hi
    obtain ⟨v', h1, rfl, _⟩ := hi
    obtain ⟨u, h2, h3⟩ := hv.get h1
    refine ⟨u, ?_, h3, List.all_eq_true.1 hall _ (List.mem_of_getElem? h1)⟩
    have := (List.getElem?_eq_some_iff.1 h2).1
    simp [List.getElem?_append_left this, h2]
  have h1 := Rel.push (Rel.drew' R) hn hB
  have h2 : Ext A (A.push (.row true 0 (stamp0 vs))) μ _ w.drew (w.drew.alloc (.cells (us ++ zc).toArray elem)) := Ext.push (o := .cells (us ++ zc).toArray elem) (B := .row true 0 (stamp0 vs)) hn
  have e : objSize (.cells (us ++ zc).toArray elem) = us.length + zc.length := by simp [objSize]
  rw [e] at h1 h2
  exact ⟨h1, (Ext.drew A μ w).trans h2⟩
include hE R in
theorem appTail_sound {elem : TypeId} {e : ATy} (he : E.ty elem = some e) {zs : List AV} (hz : e.zero = some zs) (hzl : zs.length = e.size) (hpos : 0 < e.size) {s v : AV} {A' : AHeap} {m : Nat} {news : List AV} (h : aAppendTo A e.bytes e.size s m news = some (v, A'))
    (hfr : ∀ b g, A.n ≤ b → b < A'.n → μ b g = none) {len : Nat} (hlen : aLenOf s = some len)
    (hby : (len + m) * e.bytes ≤ 140737488355328) (h63 : len + m ≤ 9223372036854775807) (hall : news.all AV.one = true) {us : List Value} (hv : VRs μ news us) (hul : us.length = m * e.size)
    {zeros : Bool} {x : Value} {appended : Sem (Array Value)} (happ : ∀ w' : World, w'.heap = w.heap → appended.run P w' = .ok us.toArray w') {su : Value} (hs : VR μ s su) :
    ∃ base sCap, su = .slice base len sCap ∧ ∃ u w' μ', (appTail elem base len sCap e.size zeros m x appended).run P w = .ok u w' ∧ VR μ' v u ∧ Rel A' μ' w' ∧ Ext A A' μ μ' w w' := by
  unfold aAppendTo at h
  split at h
  · -- nil
    simp only [VR] at hs
    subst hs
    simp only [aLenOf, Option.some.injEq] at hlen
    subst hlen
    refine ⟨none, 0, rfl, ?_⟩
    simp only [beq_dec] at h
    by_cases hm : m = 0
    · subst hm
      simp only [decide_true, cond_true, Option.some.injEq, Prod.mk.injEq] at h
      obtain ⟨rfl, rfl⟩ := h
      refine ⟨.slice none 0 0, w, μ, ?_, by simp only [VR], R, Ext.refl _ _ _⟩
      simp [appTail, happ w rfl]
    · simp only [hm, decide_false, cond_false, Option.some.injEq, Prod.mk.injEq] at h
      obtain ⟨rfl, rfl⟩ := h
      have hn : ∀ g, μ A.n g = none := fun g => hfr _ g (Nat.le_refl _) (by simp)
      obtain ⟨cap, zc, c1, c2, c3, c4⟩ := grow_run hE (w := w) he hz hzl (base := none) (sLen := 0) (sCap := 0) (m := m) (zeros := zeros) (x := x) (appended := appended) (us := us) (olds := []) happ
        (fun w' _ => run_firstCells_none w' _ _ _ _) (by omega) h63 hby
      obtain ⟨p1, p2⟩ := pushed_sl (zc := zc) (elem := elem) R hn hv hall
      simp only [List.nil_append] at c4
      refine ⟨_, _, _, c4, ?_, p1, p2⟩
      simp only [VR]
      refine ⟨w.heap.size, us.length + zc.length, cap, 0, upd_same _ _ _ _, by simp, Nat.le_refl _, by omega, (fun hx => by cases hx), fun _ => ⟨rfl, fun _ => ?_⟩, by simp only [maxLen]; omega⟩
      rw [hul, c3, ← Nat.add_mul]
      simp
      exact Nat.mul_le_mul_right _ (by omega)
  · -- a slice
    rename_i b g off len' lo ex es'
    simp only [aLenOf, Option.some.injEq] at hlen
    subst hlen
    simp only [VR] at hs
    obtain ⟨c, sz, cap, off', hm, rfl, q1, q2, q3, q4, q5⟩ := hs
    refine ⟨some ⟨c, off', none⟩, cap, rfl, ?_⟩
    simp only [beq_dec, ble_dec] at h
    by_cases hes : e.size = es'
    case neg => simp [hes] at h
    subst hes
    simp only [decide_true, cond_true] at h
    by_cases hlo : len' + m ≤ lo
    · simp only [hlo, decide_true, cond_true, Option.bind_eq_some_iff] at h
      obtain ⟨A1, h1, h2⟩ := h
      cases h2
      by_cases hm0 : m = 0
      · subst hm0
        simp only [decide_true, cond_true, Option.some.injEq] at h1
        subst h1
        have : us = [] := List.eq_nil_of_length_eq_zero (by simpa using hul)
        subst this
        refine ⟨.slice (some ⟨c, off', none⟩) len' cap, w, μ, ?_, ?_, R, Ext.refl _ _ _⟩
        · have : len' + 0 ≤ cap := by omega
          simp only [appTail, if_pos this, Sem.run_bind, happ w rfl, Result.andThen_ok, storeCells, Sem.run_pure]
          rfl
        · simp only [VR]
          exact ⟨c, sz, cap, off', hm, rfl, by omega, q2, q3, q4, q5⟩
      · simp only [hm0, decide_false, cond_false] at h1
        obtain ⟨rfl, q4'⟩ := q4 (by omega)
        obtain ⟨w', s1, s2, s3⟩ := write_sound (P := P) R h1 hv hm
        refine ⟨.slice (some ⟨c, off', none⟩) (len' + m) cap, w', μ, ?_, ?_, s2, s3⟩
        · have : len' + m ≤ cap := by omega
          simp only [appTail, if_pos this, Sem.run_bind, happ w rfl, Result.andThen_ok, Addr.add_lit, s1, Sem.run_pure]
        · simp only [VR]
          exact ⟨c, sz, cap, off', hm, rfl, by omega, q2, q3, fun _ => ⟨rfl, q4'⟩, q5⟩
    · simp only [hlo, decide_false, cond_false] at h
      cases hex : ex with
      | true =>
        simp only [hex, cond_true, Option.bind_eq_some_iff, Option.some.injEq, Prod.mk.injEq] at h
        obtain ⟨olds, h1, rfl, rfl⟩ := h
        have hcap := q3 hex
        have hn : ∀ g, μ A.n g = none := fun g => hfr _ g (Nat.le_refl _) (by simp)
        obtain ⟨ous, o1, o2, o3, o4⟩ := aRead_sound R h1 hm
        have hfc : ∀ w' : World, w'.heap = w.heap → (Builtin.firstCells e.size len' (.slice (some ⟨c, off', none⟩) len' cap)).run P w' = .ok ous.toArray w' := by
          intro w' hw'
          by_cases hc0 : cap = 0
          · have hl0 : len' = 0 := by omega
            subst hl0
            have : ous = [] := List.eq_nil_of_length_eq_zero (by simpa using o2)
            subst this
            simp [Builtin.firstCells, loadCells, loadCellsFrom]
          · obtain ⟨rfl, _⟩ := q4 hc0
            exact run_firstCells_some w' _ _ _ _ _ ous o2 (fun j u hj => by have := o4 j u hj; simpa [World.cell?, hw'] using this)
        obtain ⟨ncap, zc, c1, c2, c3, c4⟩ := grow_run hE (w := w) he hz hzl (base := some ⟨c, off', none⟩) (sLen := len') (sCap := cap) (m := m) (zeros := zeros) (x := x) (appended := appended) (us := us) (olds := ous) happ hfc (by omega) h63 hby
        obtain ⟨p1, p2⟩ := pushed_sl (zc := zc) (elem := elem) R hn (o1.append hv) (by rw [List.all_append, o3, hall]; rfl)
        refine ⟨_, _, _, c4, ?_, p1, p2⟩
        simp only [VR]
        refine ⟨w.heap.size, (ous ++ us).length + zc.length, ncap, 0, upd_same _ _ _ _, rfl, Nat.le_refl _, c1, (fun hx => by cases hx), fun _ => ⟨rfl, fun _ => ?_⟩, by simp only [maxLen]; omega⟩
        rw [List.length_append, o2, hul, c3, ← Nat.add_mul, ← Nat.add_mul]
        simp
        exact Nat.mul_le_mul_right _ (by omega)
      | false =>
        subst hex
        simp only [cond_false, Option.bind_eq_some_iff] at h
        obtain ⟨⟨wr, gen, cells⟩, hrow, h⟩ := h
        cases hwr : wr with
        | false => simp [hwr] at h
        | true =>
          subst hwr
          by_cases hoff : off = 0
          case neg => simp [hoff] at h
          subst hoff
          simp only [decide_true, Bool.and_self, cond_true, Option.bind_eq_some_iff, Option.some.injEq, Prod.mk.injEq] at h
          obtain ⟨olds, h1, rfl, rfl⟩ := h
          obtain ⟨ous, o1, o2, o3, o4⟩ := aRead_sound R h1 hm
          have hget := get_of_row hrow
          have hb := AHeap.get_lt hget
          obtain ⟨cur, e0, fr, hw, hsz, hfr0, hgg, hlen0, hcell⟩ := Rel.row R hrow hm
          have := hfr0 rfl; subst this
          have hnone : μ b (gen + 1) = none := by
            cases hx : μ b (gen + 1) with
            | none => rfl
            | some x => obtain ⟨c1, sz1⟩ := x; obtain ⟨_, _, _, _, _, _, hle, _⟩ := Rel.row R hrow hx; omega
          -- what is read of the old cells
          have hrd : ∃ rs, readFrom g (len' * e.size) cells = some rs ∧ rs = olds := by
            simp only [aRead, hrow, Option.bind_some, ble_dec, hgg, decide_true, cond_true, readCells, dropC_eq, List.drop_zero] at h1
            exact ⟨olds, h1, rfl⟩
          obtain ⟨rs, hrs, rfl⟩ := hrd
          obtain ⟨rl, rk⟩ := readFrom_get hrs
          have hcl : len' * e.size ≤ cells.length := by
            rcases Nat.eq_zero_or_pos (len' * e.size) with h0 | h0
            · omega
            · have hi : len' * e.size - 1 < rs.length := by omega
              obtain ⟨s0, hs0, _⟩ := rk _ _ (List.getElem?_eq_getElem hi)
              have := (List.getElem?_eq_some_iff.1 hs0).1
              omega
          have hidx : ∀ (i : Nat) v s, (cells.take (len' * e.size) ++ news.map fun v => (v, gen + 1))[i]? = some (v, s) → (i < len' * e.size ∧ cells[i]? = some (v, s) ∧ s ≤ g) ∨ (len' * e.size ≤ i ∧ news[i - len' * e.size]? = some v ∧ s = gen + 1) := by
            intro i v s hi
            have hmin : min (len' * e.size) cells.length = len' * e.size := by omega
            by_cases h1 : i < len' * e.size
            · rw [List.getElem?_append_left (by simp [hmin]; exact h1), List.getElem?_take, if_pos h1] at hi
              obtain ⟨s0, hs0, hs1⟩ := rk i rs[i] (List.getElem?_eq_getElem (by omega))
              rw [hi] at hs0; cases hs0
              exact .inl ⟨h1, hi, hs1⟩
            · rw [List.getElem?_append_right (by simp [hmin]; omega)] at hi
              simp only [List.length_take, hmin, List.getElem?_map, Option.map_eq_some_iff, Prod.mk.injEq] at hi
              obtain ⟨v', q, rfl, rfl⟩ := hi
              exact .inr ⟨by omega, q, rfl⟩
          by_cases hroom : len' + m ≤ cap
          · -- in place
            have hm0 : m ≠ 0 := by omega
            obtain ⟨rfl, q4'⟩ := q4 (by omega)
            have hfit : (len' + m) * e.size ≤ cur.size := by
              have := q4' rfl
              have h2 : (len' + m) * e.size ≤ cap * e.size := Nat.mul_le_mul_right _ hroom
              omega
            rw [Nat.add_mul] at hfit
            have hst := run_storeCells_at P c (0 + len' * e.size) e0 us 0 cur w hw (by omega) (hv.all_one hall)
            refine ⟨.slice (some ⟨c, 0, none⟩) (len' + m) cap, w.setRow c (cur.toList.take (0 + len' * e.size + 0) ++ us ++ cur.toList.drop (0 + len' * e.size + 0 + us.length)).toArray, upd μ b (gen + 1) (c, sz), ?_, ?_, ?_⟩
            · simp only [appTail, if_pos hroom, Sem.run_bind, happ w rfl, Result.andThen_ok, Addr.add_lit]
              rw [hst]
              rfl
            · simp only [VR]
              exact ⟨c, sz, cap, 0, upd_same _ _ _ _, rfl, Nat.le_refl _, hroom, (fun hx => by cases hx), fun _ => ⟨rfl, fun _ => q4' rfl⟩, q5⟩
            · refine setRow_sound R hrow hm hw (by simp; omega) (MuLe.upd hnone) (fun b' g' hne => upd_other _ _ (fun h => hne h.1)) (by omega) (fun g1 x hx => ?_) (fun _ _ => ?_) (fun h => by omega) (fun g1 hg1 i v s hi hs => ?_)
              · by_cases hg1 : g1 = gen + 1
                · subst hg1; rw [upd_same] at hx; cases hx; exact .inr ⟨rfl, rfl⟩
                · rw [upd_other _ _ (fun h => hg1 h.2)] at hx
                  obtain ⟨c1, sz1⟩ := x
                  obtain ⟨_, _, _, _, _, _, hle, _⟩ := Rel.row R hrow hx
                  exact .inl ⟨hx, hle⟩
              · have := hv.length; simp; omega
              · have e2 := seg_get cur.toList us (len' * e.size) i (by simp; omega)
                have hnu := hv.length
                simp only [Nat.zero_add, Nat.add_zero, List.getElem?_toArray]
                rw [e2]
                rcases hidx i v s hi with ⟨a1, a2, a3⟩ | ⟨a1, a2, a3⟩
                · by_cases hgl : g1 ≤ gen
                  · exact .inr ⟨hgl, a2, by simp [a1]⟩
                  · obtain ⟨u, b1, b2, b3⟩ := hcell i v s a2 a3
                    exact .inl ⟨by omega, u, by simp [a1]; simpa using b1, VR.mono (MuLe.upd hnone) _ _ b2, b3⟩
                · obtain ⟨u, b1, b2⟩ := hv.get a2
                  have := (List.getElem?_eq_some_iff.1 b1).1
                  exact .inl ⟨by omega, u, by rw [if_neg (by omega), if_pos (by omega)]; exact b1, VR.mono (MuLe.upd hnone) _ _ b2, List.all_eq_true.1 hall _ (List.mem_of_getElem? a2)⟩
          · -- a new row
            have hfc : ∀ w' : World, w'.heap = w.heap → (Builtin.firstCells e.size len' (.slice (some ⟨c, off', none⟩) len' cap)).run P w' = .ok ous.toArray w' := by
              intro w' hw'
              by_cases hc0 : cap = 0
              · have hl0 : len' = 0 := by omega
                subst hl0
                have : ous = [] := List.eq_nil_of_length_eq_zero (by simpa using o2)
                subst this
                simp [Builtin.firstCells, loadCells, loadCellsFrom]
              · obtain ⟨rfl, _⟩ := q4 hc0
                exact run_firstCells_some w' _ _ _ _ _ ous o2 (fun j u hj => by have := o4 j u hj; simpa [World.cell?, hw'] using this)
            obtain ⟨ncap, zc, c1, c2, c3, c4⟩ := grow_run hE (w := w) he hz hzl (base := some ⟨c, off', none⟩) (sLen := len') (sCap := cap) (m := m) (zeros := zeros) (x := x) (appended := appended) (us := us) (olds := ous) happ hfc (by omega) h63 hby
            have hsize : (ous ++ us ++ zc).length = ncap * e.size := by
              rw [List.length_append, List.length_append, o2, hul, c3, ← Nat.add_mul, ← Nat.add_mul]; congr 1; omega
            have hheap : (w.drew.alloc (.cells (ous ++ us ++ zc).toArray elem)).heap[w.heap.size]? = some (.cells (ous ++ us ++ zc).toArray elem) := heap_alloc_new w.drew _
            have hold : ∀ c0, c0 < w.heap.size → (w.drew.alloc (.cells (ous ++ us ++ zc).toArray elem)).heap[c0]? = w.heap[c0]? := fun c0 h0 => heap_alloc_old w.drew _ c0 h0
            have hle : MuLe μ (upd μ b (gen + 1) (w.heap.size, ncap * e.size)) := MuLe.upd hnone
            refine ⟨_, _, upd μ b (gen + 1) (w.heap.size, ncap * e.size), c4, ?_, ?_, ?_⟩
            · simp only [VR]
              exact ⟨w.heap.size, ncap * e.size, ncap, 0, upd_same _ _ _ _, rfl, Nat.le_refl _, c1, (fun hx => by cases hx), fun _ => ⟨rfl, fun _ => by omega⟩, by simp only [maxLen]; omega⟩
            · refine Rel.change R hb hle (fun b' g' hne => upd_other _ _ (fun h => hne h.1)) (by simp) (fun b' g' c' sz' hne hm' => hold c' (R.bound _ _ _ _ hm')) (fun g1 c1' sz1 hm1 => ?_)
              by_cases hg1 : g1 = gen + 1
              · subst hg1
                rw [upd_same] at hm1
                cases hm1
                refine ⟨by simp, fun b' g' sz' hne h => by have := R.bound _ _ _ _ h; omega, _, hheap, _, elem, (0, 0), rfl, by simpa using hsize, fun _ => rfl, Nat.le_refl _, fun _ => ?_, fun i v s hi hs => ?_⟩
                · have := hv.length; simp; omega
                · rcases hidx i v s hi with ⟨a1, a2, a3⟩ | ⟨a1, a2, a3⟩
                  · have hrsi : rs[i]? = some v := by
                      obtain ⟨s0, hs0, _⟩ := rk i rs[i] (List.getElem?_eq_getElem (by omega))
                      rw [a2] at hs0; cases hs0
                      exact List.getElem?_eq_getElem (by omega)
                    obtain ⟨u, b1, b2⟩ := o1.get hrsi
                    have := (List.getElem?_eq_some_iff.1 b1).1
                    exact ⟨u, by simp [List.getElem?_append_left this, b1], VR.mono hle _ _ b2, List.all_eq_true.1 o3 _ (List.mem_of_getElem? hrsi)⟩
                  · obtain ⟨u, b1, b2⟩ := hv.get a2
                    have h7 := (List.getElem?_eq_some_iff.1 b1).1
                    refine ⟨u, ?_, VR.mono hle _ _ b2, List.all_eq_true.1 hall _ (List.mem_of_getElem? a2)⟩
                    simp only [List.append_assoc, List.getElem?_toArray]
                    rw [List.getElem?_append_right (by omega), o2, List.getElem?_append_left h7]
                    exact b1
              · rw [upd_other _ _ (fun h => hg1 h.2)] at hm1
                have hc1 := R.bound _ _ _ _ hm1
                obtain ⟨cs1, e1, fr1, k1, k2, k3, k4, k5, k6⟩ := Rel.row R hrow hm1
                refine ⟨by simp; omega, fun b' g' sz' hne h => hne (R.inj _ _ _ _ _ _ _ h hm1), _, (hold c1' hc1).trans k1, cs1, e1, fr1, rfl, k2, k3, by omega, fun h => by omega, fun i v s hi hs => ?_⟩
                rcases hidx i v s hi with ⟨a1, a2, a3⟩ | ⟨a1, a2, a3⟩
                · obtain ⟨u, b1, b2, b3⟩ := k6 i v s a2 hs
                  exact ⟨u, b1, VR.mono hle _ _ b2, b3⟩
                · omega
            · refine Ext.change hb hle (fun b' g' hne => upd_other _ _ (fun h => hne h.1)) (by simp) rfl rfl rfl ?_ (fun g1 c1' sz1 hm1 => ?_) (fun c0 hc0 _ => hold c0 hc0)
              · unfold aWr; rw [AHeap.get_set _ _ _ _ hb, if_pos rfl, hget]; exact id
              · by_cases hg1 : g1 = gen + 1
                · subst hg1; rw [upd_same] at hm1; cases hm1; exact .inr (Nat.le_refl _)
                · rw [upd_other _ _ (fun h => hg1 h.2)] at hm1; exact .inl ⟨g1, hm1⟩
  · cases h
include hE R in
theorem appOpq_sound (hJ : Val.J μ w) {elem : TypeId} {e : ATy} (he : E.ty elem = some e) {zs : List AV} (hz : e.zero = some zs) (hzl : zs.length = e.size) {s v : AV} {A' : AHeap} {m : Nat} {news : List AV} (h : aAppOpq E A e.bytes e.size s m news = some (v, A'))
    {us : List Value} (hv : VRs μ news us) (hul : us.length = m * e.size) {x : Value} {appended : Sem (Array Value)} (happ : ∀ w' : World, w'.heap = w.heap → appended.run P w' = .ok us.toArray w') {su : Value} (hs : VR μ s su) :
    ∃ base len sCap, su = .slice base len sCap ∧ ∃ u w' μ', (appTail elem base len sCap e.size false m x appended).run P w = .ok u w' ∧ VR μ' v u ∧ Rel A' μ' w' ∧ Ext A A' μ μ' w w' := by
  unfold aAppOpq at h
  split at h
  case h_2 => cases h
  rename_i i
  simp only [Option.bind_eq_some_iff] at h
  obtain ⟨⟨b, len⟩, h1, h⟩ := h
  obtain ⟨hlen, c, cap, sz, ho, hlc, hcap, hcsz, hmu⟩ := hE.opq _ _ _ h1
  have hm := hmu μ w hJ
  simp only [VR] at hs
  obtain ⟨rfl, _⟩ := hs
  refine ⟨some ⟨c, 0, none⟩, len, cap, ho, ?_⟩
  cases hb : (Nat.beq e.bytes 1 && Nat.beq e.size 1 && Nat.blt 0 m && Nat.ble m 1000000 && news.all AV.one) with
  | false => rw [hb] at h; cases h
  | true =>
  rw [hb] at h
  simp only [Bool.and_eq_true, Nat.beq_eq, Nat.blt_eq, Nat.ble_eq] at hb
  obtain ⟨⟨⟨⟨hb1, hb2⟩, hm0⟩, hm1⟩, hall⟩ := hb
  simp only [cond_true, Option.bind_eq_some_iff] at h
  obtain ⟨⟨wr, gen, cells⟩, hrow, h⟩ := h
  cases hg : (wr && Nat.beq gen 0) with
  | false => rw [hg] at h; cases h
  | true =>
  rw [hg] at h
  simp only [Bool.and_eq_true, Nat.beq_eq] at hg
  obtain ⟨rfl, rfl⟩ := hg
  simp only [cond_true, Option.some.injEq, Prod.mk.injEq] at h
  obtain ⟨rfl, rfl⟩ := h
  rw [hb2, Nat.mul_one] at hul
  have hget := get_of_row hrow
  have hbn := AHeap.get_lt hget
  obtain ⟨cur, e0, fr, hw, hsz, hfr0, hgg, hlen0, hcell⟩ := Rel.row R hrow hm
  have := hfr0 rfl; subst this
  have hnone : μ b 1 = none := by
    cases hx : μ b 1 with
    | none => rfl
    | some x => obtain ⟨c1, sz1⟩ := x; obtain ⟨_, _, _, _, _, _, hle, _⟩ := Rel.row R hrow hx; omega
  by_cases hroom : len + m ≤ cap
  · -- in place
    have hst := run_storeCells_at P c len e0 us 0 cur w hw (by omega) (hv.all_one hall)
    refine ⟨.slice (some ⟨c, 0, none⟩) (len + m) cap, w.setRow c (cur.toList.take (len + 0) ++ us ++ cur.toList.drop (len + 0 + us.length)).toArray, upd μ b 1 (c, sz), ?_, ?_, ?_⟩
    · simp only [appTail, if_pos hroom, Sem.run_bind, happ w rfl, Result.andThen_ok, Addr.add_lit, hb2, Nat.mul_one, Nat.zero_add]
      rw [hst]
      rfl
    · simp only [VR]
      exact ⟨c, sz, cap, 0, upd_same _ _ _ _, rfl, Nat.le_refl _, hroom, (fun hx => by cases hx), fun _ => ⟨rfl, fun _ => by omega⟩, hcap⟩
    · refine setRow_sound R hrow hm hw (by simp; omega) (MuLe.upd hnone) (fun b' g' hne => upd_other _ _ (fun h => hne h.1)) (by omega) (fun g1 x hx => ?_) (fun _ _ => by simp) (fun h => by omega) (fun g1 hg1 i v s hi hs => by simp at hi)
      by_cases hg1 : g1 = 1
      · subst hg1; rw [upd_same] at hx; cases hx; exact .inr ⟨rfl, rfl⟩
      · rw [upd_other _ _ (fun h => hg1 h.2)] at hx
        obtain ⟨c1, sz1⟩ := x
        obtain ⟨_, _, _, _, _, _, hle, _⟩ := Rel.row R hrow hx
        exact .inl ⟨hx, hle⟩
  · -- a new row
    have hcl : (cur.toList.take len).length = len := by simp; omega
    have hfc : ∀ w' : World, w'.heap = w.heap → (Builtin.firstCells e.size len (.slice (some ⟨c, 0, none⟩) len cap)).run P w' = .ok (cur.toList.take len).toArray w' := by
      intro w' hw'
      exact run_firstCells_some w' _ _ _ _ _ (cur.toList.take len) (by rw [hcl, hb2, Nat.mul_one]) (fun j u hj => by
        rw [List.getElem?_take] at hj
        split at hj
        · rw [Addr.add_lit]; simp only [World.cell?, hw', Nat.zero_add, hw]; simpa using hj
        · cases hj)
    obtain ⟨ncap, zc, c1, c2, c3, c4⟩ := grow_run hE (w := w) he hz hzl (base := some ⟨c, 0, none⟩) (sLen := len) (sCap := cap) (m := m) (zeros := false) (x := x) (appended := appended) (us := us) (olds := cur.toList.take len) happ hfc (by omega) (by omega) (by rw [hb1]; omega)
    have hsize : (cur.toList.take len ++ us ++ zc).length = ncap := by
      rw [List.length_append, List.length_append, hcl, hul, c3, hb2, Nat.mul_one]; omega
    have hheap : (w.drew.alloc (.cells (cur.toList.take len ++ us ++ zc).toArray elem)).heap[w.heap.size]? = some (.cells (cur.toList.take len ++ us ++ zc).toArray elem) := heap_alloc_new w.drew _
    have hold : ∀ c0, c0 < w.heap.size → (w.drew.alloc (.cells (cur.toList.take len ++ us ++ zc).toArray elem)).heap[c0]? = w.heap[c0]? := fun c0 h0 => heap_alloc_old w.drew _ c0 h0
    have hle : MuLe μ (upd μ b 1 (w.heap.size, ncap)) := MuLe.upd hnone
    refine ⟨_, _, upd μ b 1 (w.heap.size, ncap), c4, ?_, ?_, ?_⟩
    · simp only [VR]
      exact ⟨w.heap.size, ncap, ncap, 0, upd_same _ _ _ _, rfl, Nat.le_refl _, c1, (fun hx => by cases hx), fun _ => ⟨rfl, fun _ => by omega⟩, by simp only [maxLen]; omega⟩
    · refine Rel.change R hbn hle (fun b' g' hne => upd_other _ _ (fun h => hne h.1)) (by simp) (fun b' g' c' sz' hne hm' => hold c' (R.bound _ _ _ _ hm')) (fun g1 c1' sz1 hm1 => ?_)
      by_cases hg1 : g1 = 1
      · subst hg1
        rw [upd_same] at hm1
        cases hm1
        exact ⟨by simp, fun b' g' sz' hne h => by have := R.bound _ _ _ _ h; omega, _, hheap, _, elem, (0, 0), rfl, by simpa using hsize, fun _ => rfl, Nat.le_refl _, fun _ => by simp, fun i v s hi hs => by simp at hi⟩
      · rw [upd_other _ _ (fun h => hg1 h.2)] at hm1
        have hc1 := R.bound _ _ _ _ hm1
        obtain ⟨cs1, e1, fr1, k1, k2, k3, k4, k5, k6⟩ := Rel.row R hrow hm1
        exact ⟨by simp; omega, fun b' g' sz' hne h => hne (R.inj _ _ _ _ _ _ _ h hm1), _, (hold c1' hc1).trans k1, cs1, e1, fr1, rfl, k2, k3, by omega, fun h => by simp, fun i v s hi hs => by simp at hi⟩
    · refine Ext.change hbn hle (fun b' g' hne => upd_other _ _ (fun h => hne h.1)) (by simp) rfl rfl rfl ?_ (fun g1 c1' sz1 hm1 => ?_) (fun c0 hc0 _ => hold c0 hc0)
      · unfold aWr; rw [AHeap.get_set _ _ _ _ hbn, if_pos rfl, hget]; exact id
      · by_cases hg1 : g1 = 1
        · subst hg1; rw [upd_same] at hm1; cases hm1; exact .inr (Nat.le_refl _)
        · rw [upd_other _ _ (fun h => hg1 h.2)] at hm1; exact .inl ⟨g1, hm1⟩
end
end Go.AE
end
section
/- The abstract evaluator, part 7: the other operations that write; all of them together. -/
set_option linter.unusedVariables false
set_option linter.unusedSectionVars false
set_option linter.unusedSimpArgs false
namespace Go.AE
variable [Val]
section
variable {P : Program} {E : Env} (hE : EnvOK P E) {A : AHeap} {μ : Mu} {w : World} (R : Rel A μ w)
include R in
/-- the elements of a slice, or the bytes of a string -/
theorem src_sound {es : Nat} {x : AV} {m : Nat} {vs : List AV} (h : aSrc A es x = some (m, vs)) {u : Value} (hu : VR μ x u) :
    ∃ us, VRs μ vs us ∧ us.length = m * es ∧ vs.all AV.one = true ∧ (∀ w' : World, (Builtin.lenOf u).run P w' = .ok m w') ∧
      (∀ k, k ≤ m → ∀ w' : World, w'.heap = w.heap → (Builtin.firstCells es k u).run P w' = .ok (us.take (k * es)).toArray w') := by
  unfold aSrc at h
  split at h
  · rename_i b g off len lo ex es'
    simp only [beq_dec] at h
    by_cases hes : es = es'
    case neg => simp [hes] at h
    subst hes
    simp only [decide_true, cond_true, Option.bind_eq_some_iff, Option.some.injEq, Prod.mk.injEq] at h
    obtain ⟨vs', h1, rfl, rfl⟩ := h
    simp only [VR] at hu
    obtain ⟨c, sz, cap, off', hm, rfl, q1, q2, q3, q4, q5⟩ := hu
    obtain ⟨us, o1, o2, o3, o4⟩ := aRead_sound R h1 hm
    refine ⟨us, o1, o2, o3, fun w' => rfl, fun k hk w' hw' => ?_⟩
    by_cases hc0 : cap = 0
    · have hl0 : len = 0 := by omega
      subst hl0
      obtain rfl : k = 0 := by omega
      simp [Builtin.firstCells, loadCells, loadCellsFrom]
    · obtain ⟨rfl, _⟩ := q4 hc0
      have hkl : k * es ≤ len * es := Nat.mul_le_mul_right _ hk
      refine run_firstCells_some w' _ _ _ _ _ _ (by simp; omega) (fun j u hj => ?_)
      rw [List.getElem?_take] at hj
      split at hj
      · have := o4 j u hj; simpa [World.cell?, hw'] using this
      · cases hj
  · simp only [VR] at hu
    subst hu
    simp only [Option.some.injEq, Prod.mk.injEq] at h
    obtain ⟨rfl, rfl⟩ := h
    exact ⟨[], VRs.nil, by simp, rfl, fun w' => rfl, fun k hk w' _ => by simp [Builtin.firstCells]⟩
  · rename_i s
    simp only [VR] at hu
    subst hu
    simp only [beq_dec] at h
    by_cases hes : es = 1
    case neg => simp [hes] at h
    subst hes
    simp only [decide_true, cond_true, Option.some.injEq, Prod.mk.injEq] at h
    obtain ⟨rfl, rfl⟩ := h
    refine ⟨s.data.toList.map fun c => .int .u8 c.toNat, ?_, by simp, by rw [List.all_eq_true]; intro v hv; simp at hv; obtain ⟨c, _, rfl⟩ := hv; rfl, fun w' => rfl, fun k hk w' _ => ?_⟩
    · refine VRs.of_get (by simp) fun i v u hv hu => ?_
      simp only [List.getElem?_map, Option.map_eq_some_iff] at hv hu
      obtain ⟨c, h1, rfl⟩ := hv
      obtain ⟨c', h2, rfl⟩ := hu
      rw [h1] at h2; cases h2
      simp only [VR]
    · simp only [Builtin.firstCells, Sem.run_pure]
      congr 1
      apply Array.ext'
      simp [ByteArray.extract, ByteArray.copySlice, List.map_take]
  · cases h
theorem len_le {a b : Nat} (h : a ≤ b) (c : Nat) : a * c ≤ b * c := Nat.mul_le_mul_right _ h
theorem all_take {vs : List AV} (h : vs.all AV.one = true) (n : Nat) : (vs.take n).all AV.one = true := by
  rw [List.all_eq_true] at h ⊢
  exact fun v hv => h v (List.mem_of_mem_take hv)
include hE R in
theorem append_sound (hJ : Val.J μ w) {t xt : TypeId} {s x v : AV} {A' : AHeap} (h : aAppend E A t xt s x = some (v, A')) (hfr : ∀ b g, A.n ≤ b → b < A'.n → μ b g = none) {su xu : Value} (hs : VR μ s su) (hx : VR μ x xu) (ty : TypeId) :
    ∃ u w' μ', (Builtin.append_ #[t, xt] ty #[su, xu]).run P w = .ok u w' ∧ VR μ' v u ∧ Rel A' μ' w' ∧ Ext A A' μ μ' w w' := by
  simp only [aAppend, Option.bind_eq_some_iff] at h
  obtain ⟨a, ha, h⟩ := h
  have hund := (hE.ty _ _ ha).1
  split at h
  case h_2 => cases h
  rename_i elem hd
  rw [hd] at hund
  simp only [Option.bind_eq_some_iff, blt_dec, beq_dec] at h
  obtain ⟨e, he, ax, hax, z, hz, h⟩ := h
  have hundx := (hE.ty _ _ hax).1
  by_cases hc : (0 < e.size ∧ z.length = e.size) ∧ z.all AV.one = true
  case neg =>
    exfalso
    have : (decide (0 < e.size) && decide (z.length = e.size) && z.all AV.one) = false := by
      cases hza : z.all AV.one with
      | false => simp
      | true => simp only [and_dec, Bool.and_true, decide_eq_false_iff_not]; intro hx; exact hc ⟨hx, hza⟩
    rw [this] at h; cases h
  obtain ⟨⟨hc1, hc2⟩, hc3⟩ := hc
  simp only [hc1, hc2, hc3, decide_true, Bool.and_self, cond_true, Option.bind_eq_some_iff] at h
  obtain ⟨⟨m, news⟩, hsrc, h⟩ := h
  have hszo := run_szo hE w he
  cases hlen : aLenOf s with
  | none =>
    rw [hlen] at h
    simp only at h
    unfold aAppSrc at hsrc
    split at hsrc
    · rename_i k hdx; rw [hdx] at h; cases h
    · rename_i hnint
      have hdx : ∀ k, ax.desc ≠ .int k := fun k hk => hnint k hk
      split at h
      · cases h
      · obtain ⟨us, s1, s2, s3, s4, s5⟩ := src_sound (P := P) R hsrc hx
        obtain ⟨base, len, sCap, rfl, u, w', μ', e1, e2, e3, e4⟩ := appOpq_sound hE R hJ he hz hc2 h s1 s2 (x := xu) (appended := Builtin.firstCells e.size m xu)
          (fun w' hw' => by rw [s5 m (Nat.le_refl _) w' hw', ← s2, List.take_length]) hs
        exact ⟨u, w', μ', by rw [append_plain hund hundx hdx hszo (s4 w)]; exact e1, e2, e3, e4⟩
  | some len =>
  rw [hlen] at h
  simp only at h
  simp only [ble_dec] at h
  by_cases hk : ((len + m) * e.bytes ≤ 140737488355328 ∧ len + m ≤ 9223372036854775807) ∧ news.all AV.one = true
  case neg =>
    exfalso
    have : (decide ((len + m) * e.bytes ≤ 140737488355328) && decide (len + m ≤ 9223372036854775807) && news.all AV.one) = false := by
      cases hza : news.all AV.one with
      | false => simp
      | true => simp only [and_dec, Bool.and_true, decide_eq_false_iff_not]; intro hx; exact hk ⟨hx, hza⟩
    rw [this] at h; cases h
  obtain ⟨⟨hk1, hk2⟩, hk3⟩ := hk
  simp only [hk1, hk2, hk3, decide_true, Bool.and_self, cond_true] at h
  unfold aAppSrc at hsrc
  split at hsrc
  · -- a number of zeros
    rename_i k hdx
    rw [hdx] at hundx
    split at hsrc
    case h_2 => cases hsrc
    rename_i n
    simp only [VR] at hx
    subst hx
    by_cases hn : 0 ≤ n ∧ n ≤ 9223372036854775807
    case neg => simp only [and_dec, decide_eq_false hn, cond_false] at hsrc; cases hsrc
    simp only [hn.1, hn.2, decide_true, Bool.and_self, cond_true, Option.some.injEq, Prod.mk.injEq] at hsrc
    obtain ⟨rfl, rfl⟩ := hsrc
    obtain ⟨i, ri, hb, hsi, hinfo⟩ := run_info hE w he
    obtain ⟨zv, z1, z2, _⟩ := run_zero hE w he hz μ
    have z1' : ∀ w' : World, (zeroValue elem).run P w' = .ok zv w' := by
      intro w'
      obtain ⟨zv', z1', _⟩ := run_zero hE w' he hz μ
      simp only [zeroValue, typeInfo, Sem.run_bind, run_program, Result.andThen_ok, hinfo, Sem.run_pure] at z1 z1' ⊢
      cases hzz : i.zero with
      | none => simp [hzz] at z1
      | some q => simp [hzz] at z1 ⊢; exact z1
    have hzs : zv.cells.size = e.size := by have := z2.length; simp at this; omega
    have hzz := zeros_VRs z2 n.toNat (n.toNat * e.size) (by rw [hc2])
    have hb48 : ¬ (n * i.bytes > 2 ^ 48) := by
      have : n.toNat * e.bytes ≤ (len + n.toNat) * e.bytes := len_le (by omega) _
      have h2 : n * (i.bytes : Int) = ((n.toNat * e.bytes : Nat) : Int) := by rw [hb]; push_cast; rw [Int.toNat_of_nonneg hn.1]
      rw [h2]; omega
    obtain ⟨base, sCap, rfl, u, w', μ', e1, e2, e3, e4⟩ := appTail_sound hE R he hz hc2 hc1 h hfr hlen hk1 hk2 hk3 hzz (us := ((Array.range (n.toNat * e.size)).map (zv.cells[· % zv.cells.size]!)).toList) (by simp) (zeros := true) (x := .int .i64 n)
      (appended := (if n.toNat * e.size = 0 then pure #[] else do pure (Builtin.zeroCells (← zeroValue elem).cells n.toNat))) (fun w' _ => by
        by_cases h0 : n.toNat * e.size = 0
        · simp [h0, rng0]
        · simp only [if_neg h0, Sem.run_bind, z1', Result.andThen_ok, Sem.run_pure]
          simp only [Builtin.zeroCells, hzs]) hs
    exact ⟨u, w', μ', by rw [append_zeros hund hundx hszo ri hn.1 hn.2 hb48]; exact e1, e2, e3, e4⟩
  · rename_i hnint
    have hdx : ∀ k, ax.desc ≠ .int k := fun k hk => hnint k hk
    obtain ⟨us, s1, s2, s3, s4, s5⟩ := src_sound (P := P) R hsrc hx
    obtain ⟨base, sCap, rfl, u, w', μ', e1, e2, e3, e4⟩ := appTail_sound hE R he hz hc2 hc1 h hfr hlen hk1 hk2 hk3 s1 s2 (zeros := false) (x := xu) (appended := Builtin.firstCells e.size m xu)
      (fun w' hw' => by rw [s5 m (Nat.le_refl _) w' hw', ← s2, List.take_length]) hs
    exact ⟨u, w', μ', by rw [append_plain hund hundx hdx hszo (s4 w)]; exact e1, e2, e3, e4⟩
include hE R in
theorem copy_sound {t : TypeId} {d x v : AV} {A' : AHeap} (h : aCopy E A t d x = some (v, A')) {du xu : Value} (hd : VR μ d du) (hx : VR μ x xu) (ts : List TypeId) (ty : TypeId) :
    ∃ u w', (Builtin.copy_ (t :: ts).toArray ty #[du, xu]).run P w = .ok u w' ∧ VR μ v u ∧ Rel A' μ w' ∧ Ext A A' μ μ w w' := by
  simp only [aCopy, Option.bind_eq_some_iff] at h
  obtain ⟨a, ha, h⟩ := h
  have hund := (hE.ty _ _ ha).1
  split at h
  case h_2 => cases h
  rename_i elem hdd
  rw [hdd] at hund
  simp only [Option.bind_eq_some_iff] at h
  obtain ⟨e, he, h⟩ := h
  have hszo := run_szo hE w he
  split at h
  · simp only [VR] at hd
    subst hd
    simp only [Option.bind_eq_some_iff, Option.some.injEq, Prod.mk.injEq] at h
    obtain ⟨⟨m, vs⟩, hsrc, rfl, rfl⟩ := h
    obtain ⟨us, s1, s2, s3, s4, s5⟩ := src_sound (P := P) R hsrc hx
    refine ⟨.int .i64 0, w, ?_, by simp only [VR], R, Ext.refl _ _ _⟩
    have := s5 0 (Nat.zero_le _) w rfl
    simp [Builtin.copy_, run_underlying hund, s4, hszo, this, goInt]
  · rename_i b g off len lo ex es
    simp only [VR] at hd
    obtain ⟨c, sz, cap, off', hm, rfl, q1, q2, q3, q4, q5⟩ := hd
    simp only [beq_dec] at h
    by_cases hes : es = e.size
    case neg => simp [hes] at h
    subst hes
    simp only [decide_true, cond_true, Option.bind_eq_some_iff] at h
    obtain ⟨⟨m, vs⟩, hsrc, h⟩ := h
    obtain ⟨us, s1, s2, s3, s4, s5⟩ := src_sound (P := P) R hsrc hx
    have hfc := s5 (min m len) (Nat.min_le_left _ _) w rfl
    by_cases h0 : min m len = 0
    · simp only [h0, decide_true, cond_true, Option.some.injEq, Prod.mk.injEq] at h
      obtain ⟨rfl, rfl⟩ := h
      refine ⟨.int .i64 0, w, ?_, by simp only [VR], R, Ext.refl _ _ _⟩
      rw [h0] at hfc
      have hmn : m.min len = 0 := h0
      simp [Builtin.copy_, run_underlying hund, s4, hszo, hmn, hfc, goInt, storeCells]
    · simp only [h0, decide_false, cond_false, Option.bind_eq_some_iff, Option.some.injEq, Prod.mk.injEq] at h
      obtain ⟨A1, h1, rfl, rfl⟩ := h
      obtain ⟨rfl, _⟩ := q4 (by omega)
      obtain ⟨w', w1, w2, w3⟩ := write_sound (P := P) R h1 (s1.take _) hm
      refine ⟨.int .i64 (min m len : Nat), w', ?_, by simp only [VR], w2, w3⟩
      have hmn : m.min len = min m len := rfl
      simp only [Builtin.copy_, List.getElem?_toArray, List.getElem?_cons_zero, List.getElem?_cons_succ, Sem.run_bind, run_underlying hund, Result.andThen_ok, s4, hszo, hmn, hfc, w1, Sem.run_pure, goInt]
  · cases h
include R in
theorem map_change {b : Nat} {es es' : List (AV × AV × Nat)} {clock clock' : Nat} (h : aMap A b = some (es, clock)) {c sz : Nat} (hm : μ b 0 = some (c, sz)) {ms ms' : Array MapEntry} (hw : w.heap[c]? = some (.map ms clock)) (hent : EntsR μ es' ms'.toList) :
    (setObj c (.map ms' clock')).run P w = .ok () { w with heap := w.heap.setIfInBounds c (.map ms' clock') } ∧ Rel (A.set b (.map es' clock')) μ { w with heap := w.heap.setIfInBounds c (.map ms' clock') } ∧
      Ext A (A.set b (.map es' clock')) μ μ w { w with heap := w.heap.setIfInBounds c (.map ms' clock') } := by
  have hget : A.get b = some (.map es clock) := by
    unfold aMap at h
    split at h
    · rename_i hg; cases h; exact hg
    · cases h
  have hb := AHeap.get_lt hget
  have hcl : c < w.heap.size := R.bound _ _ _ _ hm
  have hsame : ∀ k, k ≠ c → (w.heap.setIfInBounds c (.map ms' clock'))[k]? = w.heap[k]? := fun k hk => by
    rw [Array.getElem?_setIfInBounds_ne (Ne.symm hk)]
  refine ⟨by simp [setObj, Sem.run, hw], Rel.change R hb (MuLe.refl _) (fun _ _ _ => rfl) (by simp) (fun b' g' c' sz' hne hm' => hsame c' fun e => hne (R.inj _ _ _ _ _ _ _ (e ▸ hm') hm)) (fun g1 c1 sz1 hm1 => ?_),
    Ext.change hb (MuLe.refl _) (fun _ _ _ => rfl) (by simp) rfl rfl rfl ?_ (fun g1 c1 sz1 hm1 => .inl ⟨g1, hm1⟩) (fun c0 hc0 hf => hsame c0 fun e => ?_)⟩
  · refine ⟨by simp; exact R.bound _ _ _ _ hm1, fun b' g' sz' hne h => hne (R.inj _ _ _ _ _ _ _ h hm1), ?_⟩
    by_cases hc : c1 = c
    · subst hc
      have h0 : g1 = 0 := by
        obtain ⟨o, h1, h0, _⟩ := R.blk _ _ hget g1 c1 sz1 hm1
        exact h0
      exact ⟨.map ms' clock', by simp [hcl], h0, ms', rfl, hent⟩
    · -- another generation of a map: it can't be
      obtain ⟨o, h1, h0, _⟩ := R.blk _ _ hget g1 c1 sz1 hm1
      subst h0
      rw [hm] at hm1
      cases hm1
      exact absurd rfl hc
  · unfold aWr; rw [AHeap.get_set _ _ _ _ hb, if_pos rfl, hget]; exact id
  · have := hf b 0 sz (e ▸ hm) hb
    simp [aWr, hget] at this
theorem beq_ba {a b : ByteArray} (h : (a == b) = true) : a = b := by
  rw [beq_toListBytes, ByteArray.toList_eq, ByteArray.toList_eq] at h
  obtain ⟨⟨x⟩⟩ := a
  obtain ⟨⟨y⟩⟩ := b
  simp at h
  simp [h]
theorem sameBits_of {k k0 : AV} (h : aScalarEq k k0 = some true) {u u0 : Value} (hu : VR μ k u) (hu0 : VR μ k0 u0) (n : Nat) : Instr.sameBits n u0 u = true := by
  cases k <;> cases k0 <;> simp only [aScalarEq] at h <;> try (cases h; done)
  all_goals (simp only [VR] at hu hu0; subst hu; subst hu0)
  · simp at h; subst h; cases n <;> simp [Instr.sameBits]
  · split at h
    · rename_i hk; subst hk; simp at h; subst h; cases n <;> simp [Instr.sameBits]
    · cases h
  · simp only [Option.some.injEq] at h; have := beq_ba h; subst this; cases n <;> simp [Instr.sameBits] <;> exact h
theorem keyStays {k k0 : AV} (h : aScalarEq k k0 = some true) {u u0 : Value} (hu : VR μ k u) (hu0 : VR μ k0 u0) : (Instr.keyThatStays u0 u).run P w = .ok u w := by
  simp [Instr.keyThatStays, sameBits_of h hu hu0]
include hE in
theorem find_sound {kt : TypeId} {k : AV} (hk : aKeyOK E kt k = true) {uk : Value} (huk : VR μ k uk) {es : List (AV × AV × Nat)} {r : Option (Nat × AV × Nat)} (h : aFind k es 0 = some r) {ms : Array MapEntry} (hent : EntsR μ es ms.toList) :
    ∃ r', (Instr.findKey kt uk ms.toList).run P w = .ok r' w ∧ (r = none → r' = none) ∧ (∀ j v s, r = some (j, v, s) → ∃ y k0 m, r' = some (j, y) ∧ VR μ v y ∧ es[j]? = some (k0, v, s) ∧ aScalarEq k k0 = some true ∧ ms[j]? = some m ∧ EntR μ (k0, v, s) m) := by
  obtain ⟨ak, hak, hmd, hck⟩ := key_sound hE (w := w) hk huk
  obtain ⟨r', e1, e2, e3⟩ := findNow_sound huk hmd h hent
  refine ⟨r', ?_, e2, fun j v s hj => ?_⟩
  · simp only [Instr.findKey, Sem.run_bind, run_underlying (hE.ty _ _ hak).1, Result.andThen_ok, e1]
    rfl
  · obtain ⟨y, k0, a1, a2, _, a4, a5⟩ := e3 j v s hj
    simp only [Nat.sub_zero] at a4
    have hj' : j < ms.toList.length := by rw [hent.1]; exact (List.getElem?_eq_some_iff.1 a4).1
    have hm := hent.2 j _ _ a4 (List.getElem?_eq_getElem hj')
    exact ⟨y, k0, _, a1, a2, a4, a5, by simp, hm⟩
theorem ents_set {es : List (AV × AV × Nat)} {ms : Array MapEntry} (hent : EntsR μ es ms.toList) {i : Nat} {e' : AV × AV × Nat} {f : MapEntry → MapEntry} (hf : ∀ m, ms[i]? = some m → EntR μ e' (f m)) : EntsR μ (es.set i e') (ms.modify i f).toList := by
  refine ⟨by have := hent.1; simpa using this, fun j e m h1 h2 => ?_⟩
  simp only [Array.toList_modify] at h2
  rw [List.getElem?_modify, Option.map_eq_map, Option.map_eq_some_iff] at h2
  obtain ⟨m0, h3, h4⟩ := h2
  rw [List.getElem?_set] at h1
  by_cases hij : i = j
  · subst hij
    rw [if_pos rfl] at h1 h4
    split at h1
    · cases h1
      subst h4
      exact hf m0 (by simpa using h3)
    · cases h1
  · rw [if_neg hij] at h1 h4
    subst h4
    exact hent.2 j e m0 h1 h3
theorem ents_push {es : List (AV × AV × Nat)} {ms : Array MapEntry} (hent : EntsR μ es ms.toList) {e' : AV × AV × Nat} {m' : MapEntry} (h : EntR μ e' m') : EntsR μ (es ++ [e']) (ms.push m').toList := by
  refine ⟨by have := hent.1; simp at this ⊢; exact this, fun j e m h1 h2 => ?_⟩
  simp only [Array.toList_push] at h2
  have hl := hent.1
  rw [List.getElem?_append] at h1 h2
  rw [hl] at h2
  split at h1
  · rename_i hj; rw [if_pos hj] at h2; exact hent.2 j e m h1 h2
  · rename_i hj
    rw [if_neg hj] at h2
    cases hd : j - es.length with
    | zero => rw [hd] at h1 h2; simp at h1 h2; subst h1; subst h2; exact h
    | succ n => rw [hd] at h1; simp at h1
include hE R in
theorem mapUpdate_sound {t : TypeId} {m k v : AV} {A' : AHeap} (h : aMapUpdate E A t m k v = some A') {um uk uv : Value} (hm : VR μ m um) (hk : VR μ k uk) (hv : VR μ v uv) :
    ∃ w', (Instr.mapUpdate t um uk uv).run P w = .ok () w' ∧ Rel A' μ w' ∧ Ext A A' μ μ w w' := by
  simp only [aMapUpdate, Option.bind_eq_some_iff] at h
  obtain ⟨a, ha, h⟩ := h
  have hund := (hE.ty _ _ ha).1
  split at h
  case h_2 => cases h
  rename_i kt vt b hd
  rw [hd] at hund
  cases hok : aKeyOK E kt k with
  | false => simp [hok] at h
  | true =>
    simp only [hok, cond_true, Option.bind_eq_some_iff] at h
    obtain ⟨⟨es, clock⟩, h1, r, h2, h3⟩ := h
    simp only [VR] at hm
    obtain ⟨c, sz, hmu, rfl⟩ := hm
    obtain ⟨ms, hw, hent⟩ := map_sound R h1 hmu
    obtain ⟨_, _, _, hck⟩ := key_sound hE (w := w) hok hk
    obtain ⟨r', f1, f2, f3⟩ := find_sound hE (w := w) hok hk h2 hent
    cases r with
    | none =>
      rw [f2 rfl] at f1
      simp only [Option.some.injEq] at h3
      subst h3
      obtain ⟨s1, s2, s3⟩ := map_change (P := P) R h1 hmu hw (ents_push hent (e' := (k, v, clock)) (m' := { key := uk, val := uv, born := clock }) ⟨hk, hv, rfl⟩) (clock' := clock + 1)
      refine ⟨_, ?_, s2, s3⟩
      simp only [Instr.mapUpdate, Sem.run_bind, run_underlying hund, Result.andThen_ok, run_getObj_map hw, hck, f1]
      exact s1
    | some p =>
      obtain ⟨i, v0, s0⟩ := p
      obtain ⟨y, k0, mm, rfl, _, g2, g3, g4, g5⟩ := f3 i v0 s0 rfl
      simp only [Option.some.injEq] at h3
      subst h3
      obtain ⟨s1, s2, s3⟩ := map_change (P := P) R h1 hmu hw (clock' := clock) (ents_set hent (i := i) (e' := (k, v, s0)) (f := fun e => { e with key := uk, val := uv }) (fun m' hm' => by
        rw [g4] at hm'; cases hm'; exact ⟨hk, hv, g5.2.2⟩))
      refine ⟨_, ?_, s2, s3⟩
      simp only [Instr.mapUpdate, Sem.run_bind, run_underlying hund, Result.andThen_ok, run_getObj_map hw, hck, f1, g4, Option.map_some, Option.getD_some, keyStays g3 hk g5.1]
      exact s1
include hE R in
theorem mapEntry_sound {t : TypeId} {m k v : AV} {A' : AHeap} (h : aMapEntry E A t m k = some (v, A')) {um uk : Value} (hm : VR μ m um) (hk : VR μ k uk) :
    ∃ u w', (Instr.mapEntry t um uk).run P w = .ok u w' ∧ VR μ v u ∧ Rel A' μ w' ∧ Ext A A' μ μ w w' := by
  simp only [aMapEntry, Option.bind_eq_some_iff] at h
  obtain ⟨a, ha, h⟩ := h
  have hund := (hE.ty _ _ ha).1
  split at h
  case h_2 => cases h
  rename_i kt vt b hd
  rw [hd] at hund
  cases hok : aKeyOK E kt k with
  | false => simp [hok] at h
  | true =>
    simp only [hok, cond_true, Option.bind_eq_some_iff] at h
    obtain ⟨⟨es, clock⟩, h1, r, h2, h3⟩ := h
    simp only [VR] at hm
    obtain ⟨c, sz, hmu, rfl⟩ := hm
    obtain ⟨ms, hw, hent⟩ := map_sound R h1 hmu
    obtain ⟨_, _, _, hck⟩ := key_sound hE (w := w) hok hk
    obtain ⟨r', f1, f2, f3⟩ := find_sound hE (w := w) hok hk h2 hent
    cases r with
    | none =>
      rw [f2 rfl] at f1
      simp only [Option.bind_eq_some_iff, Option.some.injEq, Prod.mk.injEq] at h3
      obtain ⟨e, he, z, hz, rfl, rfl⟩ := h3
      obtain ⟨zv, z1, z2⟩ := zeroV_sound hE (w := w) he hz μ
      obtain ⟨s1, s2, s3⟩ := map_change (P := P) R h1 hmu hw (ents_push hent (e' := (k, z, clock)) (m' := { key := uk, val := zv, born := clock }) ⟨hk, z2, rfl⟩) (clock' := clock + 1)
      refine ⟨.tuple #[zv, goInt clock], _, ?_, ?_, s2, s3⟩
      · simp only [Instr.mapEntry, Sem.run_bind, run_underlying hund, Result.andThen_ok, run_getObj_map hw, hck, f1, z1, s1, Sem.run_pure]
      · simp only [VR, VRs]
        exact ⟨_, ⟨_, _, rfl, z2, _, _, rfl, rfl, rfl⟩, rfl⟩
    | some p =>
      obtain ⟨i, v0, s0⟩ := p
      obtain ⟨y, k0, mm, rfl, g1, g2, g3, g4, g5⟩ := f3 i v0 s0 rfl
      simp only [Option.some.injEq, Prod.mk.injEq] at h3
      obtain ⟨rfl, rfl⟩ := h3
      have hset : es.set i (k0, v0, s0) = es := by
        apply List.ext_getElem?
        intro j
        rw [List.getElem?_set]
        by_cases hij : i = j
        · subst hij; rw [if_pos rfl, g2]; have := (List.getElem?_eq_some_iff.1 g2).1; simp [this]
        · rw [if_neg hij]
      have hkk : VR μ k0 uk := by
        have : k = k0 := by
          cases k <;> cases k0 <;> simp only [aScalarEq] at g3 <;> try (cases g3; done)
          · simp at g3; rw [g3]
          · split at g3
            · rename_i hh; subst hh; simp at g3; rw [g3]
            · cases g3
          · simp only [Option.some.injEq] at g3; rw [beq_ba g3]
        rw [← this]; exact hk
      have he := ents_set hent (i := i) (e' := (k0, v0, s0)) (f := fun e => { e with key := uk }) (fun m' hm' => by rw [g4] at hm'; cases hm'; exact ⟨hkk, g5.2.1, g5.2.2⟩)
      rw [hset] at he
      obtain ⟨s1, s2, s3⟩ := map_change (P := P) R h1 hmu hw (clock' := clock) he
      refine ⟨.tuple #[y, goInt s0], _, ?_, ?_, s2, s3⟩
      · have hb : mm.born = s0 := g5.2.2
        simp only [Instr.mapEntry, Sem.run_bind, run_underlying hund, Result.andThen_ok, run_getObj_map hw, hck, f1, g4, Option.map_some, Option.getD_some, keyStays g3 hk g5.1, s1, Sem.run_pure, hb]
      · simp only [VR, VRs]
        exact ⟨_, ⟨_, _, rfl, g1, _, _, rfl, rfl, rfl⟩, rfl⟩
include hE R in
theorem clear_sound {t : TypeId} {x : AV} {A' : AHeap} (h : aClear E A t x = some A') {u : Value} (hu : VR μ x u) (ts : List TypeId) (ty : TypeId) :
    ∃ w', (Builtin.clear_ (t :: ts).toArray ty #[u]).run P w = .ok (.tuple #[]) w' ∧ Rel A' μ w' ∧ Ext A A' μ μ w w' := by
  unfold aClear at h
  split at h
  · simp only [Option.bind_eq_some_iff, Option.some.injEq] at h
    obtain ⟨a, ha, rfl⟩ := h
    simp only [VR] at hu; subst hu
    refine ⟨w, ?_, R, Ext.refl _ _ _⟩
    simp only [Builtin.clear_, List.getElem?_toArray, List.getElem?_cons_zero, Sem.run_bind, run_und hE w ha, Result.andThen_ok]
    cases a.desc <;> rfl
  · rename_i b g off len lo ex es
    simp only [VR] at hu
    obtain ⟨c, sz, cap, off', hm, rfl, q1, q2, q3, q4, q5⟩ := hu
    simp only [beq_dec] at h
    by_cases hl : len = 0
    · subst hl
      simp only [decide_true, cond_true, Option.bind_eq_some_iff, Option.some.injEq] at h
      obtain ⟨a, ha, rfl⟩ := h
      refine ⟨w, ?_, R, Ext.refl _ _ _⟩
      simp only [Builtin.clear_, List.getElem?_toArray, List.getElem?_cons_zero, Sem.run_bind, run_und hE w ha, Result.andThen_ok]
      cases a.desc <;> rfl
    · simp only [hl, decide_false, cond_false, Option.bind_eq_some_iff] at h
      obtain ⟨a, ha, h⟩ := h
      have hund := (hE.ty _ _ ha).1
      split at h
      case h_2 => cases h
      rename_i elem hd
      rw [hd] at hund
      simp only [Option.bind_eq_some_iff] at h
      obtain ⟨e, he, z, hz, h⟩ := h
      by_cases hc : (e.size = es ∧ z.length = es) ∧ z.all AV.one = true
      case neg =>
        exfalso
        have : (decide (e.size = es) && decide (z.length = es) && z.all AV.one) = false := by
          cases hza : z.all AV.one with
          | false => simp
          | true => simp only [and_dec, Bool.and_true, decide_eq_false_iff_not]; intro hx; exact hc ⟨hx, hza⟩
        rw [this] at h; cases h
      obtain ⟨⟨hc1, hc2⟩, hc3⟩ := hc
      simp only [hc1, hc2, hc3, decide_true, Bool.and_self, cond_true] at h
      obtain ⟨rfl, _⟩ := q4 (by omega)
      obtain ⟨zv, z1, z2, _⟩ := run_zero hE w he hz μ
      have hzs : zv.cells.size = es := by have := z2.length; simp at this; omega
      have hzz := zeros_VRs z2 len (len * es) (by rw [hc2])
      obtain ⟨w', w1, w2, w3⟩ := write_sound (P := P) R h hzz hm
      refine ⟨w', ?_, w2, w3⟩
      have hzc : Builtin.zeroCells zv.cells len = (Array.range (len * es)).map (zv.cells[· % zv.cells.size]!) := by simp [Builtin.zeroCells, hzs]
      obtain ⟨len', rfl⟩ : ∃ l, len = l + 1 := ⟨len - 1, by omega⟩
      simp only [Builtin.clear_, List.getElem?_toArray, List.getElem?_cons_zero, Sem.run_bind, run_underlying hund, Result.andThen_ok, z1, hzc, w1, Sem.run_pure]
  · cases h
theorem ents_erase {es : List (AV × AV × Nat)} {ms : Array MapEntry} (hent : EntsR μ es ms.toList) (i : Nat) : EntsR μ (es.eraseIdx i) (ms.eraseIdxIfInBounds i).toList := by
  have hl := hent.1
  have e : (ms.eraseIdxIfInBounds i).toList = ms.toList.eraseIdx i := by
    unfold Array.eraseIdxIfInBounds
    split
    · simp
    · rename_i h
      rw [List.eraseIdx_of_length_le (by simp; omega)]
  rw [e]
  refine ⟨by simp only [List.length_eraseIdx, hl], fun j x m h1 h2 => ?_⟩
  rw [List.getElem?_eraseIdx] at h1 h2
  split at h1
  · rename_i hj; rw [if_pos hj] at h2; exact hent.2 _ _ _ h1 h2
  · rename_i hj; rw [if_neg hj] at h2; exact hent.2 _ _ _ h1 h2
include hE R in
theorem delete_sound {t : TypeId} {m k : AV} {A' : AHeap} (h : aDelete E A t m k = some A') {um uk : Value} (hm : VR μ m um) (hk : VR μ k uk) (ts : List TypeId) (ty : TypeId) :
    ∃ w', (Builtin.delete_ (t :: ts).toArray ty #[um, uk]).run P w = .ok (.tuple #[]) w' ∧ Rel A' μ w' ∧ Ext A A' μ μ w w' := by
  simp only [aDelete, Option.bind_eq_some_iff] at h
  obtain ⟨a, ha, h⟩ := h
  have hund := (hE.ty _ _ ha).1
  split at h
  case h_2 => cases h
  rename_i kt vt hd
  rw [hd] at hund
  cases hok : aKeyOK E kt k with
  | false => simp [hok] at h
  | true =>
    simp only [hok, cond_true] at h
    obtain ⟨_, _, _, hck⟩ := key_sound hE (w := w) hok hk
    split at h
    · simp only [Option.some.injEq] at h
      subst h
      simp only [VR] at hm; subst hm
      refine ⟨w, ?_, R, Ext.refl _ _ _⟩
      simp only [Builtin.delete_, List.getElem?_toArray, List.getElem?_cons_zero, List.getElem?_cons_succ, Sem.run_bind, run_underlying hund, Result.andThen_ok, hck, Sem.run_pure]
    · rename_i b
      simp only [Option.bind_eq_some_iff] at h
      obtain ⟨⟨es, clock⟩, h1, r, h2, h3⟩ := h
      simp only [VR] at hm
      obtain ⟨c, sz, hmu, rfl⟩ := hm
      obtain ⟨ms, hw, hent⟩ := map_sound R h1 hmu
      obtain ⟨r', f1, f2, f3⟩ := find_sound hE (w := w) hok hk h2 hent
      cases r with
      | none =>
        rw [f2 rfl] at f1
        simp only [Option.some.injEq] at h3
        subst h3
        obtain ⟨s1, s2, s3⟩ := map_change (P := P) R h1 hmu hw hent (clock' := clock)
        refine ⟨_, ?_, s2, s3⟩
        simp only [Builtin.delete_, List.getElem?_toArray, List.getElem?_cons_zero, List.getElem?_cons_succ, Sem.run_bind, run_underlying hund, Result.andThen_ok, run_getObj_map hw, hck, f1, s1, Sem.run_pure]
      | some p =>
        obtain ⟨i, v0, s0⟩ := p
        obtain ⟨y, k0, mm, rfl, g1, g2, g3, g4, g5⟩ := f3 i v0 s0 rfl
        simp only [Option.some.injEq] at h3
        subst h3
        obtain ⟨s1, s2, s3⟩ := map_change (P := P) R h1 hmu hw (ents_erase hent i) (clock' := clock)
        refine ⟨_, ?_, s2, s3⟩
        simp only [Builtin.delete_, List.getElem?_toArray, List.getElem?_cons_zero, List.getElem?_cons_succ, Sem.run_bind, run_underlying hund, Result.andThen_ok, run_getObj_map hw, hck, f1, s1, Sem.run_pure]
    · cases h

/-! ### Ranges over maps -/
theorem EntsR.tail {μ : Mu} {e : AV × AV × Nat} {es : List (AV × AV × Nat)} {m : MapEntry} {ms : List MapEntry} (h : EntsR μ (e :: es) (m :: ms)) : EntR μ e m ∧ EntsR μ es ms :=
  ⟨h.2 0 e m (by simp) (by simp), by simpa using h.1, fun i e' m' h1 h2 => h.2 (i + 1) e' m' (by simpa using h1) (by simpa using h2)⟩
theorem EntsR.cons {μ : Mu} {e : AV × AV × Nat} {es : List (AV × AV × Nat)} {m : MapEntry} {ms : List MapEntry} (h : EntR μ e m) (k : EntsR μ es ms) : EntsR μ (e :: es) (m :: ms) := by
  refine ⟨by simp [k.1], fun i e' m' h1 h2 => ?_⟩
  cases i with
  | zero => simp at h1 h2; subst h1; subst h2; exact h
  | succ i => exact k.2 i e' m' (by simpa using h1) (by simpa using h2)
theorem EntsR.nil {μ : Mu} : EntsR μ [] [] := ⟨rfl, fun i e m h _ => by simp at h⟩
theorem EntsR.filt {μ : Mu} (p : Nat → Bool) : ∀ {es : List (AV × AV × Nat)} {ms : List MapEntry}, EntsR μ es ms → EntsR μ (es.filter fun e => p e.2.2) (ms.filter fun m => p m.born)
  | [], [], _ => EntsR.nil
  | [], m :: ms, h => by have := h.1; simp at this
  | e :: es, [], h => by have := h.1; simp at this
  | e :: es, m :: ms, h => by
    obtain ⟨h1, h2⟩ := h.tail
    have hb : m.born = e.2.2 := h1.2.2
    simp only [List.filter_cons, hb]
    cases p e.2.2 with
    | true => simp only [if_true]; exact EntsR.cons h1 (EntsR.filt p h2)
    | false => simpa using EntsR.filt p h2
theorem EntsR.all {μ : Mu} (p : Nat → Bool) : ∀ {es : List (AV × AV × Nat)} {ms : List MapEntry}, EntsR μ es ms → (ms.all fun m => p m.born) = es.all fun e => p e.2.2
  | [], [], _ => rfl
  | [], m :: ms, h => by have := h.1; simp at this
  | e :: es, [], h => by have := h.1; simp at this
  | e :: es, m :: ms, h => by
    obtain ⟨h1, h2⟩ := h.tail
    have hb : m.born = e.2.2 := h1.2.2
    simp only [List.all_cons, hb, EntsR.all p h2]
include R in
theorem iter_sound {b : Nat} {m : Option Nat} {since : Nat} {seen : List Nat} {last : Nat} (h : aIter A b = some (m, since, seen, last)) {c sz : Nat} (hm : μ b 0 = some (c, sz)) :
    (m = none → w.heap[c]? = some (.mapIter none since seen.toArray last)) ∧ ∀ b', m = some b' → ∃ c' sz', μ b' 0 = some (c', sz') ∧ w.heap[c]? = some (.mapIter (some c') since seen.toArray last) := by
  unfold aIter at h
  split at h
  case h_2 => cases h
  rename_i m' s' l' t' hg
  simp only [Option.some.injEq, Prod.mk.injEq] at h
  obtain ⟨rfl, rfl, rfl, rfl⟩ := h
  obtain ⟨o, h1, h2⟩ := R.blk b _ hg 0 c sz hm
  cases m' with
  | none => obtain ⟨_, rfl⟩ := h2; exact ⟨fun _ => h1, fun b' hb' => by cases hb'⟩
  | some b1 => obtain ⟨_, c', sz', h3, rfl⟩ := h2; exact ⟨fun hb' => (by cases hb'), fun b' hb' => by cases hb'; exact ⟨c', sz', h3, h1⟩⟩
theorem run_getObj {c : Nat} {m : Option Nat} {s : Nat} {l : Array Nat} {t : Nat} (h : w.heap[c]? = some (.mapIter m s l t)) : (getObj c).run P w = .ok (.mapIter m s l t) w := by simp [getObj, Sem.run, h]
include hE R in
theorem range_sound {t : TypeId} {x v : AV} {A' : AHeap} (h : aRange E A t x = some (v, A')) (hfr : ∀ b g, A.n ≤ b → b < A'.n → μ b g = none) {u : Value} (hu : VR μ x u) :
    ∃ y w' μ', (Instr.range t u).run P w = .ok y w' ∧ VR μ' v y ∧ Rel A' μ' w' ∧ Ext A A' μ μ' w w' := by
  simp only [aRange, Option.bind_eq_some_iff] at h
  obtain ⟨a, ha, h⟩ := h
  have hund := (hE.ty _ _ ha).1
  split at h
  case h_2 => cases h
  rename_i kt et hd
  rw [hd] at hund
  split at h
  · simp only [Option.some.injEq, Prod.mk.injEq] at h
    obtain ⟨rfl, rfl⟩ := h
    have hn : ∀ g, μ A.n g = none := fun g => hfr _ g (Nat.le_refl _) (by simp)
    simp only [VR] at hu
    subst hu
    have hB : BlkR μ (.iter none 0 [] 0) 0 (objSize (.mapIter none 0 #[] 0)) (.mapIter none 0 #[] 0) := ⟨rfl, rfl⟩
    refine ⟨.pointer (some ⟨w.heap.size, 0, none⟩), w.alloc (.mapIter none 0 #[] 0), _, ?_, ?_, Rel.push R hn hB, Ext.push hn⟩
    · simp [Instr.range, run_underlying hund]
    · simp only [VR]; exact ⟨_, _, upd_same _ _ _ _, rfl⟩
  · rename_i b
    simp only [Option.bind_eq_some_iff, Option.some.injEq, Prod.mk.injEq] at h
    obtain ⟨⟨es, clock⟩, h1, rfl, rfl⟩ := h
    have hn : ∀ g, μ A.n g = none := fun g => hfr _ g (Nat.le_refl _) (by simp)
    simp only [VR] at hu
    obtain ⟨c, sz, hmu, rfl⟩ := hu
    obtain ⟨ms, hw, hent⟩ := map_sound R h1 hmu
    have hB : BlkR μ (.iter (some b) clock [] clock) 0 (objSize (.mapIter (some c) clock #[] clock)) (.mapIter (some c) clock #[] clock) := ⟨rfl, c, sz, hmu, rfl⟩
    refine ⟨.pointer (some ⟨w.heap.size, 0, none⟩), w.alloc (.mapIter (some c) clock #[] clock), _, ?_, ?_, Rel.push R hn hB, Ext.push hn⟩
    · simp [Instr.range, run_underlying hund, run_getObj_map hw]
    · simp only [VR]; exact ⟨_, _, upd_same _ _ _ _, rfl⟩
  · cases h
include R in
theorem iter_change {b : Nat} {m0 : Option Nat} {s0 : Nat} {l0 : List Nat} {t0 : Nat} (h : aIter A b = some (m0, s0, l0, t0)) {c sz : Nat} (hm : μ b 0 = some (c, sz)) {m c' sz' since : Nat} {seen : List Nat} {last : Nat} (hm' : μ m 0 = some (c', sz')) {m1 : Option Nat} {s1 : Nat} {l1 : Array Nat} {t1 : Nat} (hw : w.heap[c]? = some (.mapIter m1 s1 l1 t1)) :
    (setObj c (.mapIter (some c') since seen.toArray last)).run P w = .ok () { w with heap := w.heap.setIfInBounds c (.mapIter (some c') since seen.toArray last) } ∧
      Rel (A.set b (.iter (some m) since seen last)) μ { w with heap := w.heap.setIfInBounds c (.mapIter (some c') since seen.toArray last) } ∧
      Ext A (A.set b (.iter (some m) since seen last)) μ μ w { w with heap := w.heap.setIfInBounds c (.mapIter (some c') since seen.toArray last) } := by
  have hget : A.get b = some (.iter m0 s0 l0 t0) := by
    unfold aIter at h
    split at h
    · rename_i hg; cases h; exact hg
    · cases h
  have hb := AHeap.get_lt hget
  have hcl : c < w.heap.size := R.bound _ _ _ _ hm
  have h0 : ∀ g1 c1 sz1, μ b g1 = some (c1, sz1) → g1 = 0 := fun g1 c1 sz1 hm1 => by
    obtain ⟨o, h1, h2⟩ := R.blk _ _ hget g1 c1 sz1 hm1
    cases m0 with
    | none => exact h2.1
    | some b1 => exact h2.1
  have hsame : ∀ k, k ≠ c → (w.heap.setIfInBounds c (.mapIter (some c') since seen.toArray last))[k]? = w.heap[k]? := fun k hk => by
    rw [Array.getElem?_setIfInBounds_ne (Ne.symm hk)]
  refine ⟨by simp [setObj, Sem.run, hw], Rel.change R hb (MuLe.refl _) (fun _ _ _ => rfl) (by simp) (fun b' g' c' sz' hne hm' => hsame c' fun e => hne (R.inj _ _ _ _ _ _ _ (e ▸ hm') hm)) (fun g1 c1 sz1 hm1 => ?_),
    Ext.change hb (MuLe.refl _) (fun _ _ _ => rfl) (by simp) rfl rfl rfl ?_ (fun g1 c1 sz1 hm1 => .inl ⟨g1, hm1⟩) (fun c0 hc0 hf => hsame c0 fun e => ?_)⟩
  · refine ⟨by simp; exact R.bound _ _ _ _ hm1, fun b' g' sz' hne h => hne (R.inj _ _ _ _ _ _ _ h hm1), ?_⟩
    have := h0 _ _ _ hm1
    subst this
    rw [hm] at hm1
    cases hm1
    exact ⟨.mapIter (some c') since seen.toArray last, by simp [hcl], rfl, c', sz', hm', rfl⟩
  · unfold aWr
    rw [hget]
    intro h0
    cases h0
  · have := hf b 0 sz (e ▸ hm) hb
    simp [aWr, hget] at this
theorem run_mapNext1 : (choose (.mapNext 1)).run P w = .ok 0 w := rfl
include R in
theorem next_sound {x v : AV} {A' : AHeap} (h : aNext A x = some (v, A')) {u : Value} (hu : VR μ x u) (ty : TypeId) :
    ∃ y w', (Instr.next u false ty).run P w = .ok y w' ∧ VR μ v y ∧ Rel A' μ w' ∧ Ext A A' μ μ w w' := by
  unfold aNext at h
  split at h
  case h_2 => cases h
  rename_i b
  simp only [Option.bind_eq_some_iff] at h
  obtain ⟨⟨m, since, seen, last⟩, h1, h⟩ := h
  simp only [VR] at hu
  obtain ⟨c, sz, hmu, rfl⟩ := hu
  obtain ⟨i1, i2⟩ := iter_sound R h1 hmu
  cases m with
  | none =>
    simp only [Option.some.injEq, Prod.mk.injEq] at h
    obtain ⟨rfl, rfl⟩ := h
    refine ⟨.tuple #[.bool false], w, ?_, ?_, R, Ext.refl _ _ _⟩
    · simp [Instr.next, run_getObj (i1 rfl)]
    · simp only [VR, VRs]; exact ⟨[.bool false], ⟨_, _, rfl, rfl, rfl⟩, rfl⟩
  | some m =>
    simp only [Option.bind_eq_some_iff] at h
    obtain ⟨⟨es, clock⟩, h2, h⟩ := h
    obtain ⟨c', sz', hmu', hwi⟩ := i2 m rfl
    obtain ⟨ms, hwm, hent⟩ := map_sound R h2 hmu'
    simp only [aNextM] at h
    cases hg : (!seen.isEmpty && !es.isEmpty && es.all fun e => decide (e.2.2 ≥ last)) with
    | true => rw [hg] at h; cases h
    | false =>
    rw [hg] at h
    simp only [cond_false] at h
    obtain ⟨L⟩ := ms
    simp only at hent
    have hemp : (Array.mk L).isEmpty = es.isEmpty := by
      have := hent.1
      cases L <;> cases es <;> simp_all
    have hsm : seen.toArray.isEmpty = seen.isEmpty := by cases seen <;> simp
    have hal : ((Array.mk L).all fun m => decide (m.born ≥ last)) = es.all fun e => decide (e.2.2 ≥ last) := by
      rw [← EntsR.all (fun n => decide (n ≥ last)) hent]
      simp
    have hfil := EntsR.filt (fun n => !seen.elem n) hent
    have hleft : ((Array.mk L).filter fun m => !seen.toArray.contains m.born) = (L.filter fun m => !seen.elem m.born).toArray := by
      simp [List.elem_eq_contains]
    have hrun : ∀ (left : Array MapEntry), ((Array.mk L).filter fun m => !seen.toArray.contains m.born) = left →
        (Instr.next (.pointer (some ⟨c, 0, none⟩)) false ty).run P w =
          ((do
            let candidates := (if (left.filter (·.born < since)).isEmpty then #[none] else #[]) ++ ((left.filter (·.born < since)) ++ (left.filter (·.born ≥ since))).map some
            match candidates[← choose (.mapNext candidates.size)]? with
            | some (some e) => do
              setObj c (.mapIter (some c') since (seen.toArray.push e.born) clock)
              pure (.tuple #[.bool true, e.key, e.val])
            | some none => pure (.tuple #[.bool false])
            | none => stuck "Next: no such candidate") : Sem Value).run P w := by
      intro left hl
      subst hl
      simp only [Instr.next, Sem.run_bind, run_getObj hwi, Result.andThen_ok, run_getObj_map hwm, hsm, hemp, hal, hg]
      rw [if_neg Bool.false_ne_true]
      simp only [Sem.run_bind]
      try rfl
    rw [hrun _ hleft]
    generalize hE1 : (es.filter fun e => !seen.elem e.2.2) = ef at h hfil
    generalize (L.filter fun m => !seen.elem m.born) = lf at hfil ⊢
    match ef, lf, hfil with
    | [], [], _ =>
      simp only [Option.some.injEq, Prod.mk.injEq] at h
      obtain ⟨rfl, rfl⟩ := h
      refine ⟨.tuple #[.bool false], w, ?_, ?_, R, Ext.refl _ _ _⟩
      · have c1 : (([] : List MapEntry).toArray.filter fun x => decide (x.born < since)) = #[] := by simp
        have c2 : (([] : List MapEntry).toArray.filter fun x => decide (x.born ≥ since)) = #[] := by simp
        rw [c1, c2]
        have c3 : ((if (#[] : Array MapEntry).isEmpty = true then #[none] else #[]) ++ Array.map some ((#[] : Array MapEntry) ++ #[])) = #[none] := by simp
        simp only [Sem.run_bind]
        rw [c3]
        show ((choose (.mapNext 1)).run P w).andThen _ = _
        rw [run_mapNext1]
        rfl
      · simp only [VR, VRs]; exact ⟨[.bool false], ⟨_, _, rfl, rfl, rfl⟩, rfl⟩
    | [], m1 :: ms1, hf => have := hf.1; simp at this
    | e1 :: es1, [], hf => have := hf.1; simp at this
    | [e1], m1 :: m2 :: ms1, hf => have := hf.1; simp at this
    | e1 :: e2 :: es1, _, hf => cases h
    | [e1], [m1], hf =>
      simp only [blt_dec] at h
      by_cases hb : e1.2.2 < since
      · simp only [hb, decide_true, cond_true, Option.some.injEq, Prod.mk.injEq] at h
        obtain ⟨rfl, rfl⟩ := h
        obtain ⟨⟨k1, k2, k3⟩, _⟩ := hf.tail
        have hb' : m1.born < since := by rw [k3]; exact hb
        obtain ⟨s1, s2, s3⟩ := iter_change (P := P) R h1 hmu hmu' hwi (since := since) (seen := seen ++ [e1.2.2]) (last := clock)
        have hpush : seen.toArray.push m1.born = (seen ++ [e1.2.2]).toArray := by rw [k3]; simp
        refine ⟨.tuple #[.bool true, m1.key, m1.val], _, ?_, ?_, s2, s3⟩
        · have c1 : ([m1].toArray.filter fun x => decide (x.born < since)) = #[m1] := by simp [hb']
          have c2 : ([m1].toArray.filter fun x => decide (x.born ≥ since)) = #[] := by simp; omega
          rw [c1, c2]
          simp only [Sem.run_bind]
          have c3 : ((if (#[m1] : Array MapEntry).isEmpty = true then #[none] else #[]) ++ Array.map some (#[m1] ++ #[])) = #[some m1] := by simp
          rw [c3]
          show ((choose (.mapNext 1)).run P w).andThen _ = _
          rw [run_mapNext1]
          simp only [Result.andThen_ok]
          have c4 : (#[some m1] : Array (Option MapEntry))[0]? = some (some m1) := rfl
          rw [c4]
          simp only []
          rw [hpush]
          simp only [Sem.run_bind, s1, Result.andThen_ok, Sem.run_pure]
        · simp only [VR, VRs]; exact ⟨[.bool true, m1.key, m1.val], ⟨_, _, rfl, rfl, _, _, rfl, k1, _, _, rfl, k2, rfl⟩, rfl⟩
      · simp [hb] at h

theorem EntsR.find {μ : Mu} (k : Nat) : ∀ {es : List (AV × AV × Nat)} {ms : List MapEntry}, EntsR μ es ms → ∀ e, es.find? (fun e => Nat.beq e.2.2 k) = some e → ∃ m, ms.find? (fun m => m.born == k) = some m ∧ EntR μ e m
  | [], _, _, e, h => by simp at h
  | e1 :: es, [], h, _, _ => by have := h.1; simp at this
  | e1 :: es, m1 :: ms, h, e, he => by
    obtain ⟨h1, h2⟩ := h.tail
    have hb : m1.born = e1.2.2 := h1.2.2
    simp only [List.find?_cons] at he ⊢
    rw [hb]
    by_cases hk : e1.2.2 = k
    · have q1 : Nat.beq e1.2.2 k = true := by simp [hk]
      have q2 : (e1.2.2 == k) = true := by simp [hk]
      rw [q1] at he
      rw [q2]
      simp only [Option.some.injEq] at he ⊢
      subst he
      exact ⟨m1, rfl, h1⟩
    · have q1 : Nat.beq e1.2.2 k = false := by rw [beq_dec]; simp [hk]
      have q2 : (e1.2.2 == k) = false := by simp [hk]
      rw [q1] at he
      rw [q2]
      exact EntsR.find k h2 e he
include R in
theorem entry_sound {x v : AV} {A' : AHeap} (h : aEntry A x = some (v, A')) {u : Value} (hu : VR μ x u) :
    ∃ y, (Instr.entry u).run P w = .ok y w ∧ VR μ v y ∧ A' = A := by
  unfold aEntry at h
  split at h
  case h_2 => cases h
  rename_i b
  simp only [Option.bind_eq_some_iff] at h
  obtain ⟨⟨m, since, seen, stepped⟩, h1, h⟩ := h
  simp only [VR] at hu
  obtain ⟨c, sz, hmu, rfl⟩ := hu
  obtain ⟨_, i2⟩ := iter_sound R h1 hmu
  cases m with
  | none => cases h
  | some m =>
    simp only [Option.bind_eq_some_iff] at h
    obtain ⟨stamp, h2, ⟨es, clock⟩, h3, h⟩ := h
    obtain ⟨c', sz', hmu', hwi⟩ := i2 m rfl
    obtain ⟨ms, hwm, hent⟩ := map_sound R h3 hmu'
    cases hc : Nat.beq clock stepped with
    | false => simp only [hc, cond_false] at h; cases h
    | true =>
    simp only [hc, cond_true, Option.bind_eq_some_iff, Option.some.injEq, Prod.mk.injEq] at h
    obtain ⟨e, h4, rfl, rfl⟩ := h
    have hcs : clock = stepped := Nat.eq_of_beq_eq_true hc
    subst hcs
    obtain ⟨m1, k1, k2, k3, _⟩ := EntsR.find stamp hent e h4
    have hback : seen.toArray.back? = some stamp := by simpa using h2
    have hfind : ms.find? (fun m => m.born == stamp) = some m1 := by
      obtain ⟨L⟩ := ms
      simpa using k1
    refine ⟨.tuple #[m1.key, m1.val], ?_, ?_, rfl⟩
    · simp [Instr.entry, run_getObj hwi, run_getObj_map hwm, hback, hfind]
    · simp only [VR, VRs]; exact ⟨[m1.key, m1.val], ⟨_, _, rfl, k2, _, _, rfl, k3, rfl⟩, rfl⟩

/-- EVERY OPERATION THAT WRITES, calls apart. -/
def Left (μ : Mu) (v : AV) (nx : Next) : Prop := (∃ u, nx = .value u ∧ VR μ v u) ∨ (nx = .skip ∧ v = .undef)
include hE R in
theorem mark_sound {s d : TypeId} {x v : AV} {A' : AHeap} (h : aMark E A s d x = some (v, A')) {u : Value} (h1 : VR μ x u) :
    ∃ y w', (convert s d u).run P w = .ok y w' ∧ VR μ v y ∧ Rel A' μ w' ∧ Ext A A' μ μ w w' := by
  unfold aMark at h
  split at h
  · rename_i b g off len lo ex es
    cases hsd : Nat.beq s d with
    | false => simp [hsd] at h
    | true =>
      have hsd' : s = d := by simpa using hsd
      subst hsd'
      simp only [hsd, cond_true, Option.bind_eq_some_iff] at h
      obtain ⟨a, ha, h⟩ := h
      split at h
      case h_2 => cases h
      rename_i e hd
      simp only [Option.bind_eq_some_iff] at h
      obtain ⟨ae, hae, h⟩ := h
      split at h
      case h_2 => cases h
      rename_i hde
      simp only [Option.bind_eq_some_iff] at h
      obtain ⟨⟨wr, gen, cells⟩, hrow, h⟩ := h
      cases wr with
      | false => simp at h
      | true =>
      simp only [cond_true, Option.some.injEq, Prod.mk.injEq] at h
      obtain ⟨rfl, rfl⟩ := h
      have hx := h1
      simp only [VR] at h1
      obtain ⟨c, sz, cap, off', hm, rfl, _⟩ := h1
      obtain ⟨cs, el, fr, hw, hs, hfr, hg, hl, hc⟩ := Rel.row R hrow hm
      have hget : A.get b = some (.row true gen cells) := by
        unfold aRow at hrow
        split at hrow
        · rename_i hg'; simp only [Option.some.injEq, Prod.mk.injEq] at hrow; obtain ⟨rfl, rfl, rfl⟩ := hrow; exact hg'
        · cases hrow
      have hb := AHeap.get_lt hget
      have hcl : c < w.heap.size := R.bound _ _ _ _ hm
      have e1 := (hE.ty _ _ ha).1
      have e2 := (hE.ty _ _ hae).1
      have hrun : (convert s s (.slice (some ⟨c, off', none⟩) len cap)).run P w = .ok (.slice (some ⟨c, off', none⟩) len cap) (w.freeze ⟨c, cs.size, none⟩ 1) := by
        simp only [convert, Sem.run_bind, run_underlying e1, Result.andThen_ok, hd]
        simp [run_underlying e2, hde, markStringish, shape, freeze, Sem.run, World.shape?, hw]
      have hfz : ∃ fr', (w.freeze ⟨c, cs.size, none⟩ 1).heap[c]? = some (.cells cs el fr') := by
        obtain ⟨f1, f2⟩ := fr
        refine ⟨if f1 == f2 then (cs.size, cs.size + 1) else (min f1 cs.size, max f2 (cs.size + 1)), ?_⟩
        simp only [World.freeze, Nat.one_ne_zero, if_false]
        rw [Array.getElem?_modify]
        simp only [if_true, hw, Option.map_some]
      have hother : ∀ k, k ≠ c → (w.freeze ⟨c, cs.size, none⟩ 1).heap[k]? = w.heap[k]? := fun k hk => by
        simp only [World.freeze, Nat.one_ne_zero, if_false]
        rw [Array.getElem?_modify]
        simp [Ne.symm hk]
      have hsize : (w.freeze ⟨c, cs.size, none⟩ 1).heap.size = w.heap.size := by simp [World.freeze]
      refine ⟨_, _, hrun, hx, Rel.change R hb (MuLe.refl _) (fun _ _ _ => rfl) (by rw [hsize]; exact Nat.le_refl _) (fun b' g' c' sz' hne hm' => hother c' fun e => hne (R.inj _ _ _ _ _ _ _ (e ▸ hm') hm)) (fun g1 c1 sz1 hm1 => ?_),
        Ext.change hb (MuLe.refl _) (fun _ _ _ => rfl) (by rw [hsize]; exact Nat.le_refl _) rfl rfl rfl ?_ (fun g1 c1 sz1 hm1 => .inl ⟨g1, hm1⟩) (fun c0 hc0 hf => hother c0 fun e => ?_)⟩
      · refine ⟨by rw [hsize]; exact R.bound _ _ _ _ hm1, fun b' g' sz' hne h => hne (R.inj _ _ _ _ _ _ _ h hm1), ?_⟩
        obtain ⟨cs1, el1, fr1, hw1, hs1, hfr1, hg1, hl1, hc1⟩ := Rel.row R hrow hm1
        by_cases hcc : c1 = c
        · subst hcc
          obtain ⟨fr', hf'⟩ := hfz
          rw [hw] at hw1
          cases hw1
          exact ⟨_, hf', cs, el, fr', rfl, hs1, (fun h => by cases h), hg1, hl1, hc1⟩
        · exact ⟨_, by rw [hother c1 hcc]; exact hw1, cs1, el1, fr1, rfl, hs1, (fun h => by cases h), hg1, hl1, hc1⟩
      · unfold aWr
        rw [hget]
        intro h0
        cases h0
      · have := hf b g sz (e ▸ hm) hb
        simp [aWr, hget] at this
  · simp only [Option.bind_eq_some_iff, Option.some.injEq, Prod.mk.injEq] at h
    obtain ⟨v', h2, rfl, rfl⟩ := h
    obtain ⟨y, e1, e2⟩ := convert_sound hE (w := w) h2 h1
    exact ⟨y, w, e1, e2, R, Ext.refl _ _ _⟩
include hE R in
theorem eff_sound (hJ : Val.J μ w) {o : Oper} {ts : Ts} {v : AV} {A' : AHeap} (h : aEff E ts A o.op = some (.val v A')) {a : Act} (T : TR μ ts a.tmps) (hfr : ∀ b g, A.n ≤ b → b < A'.n → μ b g = none) :
    ∃ nx w' μ', (execOp a.eval o).run P w = .ok nx w' ∧ Left μ' v nx ∧ Rel A' μ' w' ∧ Ext A A' μ μ' w w' := by
  obtain ⟨dst, op, type, pos, after, guard⟩ := o
  simp only at h
  cases op <;> simp only [aEff_eq, aEffE] at h <;> try (cases h; done)
  case store t x y =>
    simp only [Option.bind_eq_some_iff, outH, Option.some.injEq, AOut.val.injEq] at h
    obtain ⟨p, h1, q, h2, A1, h3, rfl, rfl⟩ := h
    obtain ⟨w', s1, s2, s3⟩ := store_sound hE R h3 (evalO_VR hE T h1) (evalO_VR hE T h2)
    exact ⟨.skip, w', μ, by simp [execOp, s1], .inr ⟨rfl, rfl⟩, s2, s3⟩
  case convert s d x =>
    simp only [Option.bind_eq_some_iff, outVH, Option.some.injEq, AOut.val.injEq] at h
    obtain ⟨p, h1, ⟨v1, A1⟩, h2, rfl, rfl⟩ := h
    obtain ⟨y, w', e1, e2, e3, e4⟩ := mark_sound hE R h2 (evalO_VR hE T h1)
    exact ⟨.value y, w', μ, by simp [execOp, e1], .inl ⟨y, rfl, e2⟩, e3, e4⟩
  case range t x =>
    simp only [Option.bind_eq_some_iff, outVH, Option.some.injEq, AOut.val.injEq] at h
    obtain ⟨p, h1, ⟨v1, A1⟩, h2, rfl, rfl⟩ := h
    obtain ⟨y, w', μ', e1, e2, e3, e4⟩ := range_sound hE R h2 hfr (evalO_VR hE T h1)
    exact ⟨.value y, w', μ', by simp [execOp, e1], .inl ⟨y, rfl, e2⟩, e3, e4⟩
  case next x isString =>
    cases isString <;> simp only at h
    case true => cases h
    simp only [Option.bind_eq_some_iff, outVH, Option.some.injEq, AOut.val.injEq] at h
    obtain ⟨p, h1, ⟨v1, A1⟩, h2, rfl, rfl⟩ := h
    obtain ⟨y, w', e1, e2, e3, e4⟩ := next_sound (P := P) R h2 (evalO_VR hE T h1) type
    exact ⟨.value y, w', μ, by simp [execOp, e1], .inl ⟨y, rfl, e2⟩, e3, e4⟩
  case entry x =>
    simp only [Option.bind_eq_some_iff, outVH, Option.some.injEq, AOut.val.injEq] at h
    obtain ⟨p, h1, ⟨v1, A1⟩, h2, rfl, rfl⟩ := h
    obtain ⟨y, e1, e2, e3⟩ := entry_sound (P := P) R h2 (evalO_VR hE T h1)
    subst e3
    exact ⟨.value y, w, μ, by simp [execOp, e1], .inl ⟨y, rfl, e2⟩, R, Ext.refl _ _ _⟩
  case mapUpdate t m k x =>
    simp only [Option.bind_eq_some_iff, outH, Option.some.injEq, AOut.val.injEq] at h
    obtain ⟨p, h1, q, h2, r, h3, A1, h4, rfl, rfl⟩ := h
    obtain ⟨w', s1, s2, s3⟩ := mapUpdate_sound hE R h4 (evalO_VR hE T h1) (evalO_VR hE T h2) (evalO_VR hE T h3)
    exact ⟨.skip, w', μ, by simp [execOp, s1], .inr ⟨rfl, rfl⟩, s2, s3⟩
  case insert t m k x =>
    simp only [Option.bind_eq_some_iff, outH, Option.some.injEq, AOut.val.injEq] at h
    obtain ⟨p, h1, q, h2, r, h3, A1, h4, rfl, rfl⟩ := h
    obtain ⟨w', s1, s2, s3⟩ := mapUpdate_sound hE R h4 (evalO_VR hE T h1) (evalO_VR hE T h2) (evalO_VR hE T h3)
    exact ⟨.skip, w', μ, by simp [execOp, s1], .inr ⟨rfl, rfl⟩, s2, s3⟩
  case mapEntry t m k =>
    simp only [Option.bind_eq_some_iff, outVH, Option.some.injEq, AOut.val.injEq] at h
    obtain ⟨p, h1, q, h2, ⟨v1, A1⟩, h3, rfl, rfl⟩ := h
    obtain ⟨u, w', s1, s2, s3, s4⟩ := mapEntry_sound hE R h3 (evalO_VR hE T h1) (evalO_VR hE T h2)
    exact ⟨.value u, w', μ, by simp [execOp, s1], .inl ⟨u, rfl, s2⟩, s3, s4⟩
  case call c =>
    obtain ⟨callee, args, argTypes⟩ := c
    cases callee <;> simp only at h <;> try (cases h; done)
    case value f =>
      simp only [Option.bind_eq_some_iff] at h
      obtain ⟨f', h1, vs, h2, h3⟩ := h
      unfold aEnter at h3
      split at h3 <;> cases h3
    case builtin b =>
      simp only [Option.bind_eq_some_iff] at h
      obtain ⟨vs, h1, h2⟩ := h
      have r := evalOs_VRs hE T h1
      have ea : args.map a.eval = (args.toList.map a.eval).toArray := by apply Array.ext'; simp
      have et : argTypes = argTypes.toList.toArray := by simp
      generalize args.toList.map a.eval = us at r ea
      generalize argTypes.toList = tl at h2 et
      subst et
      unfold aEffBuiltin at h2
      split at h2
      · rename_i t xt s x
        simp only [Option.bind_eq_some_iff, outVH, Option.some.injEq, AOut.val.injEq] at h2
        obtain ⟨⟨v1, A1⟩, h3, rfl, rfl⟩ := h2
        simp only [VRs] at r
        obtain ⟨su, us', rfl, r1, xu, us'', rfl, r2, rfl⟩ := r
        obtain ⟨u, w', μ', s1, s2, s3, s4⟩ := append_sound hE R hJ h3 hfr r1 r2 type
        exact ⟨.value u, w', μ', by simp only [execOp, resolve, ea, Sem.run_bind, Sem.run_pure, Result.andThen_ok, invoke, builtin, s1], .inl ⟨u, rfl, s2⟩, s3, s4⟩
      · rename_i t tl d x
        simp only [Option.bind_eq_some_iff, outVH, Option.some.injEq, AOut.val.injEq] at h2
        obtain ⟨⟨v1, A1⟩, h3, rfl, rfl⟩ := h2
        simp only [VRs] at r
        obtain ⟨su, us', rfl, r1, xu, us'', rfl, r2, rfl⟩ := r
        obtain ⟨u, w', s1, s2, s3, s4⟩ := copy_sound hE R h3 r1 r2 tl type
        exact ⟨.value u, w', μ, by simp only [execOp, resolve, ea, Sem.run_bind, Sem.run_pure, Result.andThen_ok, invoke, builtin, s1], .inl ⟨u, rfl, s2⟩, s3, s4⟩
      · rename_i t tl x
        simp only [Option.bind_eq_some_iff, outH, Option.some.injEq, AOut.val.injEq] at h2
        obtain ⟨A1, h3, rfl, rfl⟩ := h2
        simp only [VRs] at r
        obtain ⟨su, us', rfl, r1, rfl⟩ := r
        obtain ⟨w', s1, s3, s4⟩ := clear_sound hE R h3 r1 tl type
        exact ⟨.value (.tuple #[]), w', μ, by simp only [execOp, resolve, ea, Sem.run_bind, Sem.run_pure, Result.andThen_ok, invoke, builtin, s1], .inl ⟨_, rfl, by simp only [AV.undef, VR, VRs]; exact ⟨[], rfl, rfl⟩⟩, s3, s4⟩
      · rename_i t tl m k
        simp only [Option.bind_eq_some_iff, outH, Option.some.injEq, AOut.val.injEq] at h2
        obtain ⟨A1, h3, rfl, rfl⟩ := h2
        simp only [VRs] at r
        obtain ⟨su, us', rfl, r1, xu, us'', rfl, r2, rfl⟩ := r
        obtain ⟨w', s1, s3, s4⟩ := delete_sound hE R h3 r1 r2 tl type
        exact ⟨.value (.tuple #[]), w', μ, by simp only [execOp, resolve, ea, Sem.run_bind, Sem.run_pure, Result.andThen_ok, invoke, builtin, s1], .inl ⟨_, rfl, by simp only [AV.undef, VR, VRs]; exact ⟨[], rfl, rfl⟩⟩, s3, s4⟩
      · cases h2
include hE in
theorem enter_sound {o : Oper} {ts : Ts} {f : FuncId} {args : List AV} (h : aEff E ts A o.op = some (.enter f args)) {a : Act} (T : TR μ ts a.tmps) {F : Func} (hF : E.fn f = some F) :
    ∃ us, (execOp a.eval o).run P w = .ok (.enter f us.toArray) w ∧ VRs μ args us := by
  obtain ⟨dst, op, type, pos, after, guard⟩ := o
  simp only at h
  obtain ⟨hf1, hf2, hf3⟩ := hE.fn f F hF
  cases op <;> simp only [aEff_eq, aEffE] at h <;> try (cases h; done)
  case store t x y => simp only [Option.bind_eq_some_iff, outH, Option.some.injEq] at h; obtain ⟨_, _, _, _, _, _, h⟩ := h; cases h
  case mapUpdate t m k x => simp only [Option.bind_eq_some_iff, outH, Option.some.injEq] at h; obtain ⟨_, _, _, _, _, _, _, _, h⟩ := h; cases h
  case insert t m k x => simp only [Option.bind_eq_some_iff, outH, Option.some.injEq] at h; obtain ⟨_, _, _, _, _, _, _, _, h⟩ := h; cases h
  case mapEntry t m k => simp only [Option.bind_eq_some_iff, outVH, Option.some.injEq] at h; obtain ⟨_, _, _, _, _, _, h⟩ := h; cases h
  case convert s d x => simp only [Option.bind_eq_some_iff, outVH, Option.some.injEq] at h; obtain ⟨_, _, _, _, h⟩ := h; cases h
  case range t x => simp only [Option.bind_eq_some_iff, outVH, Option.some.injEq] at h; obtain ⟨_, _, _, _, h⟩ := h; cases h
  case entry x => simp only [Option.bind_eq_some_iff, outVH, Option.some.injEq] at h; obtain ⟨_, _, _, _, h⟩ := h; cases h
  case next x isString =>
    cases isString <;> simp only at h
    · simp only [Option.bind_eq_some_iff, outVH, Option.some.injEq] at h; obtain ⟨_, _, _, _, h⟩ := h; cases h
    · cases h
  case call c =>
    obtain ⟨callee, as, argTypes⟩ := c
    cases callee <;> simp only at h <;> try (cases h; done)
    case builtin b =>
      simp only [Option.bind_eq_some_iff] at h
      obtain ⟨vs, h1, h2⟩ := h
      unfold aEffBuiltin at h2
      split at h2
      all_goals first
        | (cases h2; done)
        | (simp only [Option.bind_eq_some_iff, outVH, outH, Option.some.injEq] at h2; obtain ⟨_, _, h2⟩ := h2; cases h2)
    case value fo =>
      simp only [Option.bind_eq_some_iff] at h
      obtain ⟨fv, h1, vs, h2, h3⟩ := h
      have r1 := evalO_VR hE T h1
      have r2 := evalOs_VRs hE T h2
      unfold aEnter at h3
      split at h3
      case h_2 => cases h3
      rename_i f' first captured
      simp only [Option.some.injEq, AOut.enter.injEq] at h3
      obtain ⟨rfl, rfl⟩ := h3
      simp only [VR] at r1
      obtain ⟨fs, cs, r3, r4, r5⟩ := r1
      refine ⟨fs ++ as.toList.map a.eval ++ cs, ?_, (r3.append r2).append r4⟩
      have ea : as.map a.eval = (as.toList.map a.eval).toArray := by apply Array.ext'; simp
      have hnm : (F.name == "runtime.NumGoroutine") = false := by simpa using hf2
      have hbn : F.body ≠ none := fun hb => by rw [hb] at hf3; cases hf3
      simp [execOp, resolve, Deferred.ofValue, r5, invoke, callFunc, hf1, hf2, hbn, ea]
end
end Go.AE
end
section
/- The abstract evaluator, part 8: regions, code, calls. -/
set_option linter.unusedVariables false
set_option linter.unusedSimpArgs false
namespace Go.AE
noncomputable section

/-! ### Regions in the order of the text -/
abbrev ACall := FuncId → List AV → AHeap → Option (AV × AHeap)
def putA (ts : Ts) (d : Option Tmp) (v : AV) : Ts := match d with | some d => ts.set d v | none => ts
def guardTmp (ops : Array Oper) (j : Nat) : Option Tmp := (ops[j]?).bind (·.dst)
def wantA (ops : Array Oper) (ts : Ts) (o : Oper) : Bool :=
  match o.guard with
  | none => true
  | some (j, want) => match guardTmp ops j with
    | some t => match ts.get t with
      | some (.bool b) => b == want
      | _ => false
    | none => false
def stepNew (H : AHeap) (x : Option ANew) : Option (AV × AHeap) := x.bind fun p => some (p.2 H.n, H.push p.1)
def stepEff (call : ACall) (H : AHeap) (x : Option AOut) : Option (AV × AHeap) := x.bind fun out => match out with
  | .val v H' => some (v, H')
  | .enter f args => call f args H
def stepPass (H : AHeap) (x : Option AV) : Option (AV × AHeap) := x.bind fun v => some (v, H)
def stepOp (E : Env) (call : ACall) (ts : Ts) (H : AHeap) (op : Op) : Option (AV × AHeap) :=
  match opKind op with
  | .pass => stepPass H (aPass E ts H op)
  | .new => stepNew H (aNewO E ts op)
  | .eff => stepEff call H (aEff E ts H op)
def runOpsQ (l : List Oper) : Env → ACall → Array Oper → Ts → AHeap → Option (Ts × AHeap) :=
  List.rec (motive := fun _ => Env → ACall → Array Oper → Ts → AHeap → Option (Ts × AHeap)) (fun _ _ _ ts H => some (ts, H))
    (fun o _ ih E call ops ts H => cond (wantA ops ts o) ((stepOp E call ts H o.op).bind fun p => ih E call ops (putA ts o.dst p.1) p.2) (ih E call ops (putA ts o.dst .undef) H)) l
def runOps (E : Env) (call : ACall) (ops : Array Oper) (l : List Oper) (ts : Ts) (H : AHeap) : Option (Ts × AHeap) := runOpsQ l E call ops ts H
theorem runOps_nil (E : Env) (call : ACall) (ops : Array Oper) (ts : Ts) (H : AHeap) : runOps E call ops [] ts H = some (ts, H) := rfl
theorem runOps_cons (E : Env) (call : ACall) (ops : Array Oper) (o : Oper) (r : List Oper) (ts : Ts) (H : AHeap) : runOps E call ops (o :: r) ts H = match wantA ops ts o with
    | true => (stepOp E call ts H o.op).bind fun p => runOps E call ops r (putA ts o.dst p.1) p.2
    | false => runOps E call ops r (putA ts o.dst .undef) H := by
  show cond (wantA ops ts o) ((stepOp E call ts H o.op).bind fun p => runOps E call ops r (putA ts o.dst p.1) p.2) (runOps E call ops r (putA ts o.dst .undef) H) = _
  cases wantA ops ts o <;> rfl

/-! ### Regions that draw their order -/
mutual
def AV.beq : AV → AV → Bool
  | .bool a, .bool b => a == b
  | .int k a, .int k' b => decide (k = k') && decide (a = b)
  | .sym k a, .sym k' b => decide (k = k') && decide (a = b)
  | .str a, .str b => decide (a.data.toList = b.data.toList)
  | .ptr b g o, .ptr b' g' o' => Nat.beq b b' && Nat.beq g g' && Nat.beq o o'
  | .nilPtr, .nilPtr => true
  | .sptr b g o l es z, .sptr b' g' o' l' es' z' => Nat.beq b b' && Nat.beq g g' && Nat.beq o o' && Nat.beq l l' && Nat.beq es es' && decide (z = z')
  | .opq a, .opq b => Nat.beq a b
  | .sl b g o l lo ex es, .sl b' g' o' l' lo' ex' es' => Nat.beq b b' && Nat.beq g g' && Nat.beq o o' && Nat.beq l l' && Nat.beq lo lo' && ex == ex' && Nat.beq es es'
  | .nilSl, .nilSl => true
  | .map b, .map b' => Nat.beq b b'
  | .nilMap, .nilMap => true
  | .fn f a b, .fn f' a' b' => Nat.beq f f' && AV.beqs a a' && AV.beqs b b'
  | .nilFn, .nilFn => true
  | .iface t v, .iface t' v' => Nat.beq t t' && AV.beq v v'
  | .nilIface, .nilIface => true
  | .agg a, .agg b => AV.beqs a b
  | .tup a, .tup b => AV.beqs a b
  | _, _ => false
def AV.beqs : List AV → List AV → Bool
  | [], [] => true
  | a :: x, b :: y => AV.beq a b && AV.beqs x y
  | _, _ => false
end
mutual
theorem AV.eq_of_beq : ∀ (a b : AV), AV.beq a b = true → a = b := by
  intro a b h
  cases a <;> cases b <;> simp only [AV.beq, Bool.and_eq_true, Nat.beq_eq, decide_eq_true_eq, beq_iff_eq] at h <;> try (cases h; done)
  case bool => rw [h]
  case int => rw [h.1, h.2]
  case sym => rw [h.1, h.2]
  case str a b =>
    obtain ⟨⟨x⟩⟩ := a
    obtain ⟨⟨y⟩⟩ := b
    simp at h; simp [h]
  case ptr => obtain ⟨⟨rfl, rfl⟩, rfl⟩ := h; rfl
  case nilPtr => rfl
  case sptr => obtain ⟨⟨⟨⟨⟨rfl, rfl⟩, rfl⟩, rfl⟩, rfl⟩, rfl⟩ := h; rfl
  case opq => rw [h]
  case sl => obtain ⟨⟨⟨⟨⟨⟨rfl, rfl⟩, rfl⟩, rfl⟩, rfl⟩, rfl⟩, rfl⟩ := h; rfl
  case nilSl => rfl
  case map => rw [h]
  case nilMap => rfl
  case fn f a1 b1 f' a2 b2 => obtain ⟨⟨rfl, h2⟩, h3⟩ := h; rw [AV.eq_of_beqs a1 a2 h2, AV.eq_of_beqs b1 b2 h3]
  case nilFn => rfl
  case iface t v t' v' => obtain ⟨rfl, h2⟩ := h; rw [AV.eq_of_beq v v' h2]
  case nilIface => rfl
  case agg a1 a2 => rw [AV.eq_of_beqs a1 a2 h]
  case tup a1 a2 => rw [AV.eq_of_beqs a1 a2 h]
theorem AV.eq_of_beqs : ∀ (a b : List AV), AV.beqs a b = true → a = b := by
  intro a b h
  cases a <;> cases b <;> simp only [AV.beqs, Bool.and_eq_true] at h <;> try (cases h; done)
  case nil => rfl
  case cons a1 x b1 y => rw [AV.eq_of_beq a1 b1 h.1, AV.eq_of_beqs x y h.2]
end

def maskOf (acc : List Nat) (o : Oper) : Nat := o.after.toList.foldl (fun s e => bif Region.binds .any e then s ||| 2 ^ e.on ||| acc.getD e.on 0 else s) 0
def masks : List Oper → List Nat → List Nat
  | [], acc => acc
  | o :: r, acc => masks r (acc ++ [maskOf acc o])
def isEff (o : Oper) : Bool := match opKind o.op with | .eff => true | _ => false
/-- the order in which the evaluator goes: the writing operations in the text's order, ahead of each what it waits for -/
def canonGo (n : Nat) (ms : List Nat) : List Nat → List Nat → List Nat
  | [], done => done ++ (List.range n).filter fun i => !done.elem i
  | e :: es, done => canonGo n ms es (done ++ ((List.range n).filter fun i => !done.elem i && (ms.getD e 0).testBit i) ++ [e])
def canon (ops : List Oper) (ms : List Nat) : List Nat := canonGo ops.length ms ((List.range ops.length).filter fun i => match ops[i]? with | some o => isEff o | none => false) []
def planOps (ops : List Oper) (ms : List Nat) : List Nat → List (Nat × Nat × Oper)
  | [] => []
  | i :: is => match ops[i]? with | some o => (i, ms.getD i 0, o) :: planOps ops ms is | none => planOps ops ms is
/-- all that the proof needs of an order, asked of it -/
def orderOK (ops : Array Oper) (ms : List Nat) : List (Nat × Nat × Oper) → List Nat → Bool
  | [], done => (List.range ops.size).all fun i => done.elem i
  | (i, m, o) :: r, done => !done.elem i && Nat.blt i ops.size && o.after.toList.all (fun e => !Region.binds .any e || done.elem e.on) &&
      (!isEff o || done.all fun k => m.testBit k) && orderOK ops ms r (done ++ [i])
def apartOK (ops : Array Oper) : List (Nat × Nat × Oper) → Bool
  | [] => true
  | (i, m, o) :: r => r.all (fun (j, m', o') => m'.testBit i || Oper.apart ops o o') && apartOK ops r
def noSel (o : Oper) : Bool := match o.op with | .select .. => false | _ => true
def plan (ops : Array Oper) : Option (List (Nat × Nat × Oper)) :=
  let ms := masks ops.toList []
  let p := planOps ops.toList ms (canon ops.toList ms)
  bif orderOK ops ms p [] && apartOK ops p && ops.toList.all noSel then some p else none
def heapDep : Op → Bool
  | .load .. | .lookup .. => true
  | .binOp .eql .. | .binOp .neq .. => true
  | .call _ => true
  | _ => false
/-- the value is the same in each heap since the last writing operation that it waits for -/
def chk (E : Env) (ts : Ts) (op : Op) (v : AV) (m : Nat) : List (Nat × AHeap) → AHeap → Bool
  | [], A0 => match aPass E ts A0 op with | some u => AV.beq u v | none => false
  | (e, A) :: h, A0 => (match aPass E ts A op with | some u => AV.beq u v | none => false) && (m.testBit e || chk E ts op v m h A0)
def chkPast (E : Env) (ts : Ts) (op : Op) (v : AV) (m : Nat) : List (Nat × AHeap) → AHeap → Bool
  | [], _ => true
  | (e, _) :: h, A0 => m.testBit e || chk E ts op v m h A0
def lastH : List (Nat × AHeap) → AHeap → AHeap
  | [], A0 => A0
  | (_, A) :: _, _ => A
def runPlan (E : Env) (call : ACall) (ops : Array Oper) (A0 : AHeap) : List (Nat × Nat × Oper) → List (Nat × AHeap) → Ts → AHeap → Option (Ts × AHeap)
  | [], _, ts, H => some (ts, H)
  | (i, m, o) :: r, hist, ts, H => match wantA ops ts o with
    | true => match opKind o.op with
      | .pass => (aPass E ts (lastH hist A0) o.op).bind fun v => bif !heapDep o.op || chkPast E ts o.op v m hist A0 then runPlan E call ops A0 r hist (putA ts o.dst v) H else none
      | .new => (stepNew H (aNewO E ts o.op)).bind fun p => runPlan E call ops A0 r hist (putA ts o.dst p.1) p.2
      | .eff => (stepEff call H (aEff E ts H o.op)).bind fun p => runPlan E call ops A0 r ((i, p.2) :: hist) (putA ts o.dst p.1) p.2
    | false => match opKind o.op with
      | .eff => runPlan E call ops A0 r ((i, H) :: hist) (putA ts o.dst .undef) H
      | _ => runPlan E call ops A0 r hist (putA ts o.dst .undef) H
def runRegion (E : Env) (call : ACall) (ops : Array Oper) (draw : Bool) (ts : Ts) (H : AHeap) : Option (Ts × AHeap) :=
  match draw with
  | false => runOps E call ops ops.toList ts H
  | true => (plan ops).bind fun p => runPlan E call ops H p [] ts H

/-! ### Code -/
inductive AEx where
  | normal
  | exit (id : Nat)
  | ret
structure ASt where
  ex : AEx
  ts : Ts
  H : AHeap
def loopN (body : Ts → AHeap → Option ASt) : Nat → Ts → AHeap → Option ASt
  | 0, _, _ => none
  | n + 1, ts, H => (body ts H).bind fun s => match s.ex with
    | .normal => loopN body n s.ts s.H
    | _ => some s
/-- by the recursor itself: the kernel runs it faster -/
def codeQ (c : Code) : Env → ACall → Nat → Ts → AHeap → Option ASt := by
  induction c with
  | skip => exact fun _ _ _ ts H => some ⟨.normal, ts, H⟩
  | region id ops draw => exact fun E call _ ts H => (runRegion E call ops draw ts H).bind fun p => some ⟨.normal, p.1, p.2⟩
  | seq a b iha ihb => exact fun E call n ts H => (iha E call n ts H).bind fun s => match s.ex with
    | .normal => ihb E call n s.ts s.H
    | _ => some s
  | cond c a b iha ihb => exact fun E call n ts H => (evalO E ts c).bind fun v => Option.rec (motive := fun _ => Option ASt) none (fun b => cond b (iha E call n ts H) (ihb E call n ts H)) v.asBool
  | block id c ih => exact fun E call n ts H => (ih E call n ts H).bind fun s => match s.ex with
    | .exit id' => bif Nat.beq id' id then some ⟨.normal, s.ts, s.H⟩ else some s
    | _ => some s
  | loop c ih => exact fun E call n ts H => loopN (ih E call n) n ts H
  | exit id => exact fun _ _ _ ts H => some ⟨.exit id, ts, H⟩
  | ret => exact fun _ _ _ ts H => some ⟨.ret, ts, H⟩
  | _ => exact fun _ _ _ _ _ => none
def evCode (E : Env) (call : ACall) (n : Nat) (c : Code) (ts : Ts) (H : AHeap) : Option ASt := codeQ c E call n ts H
section
variable (E : Env) (call : ACall) (n : Nat) (ts : Ts) (H : AHeap)
theorem evCode_skip : evCode E call n .skip ts H = some ⟨.normal, ts, H⟩ := rfl
theorem evCode_region (id : Nat) (ops : Array Oper) (draw : Bool) : evCode E call n (.region id ops draw) ts H = (runRegion E call ops draw ts H).bind fun p => some ⟨.normal, p.1, p.2⟩ := rfl
theorem evCode_seq (a b : Code) : evCode E call n (.seq a b) ts H = (evCode E call n a ts H).bind fun s => match s.ex with
    | .normal => evCode E call n b s.ts s.H
    | _ => some s := rfl
theorem evCode_cond (c : Operand) (a b : Code) : evCode E call n (.cond c a b) ts H = (evalO E ts c).bind fun v => match v with
    | .bool true => evCode E call n a ts H
    | .bool false => evCode E call n b ts H
    | _ => none := by
  show ((evalO E ts c).bind fun v => Option.rec (motive := fun _ => Option ASt) none (fun b' => cond b' (evCode E call n a ts H) (evCode E call n b ts H)) v.asBool) = _
  congr 1
  funext v
  cases v
  case bool b' => cases b' <;> rfl
  all_goals rfl
theorem evCode_block (id : Nat) (c : Code) : evCode E call n (.block id c) ts H = (evCode E call n c ts H).bind fun s => match s.ex with
    | .exit id' => bif Nat.beq id' id then some ⟨.normal, s.ts, s.H⟩ else some s
    | _ => some s := rfl
theorem evCode_loop (c : Code) : evCode E call n (.loop c) ts H = loopN (evCode E call n c) n ts H := rfl
theorem evCode_exit (id : Nat) : evCode E call n (.exit id) ts H = some ⟨.exit id, ts, H⟩ := rfl
theorem evCode_ret : evCode E call n .ret ts H = some ⟨.ret, ts, H⟩ := rfl
theorem evCode_rangeFunc (f : Operand) (p : Array Tmp) (a b : Code) : evCode E call n (.rangeFunc f p a b) ts H = none := rfl
theorem evCode_scope (c : Code) : evCode E call n (.scope c) ts H = none := rfl
theorem evCode_label (l : Nat) : evCode E call n (.label l) ts H = none := rfl
theorem evCode_goto (l : Nat) : evCode E call n (.goto l) ts H = none := rfl
theorem evCode_refuse (l : String) : evCode E call n (.refuse l) ts H = none := rfl
end
def resVals (E : Env) (ts : Ts) (H : AHeap) : List ResultVar → Option (List AV)
  | [] => some []
  | .tmp t :: r => (ts.get t).bind fun v => (resVals E ts H r).bind fun vs => some (v :: vs)
  | .cell a t :: r => (ts.get a).bind fun p => (aLoad E H t p).bind fun v => (resVals E ts H r).bind fun vs => some (v :: vs)
def resOf : List AV → AV
  | [v] => v
  | vs => .tup vs
def evBody (E : Env) (call : ACall) (n : Nat) (F : Func) (args : List AV) (H : AHeap) : Option (AV × AHeap) :=
  match F.body with
  | some c => (evCode E call n c (Ts.ofArgs args F.ntmps) H).bind fun s => match s.ex with
    | .exit _ => none
    | _ => (resVals E s.ts s.H F.results.toList).bind fun vs => some (resOf vs, s.H)
  | none => none
/-- a call, with so many rounds; 'ext': the functions that are not evaluated but known otherwise -/
def evCall (E : Env) (ext : FuncId → Option (List AV → AHeap → Option (AV × AHeap))) : Nat → ACall
  | 0, _, _, _ => none
  | n + 1, f, args, H => match ext f with
    | some g => g args H
    | none => (E.fn f).bind fun F => evBody E (evCall E ext n) n F args H
end
end Go.AE
end
section
/- The abstract evaluator, part 9: a region in the text's order is right. -/
set_option linter.unusedVariables false
set_option linter.unusedSectionVars false
set_option linter.unusedSimpArgs false
namespace Go.AE
variable [Val]
def Fresh (μ : Mu) (lo hi : Nat) : Prop := ∀ b g, lo ≤ b → b < hi → μ b g = none
/-- what is known of calls -/
structure CallOK (P : Program) (E : Env) (call : ACall) : Prop where
  fn : ∀ f args A v A', call f args A = some (v, A') → (E.fn f).isSome = true
  n : ∀ f args A v A', call f args A = some (v, A') → A.n ≤ A'.n
  ok : ∀ f args A v A', call f args A = some (v, A') → ∀ μ w us, Rel A μ w → Val.J μ w → VRs μ args us → Fresh μ A.n A'.n →
    Calls P f us.toArray w fun e w' => ∃ u μ', e = .returned u ∧ VR μ' v u ∧ Rel A' μ' w' ∧ Ext A A' μ μ' w w'

section
variable {A : AHeap}
theorem aWrite_n {b g off : Nat} {vs : List AV} {A' : AHeap} (h : aWrite A b g off vs = some A') : A'.n = A.n := by
  obtain ⟨A2, h, hn, _⟩ := aWrite_inv h
  rw [← hn]
  simp only [aWrite0, Option.bind_eq_some_iff] at h
  obtain ⟨⟨wr, gen, cells⟩, _, h⟩ := h
  cases hc : (wr && Nat.beq g gen && vs.all AV.one) with
  | false => simp [hc] at h
  | true =>
    simp only [hc, cond_true, Option.bind_eq_some_iff, Option.some.injEq] at h
    obtain ⟨cs, _, rfl⟩ := h
    rfl
theorem aAppOpq_n {E : Env} {by_ es m : Nat} {s v : AV} {news : List AV} {A' : AHeap} (h : aAppOpq E A by_ es s m news = some (v, A')) : A.n ≤ A'.n := by
  unfold aAppOpq at h
  split at h
  case h_2 => cases h
  simp only [Option.bind_eq_some_iff] at h
  obtain ⟨p, _, h⟩ := h
  cases hb : (Nat.beq by_ 1 && Nat.beq es 1 && Nat.blt 0 m && Nat.ble m 1000000 && news.all AV.one) with
  | false => rw [hb] at h; cases h
  | true =>
    rw [hb] at h
    simp only [cond_true, Option.bind_eq_some_iff] at h
    obtain ⟨r, _, h⟩ := h
    cases hg : (r.1 && Nat.beq r.2.1 0) with
    | false => rw [hg] at h; cases h
    | true =>
      rw [hg] at h
      simp only [cond_true, Option.some.injEq, Prod.mk.injEq] at h
      obtain ⟨_, rfl⟩ := h
      simp
theorem aAppendTo_n {by_ es m : Nat} {s v : AV} {news : List AV} {A' : AHeap} (h : aAppendTo A by_ es s m news = some (v, A')) : A.n ≤ A'.n := by
  unfold aAppendTo at h
  split at h
  · cases hm : Nat.beq m 0 <;> simp only [hm, cond_true, cond_false, Option.some.injEq, Prod.mk.injEq] at h
    · obtain ⟨_, rfl⟩ := h; simp
    · obtain ⟨_, rfl⟩ := h; exact Nat.le_refl _
  · rename_i b g off len lo ex es'
    cases h1 : Nat.beq es es' with
    | false => simp [h1] at h
    | true =>
      simp only [h1, cond_true] at h
      cases h2 : Nat.ble (len + m) lo with
      | true =>
        simp only [h2, cond_true, Option.bind_eq_some_iff, Option.some.injEq, Prod.mk.injEq] at h
        obtain ⟨A1, h3, _, rfl⟩ := h
        cases hm : Nat.beq m 0 <;> simp only [hm, cond_true, cond_false, Option.some.injEq] at h3
        · rw [aWrite_n h3]; exact Nat.le_refl _
        · subst h3; exact Nat.le_refl _
      | false =>
        simp only [h2, cond_false] at h
        cases hx : ex with
        | true =>
          simp only [hx, cond_true, Option.bind_eq_some_iff, Option.some.injEq, Prod.mk.injEq] at h
          obtain ⟨_, _, _, rfl⟩ := h
          simp
        | false =>
          simp only [hx, cond_false, Option.bind_eq_some_iff] at h
          obtain ⟨⟨wr, gen, cells⟩, _, h⟩ := h
          cases hc : (wr && Nat.beq off 0) with
          | false => simp [hc] at h
          | true =>
            simp only [hc, cond_true, Option.bind_eq_some_iff, Option.some.injEq, Prod.mk.injEq] at h
            obtain ⟨_, _, _, rfl⟩ := h
            simp
  · cases h
theorem aEff_n {E : Env} {ts : Ts} {op : Op} {v : AV} {A' : AHeap} (h : aEff E ts A op = some (.val v A')) : A.n ≤ A'.n := by
  cases op <;> simp only [aEff_eq, aEffE] at h <;> try (cases h; done)
  case store t x y =>
    simp only [Option.bind_eq_some_iff, outH, Option.some.injEq, AOut.val.injEq] at h
    obtain ⟨p, h1, q, h2, A1, h3, _, rfl⟩ := h
    unfold aStore at h3
    split at h3
    · simp only [Option.bind_eq_some_iff] at h3
      obtain ⟨a, _, h3⟩ := h3
      cases hc : Nat.beq q.cells.length a.size with
      | false => simp [hc] at h3
      | true => simp only [hc, cond_true] at h3; rw [aWrite_n h3]; exact Nat.le_refl _
    · cases h3
  case range t x =>
    simp only [Option.bind_eq_some_iff, outVH, Option.some.injEq, AOut.val.injEq] at h
    obtain ⟨p, h1, ⟨v1, A1⟩, h3, _, rfl⟩ := h
    simp only [aRange, Option.bind_eq_some_iff] at h3
    obtain ⟨a, _, h3⟩ := h3
    split at h3
    · split at h3
      · simp only [Option.some.injEq, Prod.mk.injEq] at h3
        obtain ⟨_, rfl⟩ := h3
        simp
      · simp only [Option.bind_eq_some_iff, Option.some.injEq, Prod.mk.injEq] at h3
        obtain ⟨_, _, _, rfl⟩ := h3
        simp
      · cases h3
    · cases h3
  case entry x =>
    simp only [Option.bind_eq_some_iff, outVH, Option.some.injEq, AOut.val.injEq] at h
    obtain ⟨p, h1, ⟨v1, A1⟩, h3, _, rfl⟩ := h
    unfold aEntry at h3
    split at h3
    case h_2 => cases h3
    simp only [Option.bind_eq_some_iff] at h3
    obtain ⟨⟨m, since, seen, stepped⟩, _, h3⟩ := h3
    cases m with
    | none => cases h3
    | some m =>
      simp only [Option.bind_eq_some_iff] at h3
      obtain ⟨stamp, _, ⟨es, cl⟩, _, h3⟩ := h3
      cases hc : Nat.beq cl stepped with
      | false => simp only [hc, cond_false] at h3; cases h3
      | true =>
        simp only [hc, cond_true, Option.bind_eq_some_iff, Option.some.injEq, Prod.mk.injEq] at h3
        obtain ⟨_, _, _, rfl⟩ := h3
        exact Nat.le_refl _
  case next x isString =>
    cases isString <;> simp only at h
    case true => cases h
    simp only [Option.bind_eq_some_iff, outVH, Option.some.injEq, AOut.val.injEq] at h
    obtain ⟨p, h1, ⟨v1, A1⟩, h3, _, rfl⟩ := h
    unfold aNext at h3
    split at h3
    case h_2 => cases h3
    simp only [Option.bind_eq_some_iff] at h3
    obtain ⟨⟨m, since, seen, last⟩, _, h3⟩ := h3
    cases m with
    | none => simp only [Option.some.injEq, Prod.mk.injEq] at h3; obtain ⟨_, rfl⟩ := h3; exact Nat.le_refl _
    | some m =>
      simp only [Option.bind_eq_some_iff] at h3
      obtain ⟨⟨es, cl⟩, _, h3⟩ := h3
      simp only [aNextM] at h3
      cases hg : (!seen.isEmpty && !es.isEmpty && es.all fun e => decide (e.2.2 ≥ last)) with
      | true => rw [hg] at h3; cases h3
      | false =>
      rw [hg] at h3
      simp only [cond_false] at h3
      split at h3
      · simp only [Option.some.injEq, Prod.mk.injEq] at h3; obtain ⟨_, rfl⟩ := h3; exact Nat.le_refl _
      · rename_i e _
        cases hb : Nat.blt e.2.2 since with
        | false => rw [hb] at h3; cases h3
        | true =>
          rw [hb] at h3
          simp only [cond_true, Option.some.injEq, Prod.mk.injEq] at h3
          obtain ⟨_, rfl⟩ := h3
          simp
      · cases h3
  case mapUpdate t m k x =>
    simp only [Option.bind_eq_some_iff, outH, Option.some.injEq, AOut.val.injEq] at h
    obtain ⟨p, h1, q, h2, r, h3, A1, h4, _, rfl⟩ := h
    simp only [aMapUpdate, Option.bind_eq_some_iff] at h4
    obtain ⟨a, _, h4⟩ := h4
    split at h4
    · rename_i kt _ b _
      cases hk : aKeyOK E kt q with
      | false => simp [hk] at h4
      | true =>
        simp only [hk, cond_true, Option.bind_eq_some_iff] at h4
        obtain ⟨⟨es, cl⟩, _, r', _, h4⟩ := h4
        cases r' <;> simp only [Option.some.injEq] at h4 <;> (subst h4; simp)
    · cases h4
  case insert t m k x =>
    simp only [Option.bind_eq_some_iff, outH, Option.some.injEq, AOut.val.injEq] at h
    obtain ⟨p, h1, q, h2, r, h3, A1, h4, _, rfl⟩ := h
    simp only [aMapUpdate, Option.bind_eq_some_iff] at h4
    obtain ⟨a, _, h4⟩ := h4
    split at h4
    · rename_i kt _ b _
      cases hk : aKeyOK E kt q with
      | false => simp [hk] at h4
      | true =>
        simp only [hk, cond_true, Option.bind_eq_some_iff] at h4
        obtain ⟨⟨es, cl⟩, _, r', _, h4⟩ := h4
        cases r' <;> simp only [Option.some.injEq] at h4 <;> (subst h4; simp)
    · cases h4
  case mapEntry t m k =>
    simp only [Option.bind_eq_some_iff, outVH, Option.some.injEq, AOut.val.injEq] at h
    obtain ⟨p, h1, q, h2, ⟨v1, A1⟩, h4, _, rfl⟩ := h
    simp only [aMapEntry, Option.bind_eq_some_iff] at h4
    obtain ⟨a, _, h4⟩ := h4
    split at h4
    · rename_i kt et b _
      cases hk : aKeyOK E kt q with
      | false => simp [hk] at h4
      | true =>
        simp only [hk, cond_true, Option.bind_eq_some_iff] at h4
        obtain ⟨⟨es, cl⟩, _, r', _, h4⟩ := h4
        cases r' with
        | none =>
          simp only [Option.bind_eq_some_iff, Option.some.injEq, Prod.mk.injEq] at h4
          obtain ⟨_, _, _, _, _, rfl⟩ := h4
          simp
        | some r' => simp only [Option.some.injEq, Prod.mk.injEq] at h4; obtain ⟨_, rfl⟩ := h4; simp
    · cases h4
  case convert s d x =>
    simp only [Option.bind_eq_some_iff, outVH, Option.some.injEq, AOut.val.injEq] at h
    obtain ⟨p, h1, ⟨v1, A1⟩, h3, _, rfl⟩ := h
    unfold aMark at h3
    split at h3
    · cases hsd : Nat.beq s d with
      | false => simp [hsd] at h3
      | true =>
        simp only [hsd, cond_true, Option.bind_eq_some_iff] at h3
        obtain ⟨a, _, h3⟩ := h3
        split at h3
        · simp only [Option.bind_eq_some_iff] at h3
          obtain ⟨ae, _, h3⟩ := h3
          split at h3
          · simp only [Option.bind_eq_some_iff] at h3
            obtain ⟨⟨wr, gen, cells⟩, _, h3⟩ := h3
            cases wr with
            | false => simp at h3
            | true => simp only [cond_true, Option.some.injEq, Prod.mk.injEq] at h3; obtain ⟨_, rfl⟩ := h3; simp
          · cases h3
        · cases h3
    · simp only [Option.bind_eq_some_iff, Option.some.injEq, Prod.mk.injEq] at h3
      obtain ⟨_, _, _, rfl⟩ := h3
      exact Nat.le_refl _
  case call c =>
    obtain ⟨callee, args, argTypes⟩ := c
    cases callee <;> simp only at h <;> try (cases h; done)
    case value f =>
      simp only [Option.bind_eq_some_iff] at h
      obtain ⟨f', h1, vs, h2, h3⟩ := h
      unfold aEnter at h3
      split at h3 <;> cases h3
    case builtin b =>
      simp only [Option.bind_eq_some_iff] at h
      obtain ⟨vs, h1, h2⟩ := h
      unfold aEffBuiltin at h2
      split at h2
      · rename_i t xt s x
        simp only [Option.bind_eq_some_iff, outVH, Option.some.injEq, AOut.val.injEq] at h2
        obtain ⟨⟨v1, A1⟩, h3, _, rfl⟩ := h2
        simp only [aAppend, Option.bind_eq_some_iff] at h3
        obtain ⟨a, _, h3⟩ := h3
        split at h3
        · simp only [Option.bind_eq_some_iff] at h3
          obtain ⟨e, _, ax, _, z, _, h3⟩ := h3
          cases hc : (Nat.blt 0 e.size && Nat.beq z.length e.size && z.all AV.one) with
          | false => simp [hc] at h3
          | true =>
            simp only [hc, cond_true, Option.bind_eq_some_iff] at h3
            obtain ⟨⟨m, news⟩, _, h3⟩ := h3
            cases hl : aLenOf xt with
            | none =>
              rw [hl] at h3
              simp only at h3
              split at h3
              · cases h3
              · exact aAppOpq_n h3
            | some len =>
            rw [hl] at h3
            simp only at h3
            cases hd : (Nat.ble ((len + m) * e.bytes) 140737488355328 && Nat.ble (len + m) 9223372036854775807 && news.all AV.one) with
            | false => simp [hd] at h3
            | true => simp only [hd, cond_true] at h3; exact aAppendTo_n h3
        · cases h3
      · rename_i t tl d x
        simp only [Option.bind_eq_some_iff, outVH, Option.some.injEq, AOut.val.injEq] at h2
        obtain ⟨⟨v1, A1⟩, h3, _, rfl⟩ := h2
        simp only [aCopy, Option.bind_eq_some_iff] at h3
        obtain ⟨a, _, h3⟩ := h3
        split at h3
        · simp only [Option.bind_eq_some_iff] at h3
          obtain ⟨e, _, h3⟩ := h3
          split at h3
          · simp only [Option.bind_eq_some_iff, Option.some.injEq, Prod.mk.injEq] at h3
            obtain ⟨_, _, _, rfl⟩ := h3
            exact Nat.le_refl _
          · rename_i b g off len lo ex es
            cases hc : Nat.beq es e.size with
            | false => simp [hc] at h3
            | true =>
              simp only [hc, cond_true, Option.bind_eq_some_iff] at h3
              obtain ⟨⟨m, vs'⟩, _, h3⟩ := h3
              cases h0 : Nat.beq (min m len) 0 with
              | true => simp only [h0, cond_true, Option.some.injEq, Prod.mk.injEq] at h3; obtain ⟨_, rfl⟩ := h3; exact Nat.le_refl _
              | false =>
                simp only [h0, cond_false, Option.bind_eq_some_iff, Option.some.injEq, Prod.mk.injEq] at h3
                obtain ⟨A2, h4, _, rfl⟩ := h3
                rw [aWrite_n h4]; exact Nat.le_refl _
          · cases h3
        · cases h3
      · rename_i t tl x
        simp only [Option.bind_eq_some_iff, outH, Option.some.injEq, AOut.val.injEq] at h2
        obtain ⟨A1, h3, _, rfl⟩ := h2
        unfold aClear at h3
        split at h3
        · simp only [Option.bind_eq_some_iff, Option.some.injEq] at h3
          obtain ⟨_, _, rfl⟩ := h3; exact Nat.le_refl _
        · rename_i b g off len lo ex es
          cases hc : Nat.beq len 0 with
          | true => simp only [hc, cond_true, Option.bind_eq_some_iff, Option.some.injEq] at h3; obtain ⟨_, _, rfl⟩ := h3; exact Nat.le_refl _
          | false =>
            simp only [hc, cond_false, Option.bind_eq_some_iff] at h3
            obtain ⟨a, _, h3⟩ := h3
            split at h3
            · simp only [Option.bind_eq_some_iff] at h3
              obtain ⟨e, _, z, _, h3⟩ := h3
              cases hd : (Nat.beq e.size es && Nat.beq z.length es && z.all AV.one) with
              | false => simp [hd] at h3
              | true => simp only [hd, cond_true] at h3; rw [aWrite_n h3]; exact Nat.le_refl _
            · cases h3
        · cases h3
      · rename_i t tl m k _
        simp only [Option.bind_eq_some_iff, outH, Option.some.injEq, AOut.val.injEq] at h2
        obtain ⟨A1, h3, _, rfl⟩ := h2
        simp only [aDelete, Option.bind_eq_some_iff] at h3
        obtain ⟨a, _, h3⟩ := h3
        split at h3
        · rename_i kt _ _
          cases hk : aKeyOK E kt k with
          | false => simp [hk] at h3
          | true =>
            simp only [hk, cond_true] at h3
            split at h3
            · cases h3; exact Nat.le_refl _
            · simp only [Option.bind_eq_some_iff] at h3
              obtain ⟨⟨es, cl⟩, _, r', _, h3⟩ := h3
              cases r' <;> simp only [Option.some.injEq] at h3 <;> (subst h3; simp)
            · cases h3
        · cases h3
      · cases h2
end

section
variable {P : Program} {E : Env} (hE : EnvOK P E) {call : ACall} (hC : CallOK P E call)
theorem Fresh.sub {μ : Mu} {lo hi lo' hi' : Nat} (h : Fresh μ lo hi) (h1 : lo ≤ lo') (h2 : hi' ≤ hi) : Fresh μ lo' hi' := fun b g a c => h b g (by omega) (by omega)
include hC in
theorem stepOp_n {ts : Ts} {A : AHeap} {op : Op} {v : AV} {A' : AHeap} (h : stepOp E call ts A op = some (v, A')) : A.n ≤ A'.n := by
  unfold stepOp at h
  split at h
  · simp only [stepPass, Option.bind_eq_some_iff, Option.some.injEq, Prod.mk.injEq] at h
    obtain ⟨_, _, _, rfl⟩ := h; exact Nat.le_refl _
  · simp only [stepNew, Option.bind_eq_some_iff, Option.some.injEq, Prod.mk.injEq] at h
    obtain ⟨_, _, _, rfl⟩ := h; simp
  · simp only [stepEff, Option.bind_eq_some_iff] at h
    obtain ⟨out, h1, h2⟩ := h
    cases out with
    | val v1 A1 => simp only [Option.some.injEq, Prod.mk.injEq] at h2; obtain ⟨_, rfl⟩ := h2; exact aEff_n h1
    | enter f args => exact hC.n _ _ _ _ _ h2
include hE hC in
/-- one operation: whatever stands behind it, if it holds of all that the operation may leave -/
theorem stepOp_sound {A : AHeap} {μ : Mu} {w : World} (R : Rel A μ w) (hJ : Val.J μ w) {ts : Ts} {a : Act} (T : TR μ ts a.tmps) {o : Oper} {v : AV} {A' : AHeap} (h : stepOp E call ts A o.op = some (v, A')) (hfr : Fresh μ A.n A'.n)
    {K : Act → World → Prop} {Q : Exit → Act → World → Prop} (hK : ∀ u w' μ', VR μ' v u → Rel A' μ' w' → Ext A A' μ μ' w w' → K (a.put o.dst u) w') : o.wp P a w K Q := by
  unfold Oper.wp
  unfold stepOp at h
  split at h
  · rename_i hk
    simp only [stepPass, Option.bind_eq_some_iff, Option.some.injEq, Prod.mk.injEq] at h
    obtain ⟨v', h1, rfl, rfl⟩ := h
    obtain ⟨u, e1, e2⟩ := pass_sound hE R h1 T hk
    rw [e1]
    exact hK u w μ e2 R (Ext.refl _ _ _)
  · simp only [stepNew, Option.bind_eq_some_iff, Option.some.injEq, Prod.mk.injEq] at h
    obtain ⟨⟨B, mk⟩, h1, rfl, rfl⟩ := h
    obtain ⟨ob, u, e1, e2, e3⟩ := new_sound hE (w := w) h1 T
    have hn : ∀ g, μ A.n g = none := fun g => hfr _ g (Nat.le_refl _) (by simp)
    rw [e1]
    exact hK u _ _ (e3 _ A.n (upd_same _ _ _ _)) (Rel.push R hn e2) (Ext.push hn)
  · simp only [stepEff, Option.bind_eq_some_iff] at h
    obtain ⟨out, h1, h2⟩ := h
    cases out with
    | val v1 A1 =>
      simp only [Option.some.injEq, Prod.mk.injEq] at h2
      obtain ⟨rfl, rfl⟩ := h2
      obtain ⟨nx, w', μ', e1, e2, e3, e4⟩ := eff_sound hE R hJ h1 T hfr
      rw [e1]
      rcases e2 with ⟨u, rfl, hu⟩ | ⟨rfl, rfl⟩
      · exact hK u w' μ' hu e3 e4
      · exact hK undef w' μ' (by simp only [AV.undef, VR, VRs]; exact ⟨[], rfl, rfl⟩) e3 e4
    | enter f args =>
      obtain ⟨F, hF⟩ := Option.isSome_iff_exists.1 (hC.fn _ _ _ _ _ h2)
      obtain ⟨us, e1, e2⟩ := enter_sound hE (w := w) h1 T hF
      rw [e1]
      refine (hC.ok _ _ _ _ _ h2 μ w us R hJ e2 hfr).mono ?_
      rintro e w' ⟨u, μ', rfl, hu, hR, hX⟩
      exact hK u w' μ' hu hR hX
theorem VR_undef (μ : Mu) : VR μ .undef undef := by simp only [AV.undef, VR, VRs]; exact ⟨[], rfl, rfl⟩
theorem TR.put {μ : Mu} {ts : Ts} {a : Act} (T : TR μ ts a.tmps) {v : AV} {u : Value} (h : VR μ v u) (d : Option Tmp) : TR μ (putA ts d v) (a.put d u).tmps := by
  cases d with
  | none => exact T
  | some d =>
    obtain ⟨T1, T2⟩ := T
    refine ⟨by simp [putA, Act.put, T1], fun t v' ht => ?_⟩
    simp only [putA, Act.put, Ts.get_set, Array.getElem?_setIfInBounds] at ht ⊢
    by_cases hd : d = t
    · subst hd
      simp only [if_true] at ht ⊢
      by_cases hl : d < ts.n
      · simp only [hl, if_true, Option.some.injEq] at ht
        subst ht
        exact ⟨u, by simp [T1, hl], h⟩
      · simp [hl] at ht
    · rw [if_neg hd] at ht ⊢
      exact T2 t v' ht
theorem TR.mono {μ μ' : Mu} (h : MuLe μ μ') {ts : Ts} {tmps : Array Value} (T : TR μ ts tmps) : TR μ' ts tmps := ⟨T.1, fun t v ht => let ⟨u, a, b⟩ := T.2 t v ht; ⟨u, a, VR.mono h _ _ b⟩⟩
theorem TR.size {μ : Mu} {ts : Ts} {tmps : Array Value} (T : TR μ ts tmps) : tmps.size = ts.n := T.1
theorem wantA_eq {μ : Mu} {ts : Ts} {a : Act} (T : TR μ ts a.tmps) (ops : Array Oper) (o : Oper) : Region.wanted o (yielded ops a.tmps) = wantA ops ts o := by
  unfold Region.wanted wantA
  cases hg : o.guard with
  | none => rfl
  | some gw =>
    obtain ⟨j, want⟩ := gw
    simp only [yielded, guardTmp]
    cases ht : (ops[j]?).bind (·.dst) with
    | none => rfl
    | some t =>
      simp only [Option.bind_some]
      cases hv : ts.get t with
      | none =>
        have : a.tmps[t]? = none := by rw [Array.getElem?_eq_none_iff, T.size]; exact Ts.get_none hv
        rw [this]; rfl
      | some v =>
        obtain ⟨u, h1, h2⟩ := T.2 t v hv
        rw [h1]
        cases v <;> simp only [VR] at h2
        case bool b => subst h2; cases b <;> cases want <;> rfl
        all_goals first
          | (subst h2; rfl)
          | (obtain ⟨c, sz, _, rfl⟩ := h2; rfl)
          | (obtain ⟨c, sz, _, _, rfl⟩ := h2; rfl)
          | (obtain ⟨_, _, _, _, rfl⟩ := h2; rfl)
          | (obtain ⟨c, sz, cap, off', _, rfl, _⟩ := h2; rfl)
          | (obtain ⟨fs, cs, _, _, rfl⟩ := h2; rfl)
          | (obtain ⟨x, _, rfl⟩ := h2; rfl)
include hC in
theorem runOps_n {ops : Array Oper} : ∀ {l : List Oper} {ts : Ts} {A : AHeap} {ts' : Ts} {A' : AHeap}, runOps E call ops l ts A = some (ts', A') → A.n ≤ A'.n
  | [], ts, A, ts', A', h => by simp only [runOps_nil, runOps_cons, Option.some.injEq, Prod.mk.injEq] at h; obtain ⟨_, rfl⟩ := h; exact Nat.le_refl _
  | o :: l, ts, A, ts', A', h => by
    simp only [runOps_nil, runOps_cons] at h
    split at h
    · simp only [Option.bind_eq_some_iff] at h
      obtain ⟨⟨v, A1⟩, h1, h2⟩ := h
      exact Nat.le_trans (stepOp_n hC h1) (runOps_n h2)
    · exact runOps_n h
include hE hC in
theorem runOps_sound {ops : Array Oper} {Q : Exit → Act → World → Prop} : ∀ {l : List Oper} {k : Nat} {ts : Ts} {A : AHeap} {ts' : Ts} {A' : AHeap}, runOps E call ops l ts A = some (ts', A') → (∀ j, l[j]? = ops[k + j]?) →
    ∀ {μ : Mu} {w : World} {a : Act}, Rel A μ w → Val.J μ w → TR μ ts a.tmps → Fresh μ A.n A'.n →
    (∀ a' w' μ', TR μ' ts' a'.tmps → Rel A' μ' w' → Ext A A' μ μ' w w' → a'.defers = a.defers → Q .normal a' w') → wpOps P ops Q (List.range' k l.length) a w
  | [], k, ts, A, ts', A', h, hl, μ, w, a, R, hJ, T, hfr, hQ => by
    simp only [runOps_nil, runOps_cons, Option.some.injEq, Prod.mk.injEq] at h
    obtain ⟨rfl, rfl⟩ := h
    exact hQ a w μ T R (Ext.refl _ _ _) rfl
  | o :: l, k, ts, A, ts', A', h, hl, μ, w, a, R, hJ, T, hfr, hQ => by
    have h0 : ops[k]? = some o := by simpa using (hl 0).symm
    have hl' : ∀ j, l[j]? = ops[k + 1 + j]? := fun j => by have := hl (j + 1); simpa [Nat.add_assoc, Nat.add_comm 1 j] using this
    simp only [runOps_nil, runOps_cons] at h
    simp only [List.length_cons, List.range'_succ, wpOps, h0]
    rw [wantA_eq T]
    split at h
    · rename_i hw
      rw [hw]
      simp only [if_true]
      simp only [Option.bind_eq_some_iff] at h
      obtain ⟨⟨v, A1⟩, h1, h2⟩ := h
      have n1 : A.n ≤ A1.n := stepOp_n hC h1
      have n2 : A1.n ≤ A'.n := runOps_n hC h2
      refine .inl (stepOp_sound hE hC R hJ T h1 (hfr.sub (Nat.le_refl _) n2) fun u w' μ' hu hR hX => ?_)
      refine runOps_sound h2 hl' hR (Val.keep hJ hX) ((T.mono hX.mono).put hu o.dst) (fun b g (b1 : A1.n ≤ b) b2 => ?_) fun a' w'' μ'' t1 t2 t3 t4 => hQ a' w'' μ'' t1 t2 (hX.trans t3) ?_
      · rw [hX.above b g b1]; exact hfr b g (by omega) b2
      · rw [t4]; cases o.dst <;> rfl
    · rename_i hw
      rw [hw]
      simp only [Bool.false_eq_true, if_false]
      refine runOps_sound h hl' R hJ (T.put (VR_undef μ) o.dst) hfr fun a' w' μ' t1 t2 t3 t4 => hQ a' w' μ' t1 t2 t3 ?_
      rw [t4]; cases o.dst <;> rfl
end
end Go.AE
end
