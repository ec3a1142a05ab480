/- The abstract evaluator, part 2: what an abstract heap says of a world; the operations that only read are right. -/
import Derived.Test.YteabbkagekdehaaAe1
import Derived.Laws.Tables
import Derived.Laws.Entries
set_option linter.unusedVariables false
set_option linter.unusedSectionVars false
set_option linter.unusedSimpArgs false
namespace Go.AE

/-- Where an abstract block's generation lies: the number of a block of the world, and that block's size. -/
abbrev Mu := Nat → Nat → Option (Nat × Nat)
def MuLe (μ μ' : Mu) : Prop := ∀ b g x, μ b g = some x → μ' b g = some x
theorem MuLe.refl (μ : Mu) : MuLe μ μ := fun _ _ _ h => h
theorem MuLe.trans {a b c : Mu} (h : MuLe a b) (k : MuLe b c) : MuLe a c := fun _ _ _ x => k _ _ _ (h _ _ _ x)

/-- how a step extends memory -/
structure Ext (A A' : AHeap) (μ μ' : Mu) (w w' : World) : Prop where
  mono : MuLe μ μ'
  above : ∀ b g, A'.n ≤ b → μ' b g = μ b g
  fresh : ∀ b g, A.n ≤ b → b < A'.n → μ b g = none
  n : A.n ≤ A'.n
  os : w'.os = w.os
  tape : w'.tape = w.tape
  output : w'.output = w.output
  size : w.heap.size ≤ w'.heap.size
  range : ∀ b g c sz, μ' b g = some (c, sz) → (∃ g', μ b g' = some (c, sz)) ∨ w.heap.size ≤ c
  wr : ∀ b, b < A.n → aWr A b = false → aWr A' b = false
  frame : ∀ c, c < w.heap.size → (∀ b g sz, μ b g = some (c, sz) → b < A.n → aWr A b = false) → w'.heap[c]? = w.heap[c]?
/-- what the unknown numbers and values are; and what stays true of the world -/
class Val where
  ρ : Nat → Int
  o : Nat → Value
  J : Mu → World → Prop
  keep : ∀ {A A' : AHeap} {μ μ' : Mu} {w w' : World}, J μ w → Ext A A' μ μ' w w' → J μ' w'
def binVal (op : BinOp) (k : IntKind) (x y : Int) : Int := match aIntBin op k x y with | some (.int _ n) => n | _ => 0
def Sy.ev (ρ : Nat → Int) : Sy → Int
  | .lit n => n
  | .var i => ρ i
  | .bin op k a b => binVal op k (a.ev ρ) (b.ev ρ)
  | .wr k a => k.wrap (a.ev ρ)
  | .md i n => ρ i % (n : Int)
  | .tab l a => l.getD (a.ev ρ).toNat 0
variable [Val]
mutual
def VR (μ : Mu) : AV → Value → Prop
  | .bool b, u => u = .bool b
  | .int k n, u => u = .int k n
  | .sym k z, u => u = .int k (z.ev Val.ρ)
  | .opq i, u => u = Val.o i ∧ ∃ a l c, u = .slice a l c
  | .str s, u => u = .string s
  | .ptr b g off, u => ∃ c sz, μ b g = some (c, sz) ∧ u = .pointer (some ⟨c, off, none⟩)
  | .sptr b g off len es z, u => ∃ c sz, μ b g = some (c, sz) ∧ (0 ≤ z.ev Val.ρ ∧ z.ev Val.ρ < (len : Int)) ∧ u = .pointer (some ⟨c, off + (z.ev Val.ρ).toNat * es, none⟩)
  | .nilPtr, u => u = .pointer none
  | .sl b g off len lo ex es, u => ∃ c sz cap off', μ b g = some (c, sz) ∧ u = .slice (some ⟨c, off', none⟩) len cap ∧ len ≤ lo ∧ lo ≤ cap ∧ (ex = true → cap = lo) ∧ (cap ≠ 0 → off' = off ∧ (ex = false → off + cap * es ≤ sz)) ∧ cap ≤ maxLen
  | .nilSl, u => u = .slice none 0 0
  | .map b, u => ∃ c sz, μ b 0 = some (c, sz) ∧ u = .map (some c)
  | .nilMap, u => u = .map none
  | .fn f first captured, u => ∃ fs cs, VRs μ first fs ∧ VRs μ captured cs ∧ u = .func (.func f) fs.toArray cs.toArray
  | .nilFn, u => u = .nilFunc
  | .iface t v, u => ∃ x, VR μ v x ∧ u = .iface t x
  | .nilIface, u => u = .nilIface
  | .agg cs, u => ∃ xs, VRs μ cs xs ∧ u = .agg xs.toArray
  | .tup cs, u => ∃ xs, VRs μ cs xs ∧ u = .tuple xs.toArray
def VRs (μ : Mu) : List AV → List Value → Prop
  | [], us => us = []
  | v :: vs, us => ∃ u us', us = u :: us' ∧ VR μ v u ∧ VRs μ vs us'
end

mutual
theorem VR.mono {μ μ' : Mu} (h : MuLe μ μ') : ∀ (v : AV) (u : Value), VR μ v u → VR μ' v u
  | .bool _, _, k | .int _ _, _, k | .sym _ _, _, k | .opq _, _, k | .str _, _, k | .nilPtr, _, k | .nilSl, _, k | .nilMap, _, k | .nilFn, _, k | .nilIface, _, k => by simpa only [VR] using k
  | .ptr _ _ _, _, k => by simp only [VR] at k ⊢; obtain ⟨c, sz, k1, k2⟩ := k; exact ⟨c, sz, h _ _ _ k1, k2⟩
  | .sptr .., _, k => by simp only [VR] at k ⊢; obtain ⟨c, sz, k1, k2⟩ := k; exact ⟨c, sz, h _ _ _ k1, k2⟩
  | .sl .., _, k => by simp only [VR] at k ⊢; obtain ⟨c, sz, cap, off', k1, k2⟩ := k; exact ⟨c, sz, cap, off', h _ _ _ k1, k2⟩
  | .map _, _, k => by simp only [VR] at k ⊢; obtain ⟨c, sz, k1, k2⟩ := k; exact ⟨c, sz, h _ _ _ k1, k2⟩
  | .fn f a b, _, k => by simp only [VR] at k ⊢; obtain ⟨fs, cs, k1, k2, k3⟩ := k; exact ⟨fs, cs, VRs.mono h a fs k1, VRs.mono h b cs k2, k3⟩
  | .iface t v, _, k => by simp only [VR] at k ⊢; obtain ⟨x, k1, k2⟩ := k; exact ⟨x, VR.mono h v x k1, k2⟩
  | .agg cs, _, k => by simp only [VR] at k ⊢; obtain ⟨xs, k1, k2⟩ := k; exact ⟨xs, VRs.mono h cs xs k1, k2⟩
  | .tup cs, _, k => by simp only [VR] at k ⊢; obtain ⟨xs, k1, k2⟩ := k; exact ⟨xs, VRs.mono h cs xs k1, k2⟩
theorem VRs.mono {μ μ' : Mu} (h : MuLe μ μ') : ∀ (vs : List AV) (us : List Value), VRs μ vs us → VRs μ' vs us
  | [], _, k => by simpa only [VRs] using k
  | v :: vs, _, k => by simp only [VRs] at k ⊢; obtain ⟨u, us', k1, k2, k3⟩ := k; exact ⟨u, us', k1, VR.mono h v u k2, VRs.mono h vs us' k3⟩
end

theorem VRs.length {μ : Mu} : ∀ {vs : List AV} {us : List Value}, VRs μ vs us → us.length = vs.length
  | [], _, k => by simp only [VRs] at k; simp [k]
  | v :: vs, _, k => by simp only [VRs] at k; obtain ⟨u, us', rfl, _, k3⟩ := k; simp [VRs.length k3]
theorem VRs.get {μ : Mu} : ∀ {vs : List AV} {us : List Value}, VRs μ vs us → ∀ {i : Nat} {v : AV}, vs[i]? = some v → ∃ u, us[i]? = some u ∧ VR μ v u
  | [], _, _, i, v, h => by simp at h
  | w :: vs, _, k, i, v, h => by
    simp only [VRs] at k
    obtain ⟨u, us', rfl, k2, k3⟩ := k
    cases i with
    | zero => simp at h; subst h; exact ⟨u, by simp, k2⟩
    | succ i => simpa using VRs.get k3 (i := i) (v := v) (by simpa using h)
theorem VRs.of_get {μ : Mu} : ∀ {vs : List AV} {us : List Value}, us.length = vs.length → (∀ (i : Nat) v u, vs[i]? = some v → us[i]? = some u → VR μ v u) → VRs μ vs us
  | [], us, hl, _ => by simp only [VRs]; exact List.eq_nil_of_length_eq_zero (by simpa using hl)
  | v :: vs, [], hl, _ => by simp at hl
  | v :: vs, u :: us, hl, h => by
    simp only [VRs]
    exact ⟨u, us, rfl, h 0 v u (by simp) (by simp), VRs.of_get (by simpa using hl) fun i v' u' h1 h2 => h (i + 1) v' u' (by simpa using h1) (by simpa using h2)⟩
theorem VRs.append {μ : Mu} : ∀ {vs ws : List AV} {us ys : List Value}, VRs μ vs us → VRs μ ws ys → VRs μ (vs ++ ws) (us ++ ys)
  | [], _, _, _, k, l => by simp only [VRs] at k; subst k; simpa using l
  | v :: vs, _, _, _, k, l => by simp only [VRs] at k; obtain ⟨u, us', rfl, k2, k3⟩ := k; simp only [List.cons_append, VRs]; exact ⟨u, _, rfl, k2, VRs.append k3 l⟩
theorem VRs.take {μ : Mu} {vs : List AV} {us : List Value} (h : VRs μ vs us) (n : Nat) : VRs μ (vs.take n) (us.take n) := by
  refine VRs.of_get (by simp [h.length]) fun i v u h1 h2 => ?_
  rw [List.getElem?_take] at h1 h2
  split at h1
  · rename_i hi
    simp only [hi, if_true] at h2
    obtain ⟨u', h3, h4⟩ := h.get h1
    rw [h3] at h2; cases h2; exact h4
  · cases h1
theorem VRs.drop {μ : Mu} {vs : List AV} {us : List Value} (h : VRs μ vs us) (n : Nat) : VRs μ (vs.drop n) (us.drop n) := by
  refine VRs.of_get (by simp [h.length]) fun i v u h1 h2 => ?_
  rw [List.getElem?_drop] at h1 h2
  obtain ⟨u', h3, h4⟩ := h.get h1
  rw [h3] at h2; cases h2; exact h4
theorem VRs.nil {μ : Mu} : VRs μ [] [] := by simp only [VRs]
theorem VRs.cons {μ : Mu} {v : AV} {u : Value} {vs : List AV} {us : List Value} (h : VR μ v u) (k : VRs μ vs us) : VRs μ (v :: vs) (u :: us) := by simp only [VRs]; exact ⟨u, us, rfl, h, k⟩
theorem VR.one {μ : Mu} {v : AV} {u : Value} (h : VR μ v u) : u.oneCell' = v.one := by
  cases v <;> simp only [VR] at h <;> first
    | (subst h; rfl)
    | (obtain ⟨_, _, _, _, rfl⟩ := h; rfl)
    | (obtain ⟨c, sz, _, rfl⟩ := h; rfl)
    | (obtain ⟨c, sz, _, _, rfl⟩ := h; rfl)
    | (obtain ⟨c, sz, cap, off', _, rfl, _⟩ := h; rfl)
    | (obtain ⟨fs, cs, _, _, rfl⟩ := h; rfl)
    | (obtain ⟨x, _, rfl⟩ := h; rfl)
theorem VR.cells {μ : Mu} {v : AV} {u : Value} (h : VR μ v u) : VRs μ v.cells u.cells.toList := by
  cases v
  case agg cs => simp only [VR] at h; obtain ⟨xs, h1, rfl⟩ := h; simpa [AV.cells, Value.cells] using h1
  case opq i =>
    have hh := h
    simp only [VR] at hh
    obtain ⟨_, _, _, _, rfl⟩ := hh
    have e : ∀ a l c, (Value.slice a l c).cells = #[Value.slice a l c] := fun _ _ _ => rfl
    rw [e]
    exact VRs.cons h VRs.nil
  all_goals
    have e : u.cells = #[u] := by
      simp only [VR] at h
      first
        | (subst h; rfl)
        | (obtain ⟨c, sz, _, rfl⟩ := h; rfl)
        | (obtain ⟨c, sz, _, _, rfl⟩ := h; rfl)
        | (obtain ⟨c, sz, cap, off', _, rfl, _⟩ := h; rfl)
        | (obtain ⟨fs, cs, _, _, rfl⟩ := h; rfl)
        | (obtain ⟨x, _, rfl⟩ := h; rfl)
    rw [e]
    exact VRs.cons h VRs.nil
theorem VRs.all_one {μ : Mu} {vs : List AV} {us : List Value} (h : VRs μ vs us) (ha : vs.all AV.one = true) : ∀ u ∈ us, u.oneCell' = true := by
  intro u hu
  obtain ⟨i, hi⟩ := List.mem_iff_getElem?.1 hu
  have hlt : i < us.length := (List.getElem?_eq_some_iff.1 hi).1
  have hlv : i < vs.length := by rw [← h.length]; exact hlt
  obtain ⟨u', h1, h2⟩ := h.get (List.getElem?_eq_getElem hlv)
  rw [hi] at h1; cases h1
  rw [h2.one]
  exact List.all_eq_true.1 ha _ (List.getElem_mem hlv)

theorem ofV1_VR {μ : Mu} : ∀ {u : Value} {v : AV}, ofV1 u = some v → VR μ v u := by
  intro u v h
  unfold ofV1 at h
  split at h <;> first | (cases h; simp only [VR]) | cases h
theorem ofVs_VRs {μ : Mu} : ∀ {us : List Value} {vs : List AV}, ofVs us = some vs → VRs μ vs us
  | [], vs, h => by simp only [ofVs] at h; cases h; exact VRs.nil
  | u :: us, vs, h => by
    simp only [ofVs, Option.bind_eq_some_iff] at h
    obtain ⟨x, h1, xs, h2, h3⟩ := h
    cases h3
    exact VRs.cons (ofV1_VR h1) (ofVs_VRs h2)
theorem ofV_VR {μ : Mu} {u : Value} {v : AV} (h : ofV u = some v) : VR μ v u := by
  unfold ofV at h
  split at h
  · simp only [Option.bind_eq_some_iff] at h
    obtain ⟨xs, h1, h2⟩ := h
    cases h2
    simp only [VR]
    exact ⟨_, ofVs_VRs h1, by simp⟩
  · simp only [Option.bind_eq_some_iff] at h
    obtain ⟨xs, h1, h2⟩ := h
    cases h2
    simp only [VR]
    exact ⟨_, ofVs_VRs h1, by simp⟩
  · simp only [Option.bind_eq_some_iff] at h
    obtain ⟨x, h1, h2⟩ := h
    cases h2
    simp only [VR]
    exact ⟨_, ofV1_VR h1, rfl⟩
  · exact ofV1_VR h

/-! ### Heaps -/
def EntR (μ : Mu) (e : AV × AV × Nat) (m : MapEntry) : Prop := VR μ e.1 m.key ∧ VR μ e.2.1 m.val ∧ m.born = e.2.2
def EntsR (μ : Mu) (es : List (AV × AV × Nat)) (ms : List MapEntry) : Prop := ms.length = es.length ∧ ∀ (i : Nat) e m, es[i]? = some e → ms[i]? = some m → EntR μ e m
/-- What a block of the world must hold for an abstract block. -/
def BlkR (μ : Mu) : ABlk → Nat → Nat → Obj → Prop
  | .row wr gen cells, g, sz, o => ∃ cs e fr, o = .cells cs e fr ∧ cs.size = sz ∧ (wr = true → fr = (0, 0)) ∧ g ≤ gen ∧ (g = gen → cells.length ≤ cs.size) ∧
      ∀ (i : Nat) v s, cells[i]? = some (v, s) → s ≤ g → ∃ u, cs[i]? = some u ∧ VR μ v u ∧ v.one = true
  | .map es clock, g, _, o => g = 0 ∧ ∃ ms, o = .map ms clock ∧ EntsR μ es ms.toList
  | .iter s pos, g, _, o => g = 0 ∧ o = .stringIter s pos
theorem EntsR.mono {μ μ' : Mu} (h : MuLe μ μ') {es : List (AV × AV × Nat)} {ms : List MapEntry} (k : EntsR μ es ms) : EntsR μ' es ms :=
  ⟨k.1, fun i e m h1 h2 => let ⟨a, b, c⟩ := k.2 i e m h1 h2; ⟨VR.mono h _ _ a, VR.mono h _ _ b, c⟩⟩
theorem BlkR.mono {μ μ' : Mu} (h : MuLe μ μ') {B : ABlk} {g sz : Nat} {o : Obj} (k : BlkR μ B g sz o) : BlkR μ' B g sz o := by
  cases B with
  | row wr gen cells =>
    obtain ⟨cs, e, fr, h1, h2, h3, h4, h4', h5⟩ := k
    exact ⟨cs, e, fr, h1, h2, h3, h4, h4', fun i v s a b => let ⟨u, p, q, r⟩ := h5 i v s a b; ⟨u, p, VR.mono h _ _ q, r⟩⟩
  | map es clock => obtain ⟨h0, ms, h1, h2⟩ := k; exact ⟨h0, ms, h1, h2.mono h⟩
  | iter s pos => exact k

structure Rel (A : AHeap) (μ : Mu) (w : World) : Prop where
  bound : ∀ b g c sz, μ b g = some (c, sz) → c < w.heap.size
  inj : ∀ b g c sz b' g' sz', μ b g = some (c, sz) → μ b' g' = some (c, sz') → b = b'
  blk : ∀ b B, A.get b = some B → ∀ g c sz, μ b g = some (c, sz) → ∃ o, w.heap[c]? = some o ∧ BlkR μ B g sz o

structure EnvOK (P : Program) (E : Env) : Prop where
  ty : ∀ t a, E.ty t = some a → P.underlying t = some a.desc ∧ ∃ i, P.info? t = some i ∧ i.size = a.size ∧ i.bytes = a.bytes ∧
    (∀ zs, a.zero = some zs → ∃ z, i.zero = some z ∧ ofVs z.cells.toList = some zs ∧ (a.isAgg = true → ∃ cs, z = .agg cs) ∧ (a.isAgg = false → ∃ z', zs = [z'] ∧ ofV1 z = some z')) ∧
    (a.plain = true → P.stoodInHeld t = false ∧ P.eqGuardType P.depth t = false)
  fn : ∀ f F, E.fn f = some F → P.funcs[f]? = some F ∧ F.name ≠ "runtime.NumGoroutine" ∧ F.body.isSome = true
  glob : ∀ g b, E.glob g = some b → False
  le : ∀ a b r, E.le a b = some r → decide (a.ev Val.ρ ≤ b.ev Val.ρ) = r
  eq : ∀ a b r, E.eq a b = some r → decide (a.ev Val.ρ = b.ev Val.ρ) = r
  val : ∀ a n, E.val a = some n → a.ev Val.ρ = n
theorem norm_VR {P : Program} {E : Env} (hE : EnvOK P E) {μ : Mu} {v : AV} {u : Value} (h : VR μ v u) : VR μ (E.norm v) u := by
  unfold Env.norm
  split
  · rename_i k z
    split
    · rename_i n hn
      simp only [VR] at h ⊢
      rw [h, hE.val z n hn]
    · exact h
  · exact h
theorem toSy_VR {μ : Mu} {v : AV} {u : Value} (h : VR μ v u) {k : IntKind} {z : Sy} (hz : toSy v = some (k, z)) : u = .int k (z.ev Val.ρ) := by
  cases v <;> simp only [toSy] at hz <;> try (cases hz; done)
  · cases hz; simpa only [VR, Sy.ev] using h
  · cases hz; simpa only [VR] using h

/-- The temporaries. -/
def TR (μ : Mu) (ts : Ts) (tmps : Array Value) : Prop := tmps.size = ts.n ∧ ∀ (t : Nat) v, ts.get t = some v → ∃ u, tmps[t]? = some u ∧ VR μ v u
theorem TR.get {μ : Mu} {ts : Ts} {tmps : Array Value} (h : TR μ ts tmps) {t : Nat} {v : AV} (hv : ts.get t = some v) : VR μ v (tmps.getD t undef) := by
  obtain ⟨u, h1, h2⟩ := h.2 t v hv
  simpa [Array.getD_eq_getD_getElem?, h1] using h2
theorem evalO_VR {P : Program} {E : Env} (hE : EnvOK P E) {μ : Mu} {ts : Ts} {a : Act} (T : TR μ ts a.tmps) {x : Operand} {v : AV} (h : evalO E ts x = some v) : VR μ v (a.eval x) := by
  cases x with
  | tmp t =>
    simp only [evalO, Option.bind_eq_some_iff, Option.some.injEq] at h
    obtain ⟨v', h1, rfl⟩ := h
    exact norm_VR hE (T.get h1)
  | const u => exact ofV_VR h
  | global g =>
    simp only [evalO, Option.bind_eq_some_iff] at h
    obtain ⟨b, h1, _⟩ := h
    exact (hE.glob g b h1).elim
  | func f =>
    simp only [evalO, Option.some.injEq] at h
    subst h
    simp only [VR, VRs]
    exact ⟨[], [], rfl, rfl, rfl⟩
theorem evalOs_VRs {P : Program} {E : Env} (hE : EnvOK P E) {μ : Mu} {ts : Ts} {a : Act} (T : TR μ ts a.tmps) : ∀ {xs : List Operand} {vs : List AV}, evalOs E ts xs = some vs → VRs μ vs (xs.map a.eval)
  | [], vs, h => by simp only [evalOs] at h; cases h; exact VRs.nil
  | x :: xs, vs, h => by
    simp only [evalOs, Option.bind_eq_some_iff] at h
    obtain ⟨v, h1, vs', h2, h3⟩ := h
    cases h3
    exact VRs.cons (evalO_VR hE T h1) (evalOs_VRs hE T h2)

/-! ### Reading -/
section
variable {P : Program} {E : Env} (hE : EnvOK P E) {A : AHeap} {μ : Mu} {w : World} (R : Rel A μ w)
include R
theorem Rel.row {b : Nat} {wr : Bool} {gen : Nat} {cells : List (AV × Nat)} (h : aRow A b = some (wr, gen, cells)) {g c sz : Nat} (hm : μ b g = some (c, sz)) :
    ∃ cs e fr, w.heap[c]? = some (.cells cs e fr) ∧ cs.size = sz ∧ (wr = true → fr = (0, 0)) ∧ g ≤ gen ∧ (g = gen → cells.length ≤ cs.size) ∧ ∀ (i : Nat) v s, cells[i]? = some (v, s) → s ≤ g → ∃ u, cs[i]? = some u ∧ VR μ v u ∧ v.one = true := by
  unfold aRow at h
  split at h
  · rename_i wr' gen' cells' hg
    simp only [Option.some.injEq, Prod.mk.injEq] at h
    obtain ⟨rfl, rfl, rfl⟩ := h
    obtain ⟨o, h1, cs, e, fr, h2, h3⟩ := R.blk b _ hg g c sz hm
    subst h2
    exact ⟨cs, e, fr, h1, h3⟩
  · cases h
omit R in
theorem readFrom_get {g : Nat} : ∀ {n : Nat} {cells : List (AV × Nat)} {vs : List AV}, readFrom g n cells = some vs → vs.length = n ∧ ∀ (i : Nat) v, vs[i]? = some v → ∃ s, cells[i]? = some (v, s) ∧ s ≤ g
  | 0, cells, vs, h => by simp only [readFrom] at h; cases h; simp
  | n + 1, [], vs, h => by simp [readFrom] at h
  | n + 1, (v, s) :: r, vs, h => by
    simp only [readFrom, ble_dec] at h
    by_cases hs : s ≤ g
    · simp only [hs, decide_true, cond_true, Option.bind_eq_some_iff] at h
      obtain ⟨vs', h1, h2⟩ := h
      cases h2
      obtain ⟨l, k⟩ := readFrom_get h1
      refine ⟨by simp [l], fun i v' hi => ?_⟩
      cases i with
      | zero => simp at hi; subst hi; exact ⟨s, by simp, hs⟩
      | succ i => simpa using k i v' (by simpa using hi)
    · simp [hs] at h
/-- what a reading of cells finds in the world -/
theorem aRead_sound {b g off n : Nat} {vs : List AV} (h : aRead A b g off n = some vs) {c sz : Nat} (hm : μ b g = some (c, sz)) :
    ∃ us, VRs μ vs us ∧ us.length = n ∧ vs.all AV.one = true ∧ ∀ j u, us[j]? = some u → w.cell? ((⟨c, off, none⟩ : Addr).add j) = some u := by
  simp only [aRead, Option.bind_eq_some_iff, ble_dec] at h
  obtain ⟨⟨wr, gen, cells⟩, h1, h2⟩ := h
  by_cases hg : g ≤ gen
  · simp only [hg, decide_true, cond_true] at h2
    obtain ⟨cs, e, fr, hw, hs, _, _, _, hc⟩ := Rel.row R h1 hm
    obtain ⟨hl, hk⟩ := readFrom_get h2
    have key : ∀ (i : Nat) v, vs[i]? = some v → ∃ u, cs[off + i]? = some u ∧ VR μ v u ∧ v.one = true := fun i v hi => by
      obtain ⟨s, h3, h4⟩ := hk i v hi
      rw [List.getElem?_drop] at h3
      exact hc _ v s h3 h4
    refine ⟨vs.zipIdx.map fun p => cs.getD (off + p.2) undef, ?_, by simp [hl], ?_, ?_⟩
    · refine VRs.of_get (by simp) fun i v u hv hu => ?_
      obtain ⟨u', h3, h4, _⟩ := key i v hv
      simp [List.getElem?_zipIdx, hv, Array.getD_eq_getD_getElem?, h3] at hu
      subst hu; exact h4
    · rw [List.all_eq_true]
      intro v hv
      obtain ⟨i, hi⟩ := List.mem_iff_getElem?.1 hv
      obtain ⟨_, _, _, h1⟩ := key i v hi
      exact h1
    · intro j u hu
      have hj : j < vs.length := by have := (List.getElem?_eq_some_iff.1 hu).1; simpa using this
      obtain ⟨u', h3, h4, _⟩ := key j vs[j] (List.getElem?_eq_getElem hj)
      simp [List.getElem?_zipIdx, List.getElem?_eq_getElem hj, Array.getD_eq_getD_getElem?, h3] at hu
      subst hu
      rw [Addr.add_lit]
      simp [World.cell?, hw, h3]
  · simp [hg] at h2
theorem aRead1_sound {b g off : Nat} {v : AV} (h : aRead1 A b g off = some v) {c sz : Nat} (hm : μ b g = some (c, sz)) :
    ∃ u, VR μ v u ∧ v.one = true ∧ w.cell? ⟨c, off, none⟩ = some u := by
  simp only [aRead1, Option.bind_eq_some_iff, ble_dec] at h
  obtain ⟨⟨wr, gen, cells⟩, h1, h2⟩ := h
  by_cases hg : g ≤ gen
  · simp only [hg, decide_true, cond_true, readCell, ble_dec] at h2
    obtain ⟨cs, e, fr, hw, hs, _, _, _, hc⟩ := Rel.row R h1 hm
    split at h2
    · rename_i v' s' hcell
      by_cases hs' : s' ≤ g
      · simp [hs'] at h2
        subst h2
        obtain ⟨u, h3, h4, h5⟩ := hc _ _ _ hcell hs'
        exact ⟨u, h4, h5, by simp [World.cell?, hw, h3]⟩
      · simp [hs'] at h2
    · cases h2
  · simp [hg] at h2
end

section
variable {P : Program} {E : Env} (hE : EnvOK P E) (w : World)
include hE
theorem run_und {t : TypeId} {a : ATy} (h : E.ty t = some a) : (underlying t).run P w = .ok a.desc w := run_underlying (hE.ty t a h).1 w
theorem run_szo {t : TypeId} {a : ATy} (h : E.ty t = some a) : (sizeOf t).run P w = .ok a.size w := by
  obtain ⟨_, i, hi, hs, _⟩ := hE.ty t a h
  simp [sizeOf, typeInfo, hi, hs]
theorem run_agg {t : TypeId} {a : ATy} (h : E.ty t = some a) : (isAgg t).run P w = .ok a.isAgg w := by
  simp only [isAgg, Sem.run_bind, run_und hE w h, Result.andThen_ok, ATy.isAgg]
  cases a.desc <;> rfl
theorem run_info {t : TypeId} {a : ATy} (h : E.ty t = some a) : ∃ i, (typeInfo t).run P w = .ok i w ∧ i.bytes = a.bytes ∧ i.size = a.size ∧ P.info? t = some i := by
  obtain ⟨_, i, hi, hs, hb, _⟩ := hE.ty t a h
  exact ⟨i, by simp [typeInfo, hi], hb, hs, hi⟩
theorem run_zero {t : TypeId} {a : ATy} (h : E.ty t = some a) {zs : List AV} (hz : a.zero = some zs) (μ : Mu) : ∃ z, (zeroValue t).run P w = .ok z w ∧ VRs μ zs z.cells.toList ∧
    VR μ (bif a.isAgg then AV.agg zs else zs.headD .undef) z := by
  obtain ⟨_, i, hi, hs, hb, hzz, _⟩ := hE.ty t a h
  obtain ⟨z, h1, h2, h3, h4⟩ := hzz zs hz
  refine ⟨z, by simp [zeroValue, typeInfo, hi, h1], ofVs_VRs h2, ?_⟩
  cases hag : a.isAgg with
  | true =>
    obtain ⟨cs, rfl⟩ := h3 hag
    simp only [cond_true, VR]
    exact ⟨cs.toList, by simpa [Value.cells] using (ofVs_VRs h2 : VRs μ zs _), by simp⟩
  | false =>
    obtain ⟨z', rfl, h5⟩ := h4 hag
    exact ofV1_VR h5
end
end Go.AE
