/- The coder's functions by typed runs: the stream's functions; reg and op. -/
import Derived.Test.YteabbkagekdehaaHvA
import Derived.Test.YteabbkagekdehaaCod3
section
set_option linter.unusedVariables false
set_option linter.unusedSimpArgs false
namespace Go.Proofs.Yteabbkagekdehaa
open Go.AE Go.RowKit Go.IntWalk
def isNum : Ty → Bool
  | .num => true
  | .rng _ _ => true
  | _ => false
/-- the stream's functions: Next, Flip, Range, Pick, Word; Operands -/
def ext0 (f : FuncId) (τs : List Ty) : Option HRes := match f, τs with
  | 23, [.fld 0 0, .rng lo hi] => bif decide (1 ≤ lo) && decide (hi ≤ 4294967296) then some ⟨.rng 0 (hi - 1), 1, 0, false⟩ else none
  | 11, [.fld 0 0, .rng lo hi] => bif decide (1 ≤ lo) && decide (hi ≤ 4294967296) then some ⟨.bool, 1, 0, false⟩ else none
  | 34, [.fld 0 0, .rng lo lo', .rng hi hi'] => bif decide (lo' ≤ hi) && decide (-4294967296 ≤ lo) && decide (hi' ≤ 4294967296) && decide (hi' - lo < 4294967296) then some ⟨.rng lo hi', 1, 0, false⟩ else none
  | 9, [.fld 0 0, .sl n 1] => bif Nat.ble 1 n && Nat.ble n 1000 then some ⟨.num, 1, 0, false⟩ else none
  | 119, [τ] => bif isNum τ then some ⟨.rng 1 3, 0, 0, false⟩ else none
  | _, _ => none
/-- what the stream's functions ask of what stays true -/
structure SInv (r : Raw) (n0 s K0 : Nat) (nb : Nb) (blk : Nat → Nat) (Inv : Nat → Nat → Nat → World → Prop) : Prop where
  strm : ∀ {B K N w}, Inv B K N w → (∃ k, k ≤ K0 + K ∧ Strm r n0 s k w) ∧ s < B
  adv : ∀ {B K K' N w w'}, Inv B K N w → K ≤ K' → (∃ k, k ≤ K0 + K' ∧ Strm r n0 s k w') → Oth s w w' → Inv B K' N w'
  named : ∀ {B K N w}, Inv B K N w → Named nb blk B w
  bw : ∀ {B K N w}, Inv B K N w → B ≤ w.heap.size
theorem own_oth {s B : Nat} {w w' : World} (O : Oth s w w') (h : s < B) : OwnKeep B w w' := fun n X hB hX => by
  obtain ⟨cs, e, h1, h2⟩ := hX
  exact ⟨cs, e, by rw [O.block X (Array.getElem?_eq_some_iff.1 h1).1 (by omega)]; exact h1, h2⟩
theorem isNum_ok {B : Nat} {blk : Nat → Nat} {w : World} {τ : Ty} {u : Value} (h : isNum τ = true) (hu : HasTy B blk w τ u) : ∃ z, u = .int .i64 z := by
  obtain ⟨X, h1, _⟩ := hu
  cases τ <;> first | (cases h; done) | skip
  · exact h1
  · obtain ⟨z, rfl, _⟩ := h1; exact ⟨z, rfl⟩
/-- functions that only draw -/
def ExtQ1 (r : Raw) (n0 s : Nat) (nb : Nb) (blk : Nat → Nat) (f : FuncId) (τs : List Ty) (x : HRes) : Prop :=
  x.loud = false ∧ ∀ (K0 : Nat) (Inv : Nat → Nat → Nat → World → Prop), SInv r n0 s K0 nb blk Inv → ∀ {B K N : Nat} {w : World}, Inv B K N w → K0 + K + x.k ≤ 900000 → ∀ {us : List Value}, Tys B blk w τs us →
    Calls Try.prog f us.toArray w fun e w' => ∃ u, e = .returned u ∧ HasTy B blk w' x.ty u ∧ Inv B (K + x.k) N w' ∧ OwnKeep B w w'
def ExtQ (r : Raw) (n0 s : Nat) (nb : Nb) (blk : Nat → Nat) (ext : FuncId → List Ty → Option HRes) : Prop := ∀ {f τs x}, ext f τs = some x → ExtQ1 r n0 s nb blk f τs x
theorem ext0_loud {f : FuncId} {τs : List Ty} {x : HRes} (h : ext0 f τs = some x) : x.loud = false := by
  unfold ext0 at h
  split at h
  · rename_i lo hi
    cases hc : (decide (1 ≤ lo) && decide (hi ≤ 4294967296)) <;> rw [hc] at h <;> cases h; rfl
  · rename_i lo hi
    cases hc : (decide (1 ≤ lo) && decide (hi ≤ 4294967296)) <;> rw [hc] at h <;> cases h; rfl
  · rename_i lo lo' hi hi'
    cases hc : (decide (lo' ≤ hi) && decide (-4294967296 ≤ lo) && decide (hi' ≤ 4294967296) && decide (hi' - lo < 4294967296)) <;> rw [hc] at h <;> cases h; rfl
  · rename_i n
    cases hc : (Nat.ble 1 n && Nat.ble n 1000) <;> rw [hc] at h <;> cases h; rfl
  · rename_i τ
    cases hc : isNum τ <;> rw [hc] at h <;> cases h; rfl
  · cases h
section
variable {r : Raw} {n0 s : Nat} {nb : Nb} {blk : Nat → Nat} (hblk : blk 0 = s)
include hblk
theorem ext0_ok : ExtQ r n0 s nb blk ext0 := by
  intro f τs x h
  refine ⟨ext0_loud h, fun K0 Inv SI B K N w hI hK us hus => ?_⟩
  obtain ⟨⟨k, hk, S⟩, hs⟩ := SI.strm hI
  unfold ext0 at h
  split at h
  · rename_i lo hi
    cases hus with | cons u0 hus =>
    cases hus with | cons u1 hus =>
    cases hus
    obtain ⟨_, t0, _⟩ := u0
    obtain ⟨_, ⟨m, rfl, m1, m2⟩, _⟩ := u1
    have t0 : _ = Value.pointer (some ⟨blk 0, 0, none⟩) := t0
    subst t0
    rw [hblk]
    by_cases hc : 1 ≤ lo ∧ hi ≤ 4294967296
    · simp only [hc.1, hc.2, decide_true, Bool.and_self, cond_true, Option.some.injEq] at h
      subst h
      simp only at hK ⊢
      refine (next_c S (by omega) (by omega) (by omega)).mono ?_
      rintro e w' ⟨v, rfl, v0, v1, S1, O, _⟩
      exact ⟨_, rfl, ⟨0, ⟨v, rfl, v0, by omega⟩, fun n hn => by cases hn⟩, SI.adv hI (by omega) ⟨k + 1, by omega, S1⟩ O, own_oth O hs⟩
    · exfalso
      cases h1 : decide (1 ≤ lo) <;> cases h2 : decide (hi ≤ 4294967296) <;> simp [h1, h2] at h
      simp at h1 h2; exact hc ⟨h1, h2⟩
  · rename_i lo hi
    cases hus with | cons u0 hus =>
    cases hus with | cons u1 hus =>
    cases hus
    obtain ⟨_, t0, _⟩ := u0
    obtain ⟨_, ⟨m, rfl, m1, m2⟩, _⟩ := u1
    have t0 : _ = Value.pointer (some ⟨blk 0, 0, none⟩) := t0
    subst t0
    rw [hblk]
    by_cases hc : 1 ≤ lo ∧ hi ≤ 4294967296
    · simp only [hc.1, hc.2, decide_true, Bool.and_self, cond_true, Option.some.injEq] at h
      subst h
      simp only at hK ⊢
      refine (flip_c S (by omega) (by omega) (by omega)).mono ?_
      rintro e w' ⟨v, rfl, S1, O, _⟩
      exact ⟨_, rfl, ⟨0, ⟨v, rfl⟩, fun n hn => by cases hn⟩, SI.adv hI (by omega) ⟨k + 1, by omega, S1⟩ O, own_oth O hs⟩
    · exfalso
      cases h1 : decide (1 ≤ lo) <;> cases h2 : decide (hi ≤ 4294967296) <;> simp [h1, h2] at h
      simp at h1 h2; exact hc ⟨h1, h2⟩
  · rename_i lo lo' hi hi'
    cases hus with | cons u0 hus =>
    cases hus with | cons u1 hus =>
    cases hus with | cons u2 hus =>
    cases hus
    obtain ⟨_, t0, _⟩ := u0
    obtain ⟨_, ⟨m, rfl, m1, m2⟩, _⟩ := u1
    obtain ⟨_, ⟨n, rfl, n1, n2⟩, _⟩ := u2
    have t0 : _ = Value.pointer (some ⟨blk 0, 0, none⟩) := t0
    subst t0
    rw [hblk]
    by_cases hc : ((lo' ≤ hi ∧ -4294967296 ≤ lo) ∧ hi' ≤ 4294967296) ∧ hi' - lo < 4294967296
    · simp only [hc.1.1.1, hc.1.1.2, hc.1.2, hc.2, decide_true, Bool.and_self, cond_true, Option.some.injEq] at h
      subst h
      simp only at hK ⊢
      refine (range_c S (by omega) (by omega) (by omega) (by omega) (by omega)).mono ?_
      rintro e w' ⟨v, rfl, v0, v1, S1, O, _⟩
      exact ⟨_, rfl, ⟨0, ⟨v, rfl, by omega, by omega⟩, fun n hn => by cases hn⟩, SI.adv hI (by omega) ⟨k + 1, by omega, S1⟩ O, own_oth O hs⟩
    · exfalso
      cases h1 : decide (lo' ≤ hi) <;> cases h2 : decide (-4294967296 ≤ lo) <;> cases h3 : decide (hi' ≤ 4294967296) <;> cases h4 : decide (hi' - lo < 4294967296) <;> simp [h1, h2, h3, h4] at h
      simp only [decide_eq_true_eq] at h1 h2 h3 h4; exact hc ⟨⟨⟨h1, h2⟩, h3⟩, h4⟩
  · rename_i n
    cases hus with | cons u0 hus =>
    cases hus with | cons u1 hus =>
    cases hus
    obtain ⟨_, t0, _⟩ := u0
    obtain ⟨X, t1, hX⟩ := u1
    have t0 : _ = Value.pointer (some ⟨blk 0, 0, none⟩) := t0
    have t1 : _ = Value.slice (some ⟨X, 0, none⟩) n n := t1
    subst t0 t1
    rw [hblk]
    obtain ⟨hB, cs, el, hw, hsz, hcs⟩ := hX _ rfl
    cases h1 : Nat.ble 1 n <;> cases h2 : Nat.ble n 1000 <;> simp only [h1, h2, Bool.and_true, Bool.and_false, Bool.and_self, cond_true, cond_false] at h <;> first | (cases h; done) | skip
    simp only [Option.some.injEq] at h
    subst h
    simp only at hK ⊢
    have h1 := Nat.le_of_ble_eq_true h1
    have h2 := Nat.le_of_ble_eq_true h2
    obtain ⟨f, hf⟩ : ∃ f : Nat → Int, ∀ i, i < n → cs[i]? = some (.int .i64 (f i)) :=
      ⟨fun i => if hi : i < n * 1 then (hcs i hi).choose else 0, fun i hi => by simp only [dif_pos (show i < n * 1 by omega)]; exact (hcs i (by omega)).choose_spec⟩
    have hl : ((List.range n).map f).length = n := by simp
    have hp := pick_c (cap := n) ((List.range n).map f) S (by omega) (by omega) (by omega) (b := X) (by omega) (fun i hi => by
      rw [hl] at hi
      rw [cell_of_row w X i _ el (0, 0) hw, hf i hi]; simp [List.getD, hi])
    rw [hl] at hp
    refine hp.mono ?_
    rintro e w' ⟨v, rfl, hv, S1, O, _⟩
    exact ⟨_, rfl, ⟨0, ⟨v, rfl⟩, fun n hn => by cases hn⟩, SI.adv hI (by omega) ⟨k + 1, by omega, S1⟩ O, own_oth O hs⟩
  · rename_i τ
    cases hus with | cons u0 hus =>
    cases hus
    cases hn : isNum τ with
    | false => rw [hn] at h; cases h
    | true =>
      rw [hn] at h
      simp only [cond_true, Option.some.injEq] at h
      subst h
      obtain ⟨z, rfl⟩ := isNum_ok hn u0
      refine (operands_c z w).mono ?_
      rintro e w' ⟨rfl, rfl⟩
      exact ⟨_, rfl, ⟨0, ⟨_, rfl, by split <;> (try split) <;> omega, by split <;> (try split) <;> omega⟩, fun n hn => by cases hn⟩, hI, OwnKeep.refl _ _⟩
  · cases h
/-- a typed run of a function that only draws -/
theorem qrun {ext : FuncId → List Ty → Option HRes} (hX : ExtQ r n0 s nb blk ext) (hnb : nb[0]? = some []) {fuel f : Nat} {F : Func} (hF : Try.prog.funcs[f]? = some F) {tys : List Ty} (hty : tys.all notOwn = true) {x : HRes} (hx : notOwn x.ty = true)
    (h : ckFn (envOf Try.prog) ⟨nb, ext⟩ x.k 0 fuel F tys = some x) (hl : x.loud = false) : ExtQ1 r n0 s nb blk f tys x := by
  refine ⟨hl, fun K0 Inv SI B K N w hI hK us hus => ?_⟩
  obtain ⟨⟨k, hk, S⟩, hs⟩ := SI.strm hI
  have hN := SI.named hI
  have hB := SI.bw hI
  let J : HInv Try.prog ⟨nb, ext⟩ blk x.k 0 := {
    Inv := fun B' K' _ w' => B' = w.heap.size ∧ (∃ k, k ≤ K0 + K + K' ∧ Strm r n0 s k w') ∧ Oth s w w'
    named := fun {B' K' N' w'} ⟨e, ⟨k', _, S'⟩, O⟩ => by
      subst e
      refine ⟨hN.few, hN.inj, fun i hi => Nat.lt_of_lt_of_le (hN.lt i hi) hB, hN.short, hN.ptrs, fun i cs hi => ?_⟩
      by_cases hb : blk i = s
      · have h0 : 0 < nb.length := (List.getElem?_eq_some_iff.1 hnb).1
        have hil : i < nb.length := (List.getElem?_eq_some_iff.1 hi).1
        have : i = 0 := hN.inj i 0 hil h0 (by rw [hb, hblk])
        subst this
        rw [hnb] at hi
        cases hi
        have hc := S'.l
        unfold World.cell? at hc
        rw [hblk]
        cases hh : w'.heap[s]? with
        | none => simp [hh] at hc
        | some o =>
          cases o with
          | cells vs e fr => exact ⟨vs, e, fr, rfl, Nat.zero_le _, fun j κ hj => by simp at hj⟩
          | _ => simp [hh] at hc
      · obtain ⟨vs, e, fr, h1, h2⟩ := hN.blk i cs hi
        exact ⟨vs, e, fr, by rw [O.block _ (Array.getElem?_eq_some_iff.1 h1).1 hb]; exact h1, h2⟩
    bw := fun {B' K' N' w'} ⟨e, _, O⟩ => by subst e; exact O.size
    keep := fun {B' K' N' w' w''} ⟨e, ⟨k', hk', S'⟩, O⟩ hb _ => by
      subst e
      have hO : Oth s w' w'' → Oth s w w'' := O.trans
      refine ⟨rfl, ⟨k', hk', S'.keep fun b hb' => hb.block b ?_⟩, ⟨hb.os.trans O.os, hb.tape.trans O.tape, hb.output.trans O.output, Nat.le_trans O.size hb.size, fun c hc hcs => (hb.block c hc).trans (O.block c hc hcs)⟩⟩
      have := S'.lo
      omega
    mono := fun {B' K' N' K'' N'' w'} ⟨e, ⟨k', hk', S'⟩, O⟩ h1 _ => ⟨e, ⟨k', by omega, S'⟩, O⟩
    quiet := fun {g τs y} hy hl {B' K' N' w'} hI' hK' {us'} hus' => by
      have SI' : SInv r n0 s (K0 + K) nb blk (fun B' K' _ w' => B' = w.heap.size ∧ (∃ k, k ≤ K0 + K + K' ∧ Strm r n0 s k w') ∧ Oth s w w') := {
        strm := fun {B1 K1 N1 w1} ⟨e, S1, O⟩ => ⟨S1, by omega⟩
        adv := fun {B1 K1 K2 N1 w1 w2} ⟨e, S1, O⟩ _ S2 O2 => ⟨e, S2, O.trans O2⟩
        named := fun {B1 K1 N1 w1} ⟨e, ⟨k', _, S'⟩, O⟩ => by
          subst e
          refine ⟨hN.few, hN.inj, fun i hi => Nat.lt_of_lt_of_le (hN.lt i hi) hB, hN.short, hN.ptrs, fun i cs hi => ?_⟩
          by_cases hb : blk i = s
          · have h0 : 0 < nb.length := (List.getElem?_eq_some_iff.1 hnb).1
            have hil : i < nb.length := (List.getElem?_eq_some_iff.1 hi).1
            have : i = 0 := hN.inj i 0 hil h0 (by rw [hb, hblk])
            subst this
            rw [hnb] at hi
            cases hi
            have hc := S'.l
            unfold World.cell? at hc
            rw [hblk]
            cases hh : w1.heap[s]? with
            | none => simp [hh] at hc
            | some o =>
              cases o with
              | cells vs e fr => exact ⟨vs, e, fr, rfl, Nat.zero_le _, fun j κ hj => by simp at hj⟩
              | _ => simp [hh] at hc
          · obtain ⟨vs, e, fr, h1, h2⟩ := hN.blk i cs hi
            exact ⟨vs, e, fr, by rw [O.block _ (Array.getElem?_eq_some_iff.1 h1).1 hb]; exact h1, h2⟩
        bw := fun {B1 K1 N1 w1} ⟨e, _, O⟩ => by subst e; exact O.size }
      exact (hX hy).2 (K0 + K) _ SI' (N := N') hI' (by omega) hus'
    loud := fun {g τs y} hy hl => by have := (hX hy).1; rw [hl] at this; cases this }
  have hus2 : Tys w.heap.size blk w tys us := by
    clear h
    induction hus with
    | nil => exact .nil
    | cons h1 h2 ih =>
      simp only [List.all_cons, Bool.and_eq_true] at hty
      exact .cons (h1.plain (by simpa [notOwn] using hty.1)) (ih hty.2)
  refine (fn_sound (I := J) hmixed hF h (B := w.heap.size) ⟨rfl, ⟨k, by omega, S⟩, Oth.refl _ _⟩ hus2).mono ?_
  rintro e w' ⟨u, B', rfl, hu, rfl, ⟨k', hk', S'⟩, O⟩
  exact ⟨u, rfl, hu.plain (by simpa [notOwn] using hx), SI.adv hI (by omega) ⟨k', by omega, S'⟩ O, own_oth O hs⟩
end
/-- one function more -/
def extAdd (f : FuncId) (tys : List Ty) (x : HRes) (ext : FuncId → List Ty → Option HRes) (g : FuncId) (τs : List Ty) : Option HRes := bif Nat.beq g f && decide (τs = tys) then some x else ext g τs
theorem extAdd_ok {r : Raw} {n0 s : Nat} {nb : Nb} {blk : Nat → Nat} {f : FuncId} {tys : List Ty} {x : HRes} {ext : FuncId → List Ty → Option HRes} (h1 : ExtQ1 r n0 s nb blk f tys x) (h2 : ExtQ r n0 s nb blk ext) : ExtQ r n0 s nb blk (extAdd f tys x ext) := by
  intro g τs y h
  unfold extAdd at h
  cases hc : (Nat.beq g f && decide (τs = tys)) with
  | false => rw [hc] at h; exact h2 h
  | true =>
    rw [hc] at h
    simp only [cond_true, Option.some.injEq] at h
    simp only [Bool.and_eq_true, Nat.beq_eq, decide_eq_true_eq] at hc
    obtain ⟨rfl, rfl⟩ := hc
    subst h
    exact h1
/-! Word; reg; op -/
def nbS : Nb := [[]]
def nbC : Nb := [[], [some (.ptr 0), none, none, none, some (.rng 1 8), some (.rng 1 4), none, some (.rng 0 16)]]
def ext1 := extAdd 99 [.fld 0 0] ⟨.num, 10, 0, false⟩ ext0
end Go.Proofs.Yteabbkagekdehaa
end
section
/- The coder's functions by typed runs: Word, reg, op; memory. -/
set_option linter.unusedVariables false
set_option linter.unusedSimpArgs false
set_option maxRecDepth 100000
namespace Go.Proofs.Yteabbkagekdehaa
open Go.AE Go.RowKit Go.IntWalk
/-- the coder's block, 'set' being known -/
def nbD (a : Int) : Nb := [[], [some (.ptr 0), none, none, none, some (.rng 1 8), some (.rng 1 4), none, some (.rng a a)]]
def rWord : HRes := ⟨.rng (-2147483648) 2147483647, 3, 0, false⟩
def rReg : HRes := ⟨.num, 1, 0, false⟩
def rOp : HRes := ⟨.agg 9, 7, 0, false⟩
def extW := extAdd 99 [.fld 0 0] rWord ext0
def extR := extAdd 102 [.fld 1 0] rReg extW
def extO := extAdd 100 [.fld 1 0, .rng 11 11, .rng 8 8] rOp (extAdd 100 [.fld 1 0, .rng 2 2, .rng 6 6] rOp extR)
theorem word_S : ckFn (envOf Try.prog) ⟨nbS, ext0⟩ rWord.k 0 10 Try.f99 [.fld 0 0] = some rWord := by kernel_rfl
theorem word_0 : ckFn (envOf Try.prog) ⟨nbD 0, ext0⟩ rWord.k 0 10 Try.f99 [.fld 0 0] = some rWord := by kernel_rfl
theorem word_16 : ckFn (envOf Try.prog) ⟨nbD 16, ext0⟩ rWord.k 0 10 Try.f99 [.fld 0 0] = some rWord := by kernel_rfl
theorem reg_0 : ckFn (envOf Try.prog) ⟨nbD 0, extW⟩ rReg.k 0 10 Try.f102 [.fld 1 0] = some rReg := by kernel_rfl
theorem reg_16 : ckFn (envOf Try.prog) ⟨nbD 16, extW⟩ rReg.k 0 10 Try.f102 [.fld 1 0] = some rReg := by kernel_rfl
theorem op2_0 : ckFn (envOf Try.prog) ⟨nbD 0, extR⟩ rOp.k 0 10 Try.f100 [.fld 1 0, .rng 2 2, .rng 6 6] = some rOp := by kernel_rfl
theorem op2_16 : ckFn (envOf Try.prog) ⟨nbD 16, extR⟩ rOp.k 0 10 Try.f100 [.fld 1 0, .rng 2 2, .rng 6 6] = some rOp := by kernel_rfl
theorem op11_0 : ckFn (envOf Try.prog) ⟨nbD 0, extR⟩ rOp.k 0 10 Try.f100 [.fld 1 0, .rng 11 11, .rng 8 8] = some rOp := by kernel_rfl
theorem op11_16 : ckFn (envOf Try.prog) ⟨nbD 16, extR⟩ rOp.k 0 10 Try.f100 [.fld 1 0, .rng 11 11, .rng 8 8] = some rOp := by kernel_rfl
section
variable {r : Raw} {n0 s : Nat} {blk : Nat → Nat} (hblk : blk 0 = s)
include hblk
theorem extW_0 : ExtQ r n0 s (nbD 0) blk extW := extAdd_ok (qrun hblk (ext0_ok hblk) rfl Try.func99 rfl (x := rWord) rfl word_0 rfl) (ext0_ok hblk)
theorem extW_16 : ExtQ r n0 s (nbD 16) blk extW := extAdd_ok (qrun hblk (ext0_ok hblk) rfl Try.func99 rfl (x := rWord) rfl word_16 rfl) (ext0_ok hblk)
theorem extR_0 : ExtQ r n0 s (nbD 0) blk extR := extAdd_ok (qrun hblk (extW_0 hblk) rfl Try.func102 rfl (x := rReg) rfl reg_0 rfl) (extW_0 hblk)
theorem extR_16 : ExtQ r n0 s (nbD 16) blk extR := extAdd_ok (qrun hblk (extW_16 hblk) rfl Try.func102 rfl (x := rReg) rfl reg_16 rfl) (extW_16 hblk)
theorem extO_0 : ExtQ r n0 s (nbD 0) blk extO := extAdd_ok (qrun hblk (extR_0 hblk) rfl Try.func100 rfl (x := rOp) rfl op11_0 rfl) (extAdd_ok (qrun hblk (extR_0 hblk) rfl Try.func100 rfl (x := rOp) rfl op2_0 rfl) (extR_0 hblk))
theorem extO_16 : ExtQ r n0 s (nbD 16) blk extO := extAdd_ok (qrun hblk (extR_16 hblk) rfl Try.func100 rfl (x := rOp) rfl op11_16 rfl) (extAdd_ok (qrun hblk (extR_16 hblk) rfl Try.func100 rfl (x := rOp) rfl op2_16 rfl) (extR_16 hblk))
end
theorem extO_ok {r : Raw} {n0 s : Nat} {blk : Nat → Nat} (hblk : blk 0 = s) {st : Int} (hst : st = 0 ∨ st = 16) : ExtQ r n0 s (nbD st) blk extO := by
  rcases hst with rfl | rfl
  · exact extO_0 hblk
  · exact extO_16 hblk

/-! ### What stays true while the code grows -/
structure LI (r : Raw) (n0 s b base : Nat) (l q st : Int) (W0 : World) (K0 N0 B K N : Nat) (w : World) : Prop where
  bw : B ≤ w.heap.size
  bB : b < B
  sB : s < B
  baseB : base ≤ B
  cs : ∃ n, N0 ≤ n ∧ n ≤ N0 + N ∧ CS r n0 s b base l q st W0 (K0 + K) n w
  row : ∀ a n cap k, w.cell? ⟨b, 6, none⟩ = some (.slice a n cap) → (Value.slice a n cap).ownBlock = some k → k < B
section
variable {r : Raw} {n0 s b base : Nat} {l q st : Int} {W0 : World} {K0 N0 : Nat}
theorem LI.start {K n : Nat} {w : World} (h : CS r n0 s b base l q st W0 K n w) : LI r n0 s b base l q st W0 K n w.heap.size 0 0 w := by
  have hlt := h.c.lt
  obtain ⟨a, cap, zs, c6, hown⟩ := h.c.row
  refine ⟨Nat.le_refl _, by omega, by omega, hlt.2.2.2.2, ⟨n, Nat.le_refl _, Nat.le_refl _, h⟩, fun a' n' cap' k h1 h2 => ?_⟩
  rw [c6] at h1
  cases h1
  exact (hown.lt k h2).2
theorem LI.mk' {K n K1 N1 : Nat} {w : World} (h : CS r n0 s b base l q st W0 (K0 + K1) n w) (h1 : N0 ≤ n) (h2 : n ≤ N0 + N1) : LI r n0 s b base l q st W0 K0 N0 w.heap.size K1 N1 w := by
  have hlt := h.c.lt
  obtain ⟨a, cap, zs, c6, hown⟩ := h.c.row
  refine ⟨Nat.le_refl _, by omega, by omega, hlt.2.2.2.2, ⟨n, h1, h2, h⟩, fun a' n' cap' k h1 h2 => ?_⟩
  rw [c6] at h1
  cases h1
  exact (hown.lt k h2).2
theorem LI.keep {B K N : Nat} {w w' : World} (h : LI r n0 s b base l q st W0 K0 N0 B K N w) (hb : Below B w w') : LI r n0 s b base l q st W0 K0 N0 B K N w' := by
  obtain ⟨n, h1, h2, C, O⟩ := h.cs
  obtain ⟨k, hk, S⟩ := C.S
  obtain ⟨a, cap, zs, c6, hown⟩ := C.row
  have bB := h.bB
  have sB := h.sB
  have c : ∀ o, w'.cell? ⟨b, o, none⟩ = w.cell? ⟨b, o, none⟩ := fun o => World.cell?_of_block (w := w) (hb.block b bB)
  have hrow := h.row a n cap
  have baseB := h.baseB
  refine ⟨Nat.le_trans h.bw hb.size, bB, sB, baseB, ⟨n, h1, h2, ⟨⟨k, hk, S.keep fun x hx => hb.block x ?_⟩, ⟨C.lt.1, C.lt.2.1, C.lt.2.2.1, C.lt.2.2.2.1, Nat.le_trans C.lt.2.2.2.2 hb.size⟩, by rw [c]; exact C.cP, by rw [c]; exact C.cL, by rw [c]; exact C.cQ, ⟨a, cap, zs, by rw [c]; exact c6, ?_⟩, by rw [c]; exact C.cS, fun o => ?_⟩, ⟨hb.os.trans O.os, hb.tape.trans O.tape, hb.output.trans O.output, Nat.le_trans O.size hb.size, fun k h1 h2 h3 => (hb.block k (by omega)).trans (O.block k h1 h2 h3)⟩⟩, fun a' n' cap' k h1 h2 => ?_⟩
  · have := S.lo; omega
  · obtain ⟨q1, q2⟩ := hown
    refine ⟨q1, ?_⟩
    rcases q2 with q2 | ⟨g, cap', cur, hv, hg, hh, rr⟩
    · exact .inl q2
    · refine .inr ⟨g, cap', cur, hv, hg, ?_, rr⟩
      have : g < B := hrow g c6 (by rw [hv]; rfl)
      rw [hb.block g this]; exact hh
  · rw [World.frozen?_of_block (w := w) (hb.block b bB)]; exact C.fz o
  · rw [c] at h1
    exact h.row a' n' cap' k h1 h2
theorem LI.mono {B K N K' N' : Nat} {w : World} (h : LI r n0 s b base l q st W0 K0 N0 B K N w) (hK : K ≤ K') (hN : N ≤ N') : LI r n0 s b base l q st W0 K0 N0 B K' N' w := by
  obtain ⟨n, h1, h2, C⟩ := h.cs
  exact ⟨h.bw, h.bB, h.sB, h.baseB, ⟨n, h1, by omega, C.mono (by omega)⟩, h.row⟩
theorem LI.sinv {blk : Nat → Nat} (h0 : blk 0 = s) (h1 : blk 1 = b) (hl : 1 ≤ l ∧ l ≤ 8) (hq : 1 ≤ q ∧ q ≤ 4) : SInv r n0 s K0 (nbD st) blk (LI r n0 s b base l q st W0 K0 N0) where
  strm h := ⟨by obtain ⟨n, _, _, C⟩ := h.cs; exact C.c.S, h.sB⟩
  adv {B K K' N w w'} h hK hS O := by
    obtain ⟨n, h1, h2, C⟩ := h.cs
    obtain ⟨k', hk', S'⟩ := hS
    have hbs : b ≠ s := fun e => C.c.lt.2.1 e.symm
    have hbw : b < w.heap.size := Nat.lt_of_lt_of_le h.bB h.bw
    refine ⟨Nat.le_trans h.bw O.size, h.bB, h.sB, h.baseB, ⟨n, h1, h2, C.oth hk' S' O⟩, fun a n cap k h3 h4 => ?_⟩
    rw [O.cell hbw hbs] at h3
    exact h.row a n cap k h3 h4
  bw h := h.bw
  named {B K N w} h := by
    obtain ⟨n, _, _, C, _⟩ := h.cs
    have hbs : b ≠ s := fun e => C.lt.2.1 e.symm
    obtain ⟨k, _, S⟩ := C.S
    have blkOf : ∀ {c : Nat} {o : Nat} {v : Value}, w.cell? ⟨c, o, none⟩ = some v → ∃ vs e fr, w.heap[c]? = some (.cells vs e fr) ∧ vs[o]? = some v := fun {c o v} hc => by
      unfold World.cell? at hc
      cases hh : w.heap[c]? with
      | none => simp [hh] at hc
      | some ob =>
        cases ob with
        | cells vs e fr => exact ⟨vs, e, fr, rfl, by simpa [hh] using hc⟩
        | _ => simp [hh] at hc
    refine ⟨by simp [nbD], fun i j hi hj he => ?_, fun i hi => ?_, fun i cs hi => ?_, fun i cs j k hi hj => ?_, fun i cs hi => ?_⟩
    · have hi' : i = 0 ∨ i = 1 := by simp [nbD] at hi; omega
      have hj' : j = 0 ∨ j = 1 := by simp [nbD] at hj; omega
      rcases hi' with rfl | rfl <;> rcases hj' with rfl | rfl
      · rfl
      · rw [h0, h1] at he; exact absurd he.symm hbs
      · rw [h0, h1] at he; exact absurd he hbs
      · rfl
    · have hi' : i = 0 ∨ i = 1 := by simp [nbD] at hi; omega
      rcases hi' with rfl | rfl
      · rw [h0]; exact h.sB
      · rw [h1]; exact h.bB
    · match i, hi with
      | 0, hi => cases hi; simp
      | 1, hi => cases hi; simp
    · match i, hi with
      | 0, hi => cases hi; simp at hj
      | 1, hi =>
        cases hi
        match j, hj with
        | 0, hj => cases hj; simp [nbD]
        | j + 8, hj => simp at hj
    · match i, hi with
      | 0, hi =>
        cases hi
        obtain ⟨vs, e, fr, q1, _⟩ := blkOf S.l
        exact ⟨vs, e, fr, by rw [h0]; exact q1, Nat.zero_le _, fun j κ hj => by simp at hj⟩
      | 1, hi =>
        cases hi
        obtain ⟨vs, e, fr, q1, q2⟩ := blkOf C.cP
        obtain ⟨vs4, e4, fr4, q14, q24⟩ := blkOf C.cL
        obtain ⟨vs5, e5, fr5, q15, q25⟩ := blkOf C.cQ
        obtain ⟨vs7, e7, fr7, q17, q27⟩ := blkOf C.cS
        rw [q1] at q14 q15 q17
        cases q14; cases q15; cases q17
        refine ⟨vs, e, fr, by rw [h1]; exact q1, ?_, fun j κ hj => ?_⟩
        · have := (Array.getElem?_eq_some_iff.1 q27).1
          simp; omega
        · match j, hj with
          | 0, hj => cases hj; exact ⟨_, q2, by simp only [NTy.ok, h0]⟩
          | 4, hj => cases hj; exact ⟨_, q24, l, rfl, hl⟩
          | 5, hj => cases hj; exact ⟨_, q25, q, rfl, hq⟩
          | 7, hj => cases hj; exact ⟨_, q27, st, rfl, Int.le_refl _, Int.le_refl _⟩
          | j + 8, hj => simp at hj
/-- functions that add to the code -/
def Loud1 (r : Raw) (n0 s b base : Nat) (l q st : Int) (W0 : World) (f : FuncId) (τs : List Ty) (x : HRes) : Prop :=
  x.loud = true ∧ x.ty = .unit ∧ ∀ {K n B : Nat} {w : World} {blk : Nat → Nat}, blk 0 = s → blk 1 = b → CS r n0 s b base l q st W0 K n w → K + x.k ≤ 900000 → n + x.n ≤ 90000 → ∀ {us : List Value}, Tys B blk w τs us →
    Calls Try.prog f us.toArray w fun e w' => ∃ u, e = .returned u ∧ ∃ n', n ≤ n' ∧ n' ≤ n + x.n ∧ CS r n0 s b base l q st W0 (K + x.k) n' w'
def LoudX (r : Raw) (n0 s b base : Nat) (l q st : Int) (W0 : World) (ext : FuncId → List Ty → Option HRes) : Prop := ∀ {f τs x}, ext f τs = some x → (ext0 f τs = none ∨ True) ∧ ((∀ blk : Nat → Nat, blk 0 = s → ExtQ1 r n0 s (nbD st) blk f τs x) ∨ Loud1 r n0 s b base l q st W0 f τs x)
theorem loudAdd_ok {f : FuncId} {tys : List Ty} {x : HRes} {ext : FuncId → List Ty → Option HRes} (h1 : Loud1 r n0 s b base l q st W0 f tys x) (h2 : LoudX r n0 s b base l q st W0 ext) : LoudX r n0 s b base l q st W0 (extAdd f tys x ext) := by
  intro g τs y h
  unfold extAdd at h
  cases hc : (Nat.beq g f && decide (τs = tys)) with
  | false => rw [hc] at h; exact h2 h
  | true =>
    rw [hc] at h
    simp only [cond_true, Option.some.injEq] at h
    simp only [Bool.and_eq_true, Nat.beq_eq, decide_eq_true_eq] at hc
    obtain ⟨rfl, rfl⟩ := hc
    subst h
    exact ⟨.inr trivial, .inr h1⟩
/-- the condition of the typed runs that add to the code -/
def linv {ext : FuncId → List Ty → Option HRes} (hX : LoudX r n0 s b base l q st W0 ext) {blk : Nat → Nat} (h0 : blk 0 = s) (h1 : blk 1 = b) (hl : 1 ≤ l ∧ l ≤ 8) (hq : 1 ≤ q ∧ q ≤ 4) (K0 N0 Kmax Nmax : Nat) (hK : K0 + Kmax ≤ 900000) (hN : N0 + Nmax ≤ 90000) : HInv Try.prog ⟨nbD st, ext⟩ blk Kmax Nmax where
  Inv := LI r n0 s b base l q st W0 K0 N0
  named h := (LI.sinv h0 h1 hl hq).named h
  bw h := h.bw
  keep h hb _ := h.keep hb
  mono h h1 h2 := h.mono h1 h2
  quiet {f τs x} hx hlo {B K N w} hI hK' {us} hus := by
    obtain ⟨_, h | h⟩ := hX hx
    · exact (h blk h0).2 K0 _ (LI.sinv h0 h1 hl hq) (N := N) hI (by omega) hus
    · have := h.1; rw [hlo] at this; cases this
  loud {f τs x} hx hlo {B K N w} hI hK' hN' {us} hus := by
    obtain ⟨_, h | h⟩ := hX hx
    · have := (h blk h0).1; rw [hlo] at this; cases this
    · obtain ⟨n, g1, g2, C⟩ := hI.cs
      refine (h.2.2 h0 h1 C (by omega) (by omega) hus).mono ?_
      rintro e w' ⟨u, rfl, n', k1, k2, C'⟩
      exact ⟨u, w'.heap.size, rfl, by rw [h.2.1]; rfl, ⟨0, by rw [h.2.1]; trivial, fun m hm => by rw [h.2.1] at hm; cases hm⟩, LI.mk' (K := 0) (by rw [← Nat.add_assoc]; exact C') (by omega) (by omega)⟩
theorem lrun {ext : FuncId → List Ty → Option HRes} (hX : LoudX r n0 s b base l q st W0 ext) (hl : 1 ≤ l ∧ l ≤ 8) (hq : 1 ≤ q ∧ q ≤ 4) {fuel f : Nat} {F : Func} (hF : Try.prog.funcs[f]? = some F) {tys : List Ty} (hty : tys.all notOwn = true) {x : HRes} {y : Bool}
    {k' n' : Nat} (h : ckFn (envOf Try.prog) ⟨nbD st, ext⟩ x.k x.n fuel F tys = some ⟨.unit, k', n', y⟩) (hlo : x.loud = true) (hun : x.ty = .unit) (hk' : k' ≤ x.k) (hn' : n' ≤ x.n) : Loud1 r n0 s b base l q st W0 f tys x := by
  refine ⟨hlo, hun, fun {K n B w blk} h0 h1 C hK hN {us} hus => ?_⟩
  have hus2 : Tys w.heap.size blk w tys us := by
    clear h
    induction hus with
    | nil => exact .nil
    | cons h1 h2 ih =>
      simp only [List.all_cons, Bool.and_eq_true] at hty
      exact .cons (h1.plain (by simpa [notOwn] using hty.1)) (ih hty.2)
  refine (fn_sound (I := linv hX h0 h1 hl hq K n x.k x.n hK hN) hmixed hF h (B := w.heap.size) (LI.start C) hus2).mono ?_
  rintro e w' ⟨u, B', rfl, _, hI⟩
  obtain ⟨n2, g1, g2, C'⟩ := hI.cs
  simp only at g2 C'
  exact ⟨u, rfl, n2, g1, by omega, C'.mono (by omega)⟩
/-! add, memory -/
def rAdd : HRes := ⟨.unit, 0, 1, true⟩
theorem add_L : Loud1 r n0 s b base l q st W0 82 [.fld 1 0, .agg 9] rAdd := by
  refine ⟨rfl, rfl, fun {K n B w blk} h0 h1 C hK hN {us} hus => ?_⟩
  cases hus with | cons u0 hus =>
  cases hus with | cons u1 hus =>
  cases hus
  obtain ⟨_, t0, _⟩ := u0
  obtain ⟨_, ⟨zs, hz, rfl⟩, _⟩ := u1
  have t0 : _ = Value.pointer (some ⟨blk 1, 0, none⟩) := t0
  subst t0
  rw [h1]
  match zs, hz with
  | [x0, x1, x2, x3, x4, x5, x6, x7, x8], _ =>
    refine (cadd C (by omega) x0 x1 x2 x3 x4 x5 x6 x7 x8).mono ?_
    rintro e w' ⟨rfl, C'⟩
    exact ⟨_, rfl, n + 1, by omega, Nat.le_refl _, C'⟩
def extA := extAdd 82 [.fld 1 0, .agg 9] rAdd extO
theorem extA_ok (hst : st = 0 ∨ st = 16) : LoudX r n0 s b base l q st W0 extA := loudAdd_ok add_L fun h => ⟨.inr trivial, .inl fun blk h0 => extO_ok h0 hst h⟩
def rMem : HRes := ⟨.unit, 12, 2, true⟩
theorem mem_0 : ckFn (envOf Try.prog) ⟨nbD 0, extA⟩ rMem.k rMem.n 10 Try.f101 [.fld 1 0] = some ⟨.unit, 11, 2, false⟩ := by kernel_rfl
theorem mem_16 : ckFn (envOf Try.prog) ⟨nbD 16, extA⟩ rMem.k rMem.n 10 Try.f101 [.fld 1 0] = some ⟨.unit, 12, 2, false⟩ := by kernel_rfl
theorem mem_L (hst : st = 0 ∨ st = 16) (hl : 1 ≤ l ∧ l ≤ 8) (hq : 1 ≤ q ∧ q ≤ 4) : Loud1 r n0 s b base l q st W0 101 [.fld 1 0] rMem := by
  rcases hst with rfl | rfl
  · exact lrun (extA_ok (.inl rfl)) hl hq Try.func101 rfl (x := rMem) mem_0 rfl rfl (by decide) (by decide)
  · exact lrun (extA_ok (.inr rfl)) hl hq Try.func101 rfl (x := rMem) mem_16 rfl rfl (by decide) (by decide)
end
end Go.Proofs.Yteabbkagekdehaa
end
