/- The coder's functions by typed runs: the stream's functions; reg and op. -/
import Derived.Test.YteabbkagekdehaaHvA
import Derived.Test.YteabbkagekdehaaCod3
set_option linter.unusedVariables false
set_option linter.unusedSimpArgs false
namespace Go.Proofs.Yteabbkagekdehaa
open Go.AE Go.RowKit Go.IntWalk
def isNum : Ty → Bool
  | .num => true
  | .rng _ _ => true
  | _ => false
/-- the stream's functions: Next, Flip, Range, Pick, Word; Operands -/
def ext0 (f : FuncId) (τs : List Ty) : Option HRes := match f, τs with
  | 23, [.fld 0 0, .rng lo hi] => bif decide (1 ≤ lo) && decide (hi ≤ 4294967296) then some ⟨.rng 0 (hi - 1), 1, 0, false⟩ else none
  | 11, [.fld 0 0, .rng lo hi] => bif decide (1 ≤ lo) && decide (hi ≤ 4294967296) then some ⟨.bool, 1, 0, false⟩ else none
  | 34, [.fld 0 0, .rng lo lo', .rng hi hi'] => bif decide (lo' ≤ hi) && decide (-4294967296 ≤ lo) && decide (hi' ≤ 4294967296) && decide (hi' - lo < 4294967296) then some ⟨.rng lo hi', 1, 0, false⟩ else none
  | 9, [.fld 0 0, .sl n 1] => bif Nat.ble 1 n && Nat.ble n 1000 then some ⟨.num, 1, 0, false⟩ else none
  | 119, [τ] => bif isNum τ then some ⟨.rng 1 3, 0, 0, false⟩ else none
  | _, _ => none
/-- what the stream's functions ask of what stays true -/
structure SInv (r : Raw) (n0 s K0 : Nat) (nb : Nb) (blk : Nat → Nat) (Inv : Nat → Nat → Nat → World → Prop) : Prop where
  strm : ∀ {B K N w}, Inv B K N w → (∃ k, k ≤ K0 + K ∧ Strm r n0 s k w) ∧ s < B
  adv : ∀ {B K K' N w w'}, Inv B K N w → K ≤ K' → (∃ k, k ≤ K0 + K' ∧ Strm r n0 s k w') → Oth s w w' → Inv B K' N w'
  named : ∀ {B K N w}, Inv B K N w → Named nb blk B w
  bw : ∀ {B K N w}, Inv B K N w → B ≤ w.heap.size
theorem own_oth {s B : Nat} {w w' : World} (O : Oth s w w') (h : s < B) : OwnKeep B w w' := fun n X hB hX => by
  obtain ⟨cs, e, h1, h2⟩ := hX
  exact ⟨cs, e, by rw [O.block X (Array.getElem?_eq_some_iff.1 h1).1 (by omega)]; exact h1, h2⟩
theorem isNum_ok {B : Nat} {blk : Nat → Nat} {w : World} {τ : Ty} {u : Value} (h : isNum τ = true) (hu : HasTy B blk w τ u) : ∃ z, u = .int .i64 z := by
  obtain ⟨X, h1, _⟩ := hu
  cases τ <;> first | (cases h; done) | skip
  · exact h1
  · obtain ⟨z, rfl, _⟩ := h1; exact ⟨z, rfl⟩
/-- functions that only draw -/
def ExtQ1 (r : Raw) (n0 s : Nat) (nb : Nb) (blk : Nat → Nat) (f : FuncId) (τs : List Ty) (x : HRes) : Prop :=
  x.loud = false ∧ ∀ (K0 : Nat) (Inv : Nat → Nat → Nat → World → Prop), SInv r n0 s K0 nb blk Inv → ∀ {B K N : Nat} {w : World}, Inv B K N w → K0 + K + x.k ≤ 900000 → ∀ {us : List Value}, Tys B blk w τs us →
    Calls Try.prog f us.toArray w fun e w' => ∃ u, e = .returned u ∧ HasTy B blk w' x.ty u ∧ Inv B (K + x.k) N w' ∧ OwnKeep B w w'
def ExtQ (r : Raw) (n0 s : Nat) (nb : Nb) (blk : Nat → Nat) (ext : FuncId → List Ty → Option HRes) : Prop := ∀ {f τs x}, ext f τs = some x → ExtQ1 r n0 s nb blk f τs x
theorem ext0_loud {f : FuncId} {τs : List Ty} {x : HRes} (h : ext0 f τs = some x) : x.loud = false := by
  unfold ext0 at h
  split at h
  · rename_i lo hi
    cases hc : (decide (1 ≤ lo) && decide (hi ≤ 4294967296)) <;> rw [hc] at h <;> cases h; rfl
  · rename_i lo hi
    cases hc : (decide (1 ≤ lo) && decide (hi ≤ 4294967296)) <;> rw [hc] at h <;> cases h; rfl
  · rename_i lo lo' hi hi'
    cases hc : (decide (lo' ≤ hi) && decide (-4294967296 ≤ lo) && decide (hi' ≤ 4294967296) && decide (hi' - lo < 4294967296)) <;> rw [hc] at h <;> cases h; rfl
  · rename_i n
    cases hc : (Nat.ble 1 n && Nat.ble n 1000) <;> rw [hc] at h <;> cases h; rfl
  · rename_i τ
    cases hc : isNum τ <;> rw [hc] at h <;> cases h; rfl
  · cases h
section
variable {r : Raw} {n0 s : Nat} {nb : Nb} {blk : Nat → Nat} (hblk : blk 0 = s)
include hblk
theorem ext0_ok : ExtQ r n0 s nb blk ext0 := by
  intro f τs x h
  refine ⟨ext0_loud h, fun K0 Inv SI B K N w hI hK us hus => ?_⟩
  obtain ⟨⟨k, hk, S⟩, hs⟩ := SI.strm hI
  unfold ext0 at h
  split at h
  · rename_i lo hi
    cases hus with | cons u0 hus =>
    cases hus with | cons u1 hus =>
    cases hus
    obtain ⟨_, t0, _⟩ := u0
    obtain ⟨_, ⟨m, rfl, m1, m2⟩, _⟩ := u1
    have t0 : _ = Value.pointer (some ⟨blk 0, 0, none⟩) := t0
    subst t0
    rw [hblk]
    by_cases hc : 1 ≤ lo ∧ hi ≤ 4294967296
    · simp only [hc.1, hc.2, decide_true, Bool.and_self, cond_true, Option.some.injEq] at h
      subst h
      simp only at hK ⊢
      refine (next_c S (by omega) (by omega) (by omega)).mono ?_
      rintro e w' ⟨v, rfl, v0, v1, S1, O, _⟩
      exact ⟨_, rfl, ⟨0, ⟨v, rfl, v0, by omega⟩, fun n hn => by cases hn⟩, SI.adv hI (by omega) ⟨k + 1, by omega, S1⟩ O, own_oth O hs⟩
    · exfalso
      cases h1 : decide (1 ≤ lo) <;> cases h2 : decide (hi ≤ 4294967296) <;> simp [h1, h2] at h
      simp at h1 h2; exact hc ⟨h1, h2⟩
  · rename_i lo hi
    cases hus with | cons u0 hus =>
    cases hus with | cons u1 hus =>
    cases hus
    obtain ⟨_, t0, _⟩ := u0
    obtain ⟨_, ⟨m, rfl, m1, m2⟩, _⟩ := u1
    have t0 : _ = Value.pointer (some ⟨blk 0, 0, none⟩) := t0
    subst t0
    rw [hblk]
    by_cases hc : 1 ≤ lo ∧ hi ≤ 4294967296
    · simp only [hc.1, hc.2, decide_true, Bool.and_self, cond_true, Option.some.injEq] at h
      subst h
      simp only at hK ⊢
      refine (flip_c S (by omega) (by omega) (by omega)).mono ?_
      rintro e w' ⟨v, rfl, S1, O, _⟩
      exact ⟨_, rfl, ⟨0, ⟨v, rfl⟩, fun n hn => by cases hn⟩, SI.adv hI (by omega) ⟨k + 1, by omega, S1⟩ O, own_oth O hs⟩
    · exfalso
      cases h1 : decide (1 ≤ lo) <;> cases h2 : decide (hi ≤ 4294967296) <;> simp [h1, h2] at h
      simp at h1 h2; exact hc ⟨h1, h2⟩
  · rename_i lo lo' hi hi'
    cases hus with | cons u0 hus =>
    cases hus with | cons u1 hus =>
    cases hus with | cons u2 hus =>
    cases hus
    obtain ⟨_, t0, _⟩ := u0
    obtain ⟨_, ⟨m, rfl, m1, m2⟩, _⟩ := u1
    obtain ⟨_, ⟨n, rfl, n1, n2⟩, _⟩ := u2
    have t0 : _ = Value.pointer (some ⟨blk 0, 0, none⟩) := t0
    subst t0
    rw [hblk]
    by_cases hc : ((lo' ≤ hi ∧ -4294967296 ≤ lo) ∧ hi' ≤ 4294967296) ∧ hi' - lo < 4294967296
    · simp only [hc.1.1.1, hc.1.1.2, hc.1.2, hc.2, decide_true, Bool.and_self, cond_true, Option.some.injEq] at h
      subst h
      simp only at hK ⊢
      refine (range_c S (by omega) (by omega) (by omega) (by omega) (by omega)).mono ?_
      rintro e w' ⟨v, rfl, v0, v1, S1, O, _⟩
      exact ⟨_, rfl, ⟨0, ⟨v, rfl, by omega, by omega⟩, fun n hn => by cases hn⟩, SI.adv hI (by omega) ⟨k + 1, by omega, S1⟩ O, own_oth O hs⟩
    · exfalso
      cases h1 : decide (lo' ≤ hi) <;> cases h2 : decide (-4294967296 ≤ lo) <;> cases h3 : decide (hi' ≤ 4294967296) <;> cases h4 : decide (hi' - lo < 4294967296) <;> simp [h1, h2, h3, h4] at h
      simp only [decide_eq_true_eq] at h1 h2 h3 h4; exact hc ⟨⟨⟨h1, h2⟩, h3⟩, h4⟩
  · rename_i n
    cases hus with | cons u0 hus =>
    cases hus with | cons u1 hus =>
    cases hus
    obtain ⟨_, t0, _⟩ := u0
    obtain ⟨X, t1, hX⟩ := u1
    have t0 : _ = Value.pointer (some ⟨blk 0, 0, none⟩) := t0
    have t1 : _ = Value.slice (some ⟨X, 0, none⟩) n n := t1
    subst t0 t1
    rw [hblk]
    obtain ⟨hB, cs, el, hw, hsz, hcs⟩ := hX _ rfl
    cases h1 : Nat.ble 1 n <;> cases h2 : Nat.ble n 1000 <;> simp only [h1, h2, Bool.and_true, Bool.and_false, Bool.and_self, cond_true, cond_false] at h <;> first | (cases h; done) | skip
    simp only [Option.some.injEq] at h
    subst h
    simp only at hK ⊢
    have h1 := Nat.le_of_ble_eq_true h1
    have h2 := Nat.le_of_ble_eq_true h2
    obtain ⟨f, hf⟩ : ∃ f : Nat → Int, ∀ i, i < n → cs[i]? = some (.int .i64 (f i)) :=
      ⟨fun i => if hi : i < n * 1 then (hcs i hi).choose else 0, fun i hi => by simp only [dif_pos (show i < n * 1 by omega)]; exact (hcs i (by omega)).choose_spec⟩
    have hl : ((List.range n).map f).length = n := by simp
    have hp := pick_c (cap := n) ((List.range n).map f) S (by omega) (by omega) (by omega) (b := X) (by omega) (fun i hi => by
      rw [hl] at hi
      rw [cell_of_row w X i _ el (0, 0) hw, hf i hi]; simp [List.getD, hi])
    rw [hl] at hp
    refine hp.mono ?_
    rintro e w' ⟨v, rfl, hv, S1, O, _⟩
    exact ⟨_, rfl, ⟨0, ⟨v, rfl⟩, fun n hn => by cases hn⟩, SI.adv hI (by omega) ⟨k + 1, by omega, S1⟩ O, own_oth O hs⟩
  · rename_i τ
    cases hus with | cons u0 hus =>
    cases hus
    cases hn : isNum τ with
    | false => rw [hn] at h; cases h
    | true =>
      rw [hn] at h
      simp only [cond_true, Option.some.injEq] at h
      subst h
      obtain ⟨z, rfl⟩ := isNum_ok hn u0
      refine (operands_c z w).mono ?_
      rintro e w' ⟨rfl, rfl⟩
      exact ⟨_, rfl, ⟨0, ⟨_, rfl, by split <;> (try split) <;> omega, by split <;> (try split) <;> omega⟩, fun n hn => by cases hn⟩, hI, OwnKeep.refl _ _⟩
  · cases h
/-- a typed run of a function that only draws -/
theorem qrun {ext : FuncId → List Ty → Option HRes} (hX : ExtQ r n0 s nb blk ext) (hnb : nb[0]? = some []) {fuel f : Nat} {F : Func} (hF : Try.prog.funcs[f]? = some F) {tys : List Ty} (hty : tys.all notOwn = true) {x : HRes} (hx : notOwn x.ty = true)
    (h : ckFn (envOf Try.prog) ⟨nb, ext⟩ x.k 0 fuel F tys = some x) (hl : x.loud = false) : ExtQ1 r n0 s nb blk f tys x := by
  refine ⟨hl, fun K0 Inv SI B K N w hI hK us hus => ?_⟩
  obtain ⟨⟨k, hk, S⟩, hs⟩ := SI.strm hI
  have hN := SI.named hI
  have hB := SI.bw hI
  let J : HInv Try.prog ⟨nb, ext⟩ blk x.k 0 := {
    Inv := fun B' K' _ w' => B' = w.heap.size ∧ (∃ k, k ≤ K0 + K + K' ∧ Strm r n0 s k w') ∧ Oth s w w'
    named := fun {B' K' N' w'} ⟨e, ⟨k', _, S'⟩, O⟩ => by
      subst e
      refine ⟨hN.few, hN.inj, fun i hi => Nat.lt_of_lt_of_le (hN.lt i hi) hB, hN.short, hN.ptrs, fun i cs hi => ?_⟩
      by_cases hb : blk i = s
      · have h0 : 0 < nb.length := (List.getElem?_eq_some_iff.1 hnb).1
        have hil : i < nb.length := (List.getElem?_eq_some_iff.1 hi).1
        have : i = 0 := hN.inj i 0 hil h0 (by rw [hb, hblk])
        subst this
        rw [hnb] at hi
        cases hi
        have hc := S'.l
        unfold World.cell? at hc
        rw [hblk]
        cases hh : w'.heap[s]? with
        | none => simp [hh] at hc
        | some o =>
          cases o with
          | cells vs e fr => exact ⟨vs, e, fr, rfl, Nat.zero_le _, fun j κ hj => by simp at hj⟩
          | _ => simp [hh] at hc
      · obtain ⟨vs, e, fr, h1, h2⟩ := hN.blk i cs hi
        exact ⟨vs, e, fr, by rw [O.block _ (Array.getElem?_eq_some_iff.1 h1).1 hb]; exact h1, h2⟩
    bw := fun {B' K' N' w'} ⟨e, _, O⟩ => by subst e; exact O.size
    keep := fun {B' K' N' w' w''} ⟨e, ⟨k', hk', S'⟩, O⟩ hb _ => by
      subst e
      have hO : Oth s w' w'' → Oth s w w'' := O.trans
      refine ⟨rfl, ⟨k', hk', S'.keep fun b hb' => hb.block b ?_⟩, ⟨hb.os.trans O.os, hb.tape.trans O.tape, hb.output.trans O.output, Nat.le_trans O.size hb.size, fun c hc hcs => (hb.block c hc).trans (O.block c hc hcs)⟩⟩
      have := S'.lo
      omega
    mono := fun {B' K' N' K'' N'' w'} ⟨e, ⟨k', hk', S'⟩, O⟩ h1 _ => ⟨e, ⟨k', by omega, S'⟩, O⟩
    quiet := fun {g τs y} hy hl {B' K' N' w'} hI' hK' {us'} hus' => by
      have SI' : SInv r n0 s (K0 + K) nb blk (fun B' K' _ w' => B' = w.heap.size ∧ (∃ k, k ≤ K0 + K + K' ∧ Strm r n0 s k w') ∧ Oth s w w') := {
        strm := fun {B1 K1 N1 w1} ⟨e, S1, O⟩ => ⟨S1, by omega⟩
        adv := fun {B1 K1 K2 N1 w1 w2} ⟨e, S1, O⟩ _ S2 O2 => ⟨e, S2, O.trans O2⟩
        named := fun {B1 K1 N1 w1} ⟨e, ⟨k', _, S'⟩, O⟩ => by
          subst e
          refine ⟨hN.few, hN.inj, fun i hi => Nat.lt_of_lt_of_le (hN.lt i hi) hB, hN.short, hN.ptrs, fun i cs hi => ?_⟩
          by_cases hb : blk i = s
          · have h0 : 0 < nb.length := (List.getElem?_eq_some_iff.1 hnb).1
            have hil : i < nb.length := (List.getElem?_eq_some_iff.1 hi).1
            have : i = 0 := hN.inj i 0 hil h0 (by rw [hb, hblk])
            subst this
            rw [hnb] at hi
            cases hi
            have hc := S'.l
            unfold World.cell? at hc
            rw [hblk]
            cases hh : w1.heap[s]? with
            | none => simp [hh] at hc
            | some o =>
              cases o with
              | cells vs e fr => exact ⟨vs, e, fr, rfl, Nat.zero_le _, fun j κ hj => by simp at hj⟩
              | _ => simp [hh] at hc
          · obtain ⟨vs, e, fr, h1, h2⟩ := hN.blk i cs hi
            exact ⟨vs, e, fr, by rw [O.block _ (Array.getElem?_eq_some_iff.1 h1).1 hb]; exact h1, h2⟩
        bw := fun {B1 K1 N1 w1} ⟨e, _, O⟩ => by subst e; exact O.size }
      exact (hX hy).2 (K0 + K) _ SI' (N := N') hI' (by omega) hus'
    loud := fun {g τs y} hy hl => by have := (hX hy).1; rw [hl] at this; cases this }
  have hus2 : Tys w.heap.size blk w tys us := by
    clear h
    induction hus with
    | nil => exact .nil
    | cons h1 h2 ih =>
      simp only [List.all_cons, Bool.and_eq_true] at hty
      exact .cons (h1.plain (by simpa [notOwn] using hty.1)) (ih hty.2)
  refine (fn_sound (I := J) hmixed hF h (B := w.heap.size) ⟨rfl, ⟨k, by omega, S⟩, Oth.refl _ _⟩ hus2).mono ?_
  rintro e w' ⟨u, B', rfl, hu, rfl, ⟨k', hk', S'⟩, O⟩
  exact ⟨u, rfl, hu.plain (by simpa [notOwn] using hx), SI.adv hI (by omega) ⟨k', by omega, S'⟩ O, own_oth O hs⟩
end
/-- one function more -/
def extAdd (f : FuncId) (tys : List Ty) (x : HRes) (ext : FuncId → List Ty → Option HRes) (g : FuncId) (τs : List Ty) : Option HRes := bif Nat.beq g f && decide (τs = tys) then some x else ext g τs
theorem extAdd_ok {r : Raw} {n0 s : Nat} {nb : Nb} {blk : Nat → Nat} {f : FuncId} {tys : List Ty} {x : HRes} {ext : FuncId → List Ty → Option HRes} (h1 : ExtQ1 r n0 s nb blk f tys x) (h2 : ExtQ r n0 s nb blk ext) : ExtQ r n0 s nb blk (extAdd f tys x ext) := by
  intro g τs y h
  unfold extAdd at h
  cases hc : (Nat.beq g f && decide (τs = tys)) with
  | false => rw [hc] at h; exact h2 h
  | true =>
    rw [hc] at h
    simp only [cond_true, Option.some.injEq] at h
    simp only [Bool.and_eq_true, Nat.beq_eq, decide_eq_true_eq] at hc
    obtain ⟨rfl, rfl⟩ := hc
    subst h
    exact h1
/-! Word; reg; op -/
def nbS : Nb := [[]]
def nbC : Nb := [[], [some (.ptr 0), none, none, none, some (.rng 1 8), some (.rng 1 4), none, some (.rng 0 16)]]
def ext1 := extAdd 99 [.fld 0 0] ⟨.num, 10, 0, false⟩ ext0
end Go.Proofs.Yteabbkagekdehaa
