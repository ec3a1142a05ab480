/- The stream for the abstract evaluator, where it is not known how many numbers a word takes: event k of a run is a call of Next, or (from event 2 on, W of them) a word. -/
import Derived.Test.YthhhpaeheccelaaGreatStrV
set_option linter.unusedVariables false
set_option linter.unusedSimpArgs false
namespace Go.Proofs.YthhhpaeheccelaaGreat
noncomputable section
open Go.AE Go.RowKit Go.IntWalk
def isW (W k : Nat) : Bool := Nat.ble 2 k && Nat.blt k (2 + W)
/-- where event k begins -/
def posW (r : Raw) (W : Nat) : Nat → Nat
  | 0 => 0
  | k + 1 => if isW W k = true then posW r W k + r.wstep (posW r W k) else posW r W k + 1
theorem posW_le (r : Raw) (W : Nat) : ∀ k, posW r W k ≤ 3 * k
  | 0 => Nat.le_refl _
  | k + 1 => by
    have := posW_le r W k
    have h : r.wstep (posW r W k) ≤ 3 := by unfold Raw.wstep; split <;> omega
    simp only [posW]
    split <;> omega
def rhoW (r : Raw) (W k : Nat) : Int := if 1000 ≤ k then ((posW r W (k - 1000) : Nat) : Int) else if isW W k = true then r.word (posW r W k) else r.at (posW r W k)
/-- her numbers are there, and nobody knows their block -/
def Raw.J (r : Raw) (μ : Mu) (w : World) : Prop :=
  r.len = 0 ∨ ∃ b off, r.a = some ⟨b, off, none⟩ ∧ r.len ≤ maxLen ∧ (∀ i, i < r.len → w.cell? ⟨b, off + i, none⟩ = some (.int .i64 (r.zs.getD i 0))) ∧ ∀ b' g sz, μ b' g ≠ some (b, sz)
theorem Raw.keep (r : Raw) {A A' : AHeap} {μ μ' : Mu} {w w' : World} (h : r.J μ w) (X : Ext A A' μ μ' w w') : r.J μ' w' := by
  rcases h with h | ⟨b, off, h1, h2, h3, h4⟩
  · exact .inl h
  · by_cases h0 : r.len = 0
    · exact .inl h0
    have hb : b < w.heap.size := by
      have := h3 0 (by omega)
      unfold World.cell? at this
      cases hh : w.heap[b]? with
      | none => simp [hh] at this
      | some o => exact (Array.getElem?_eq_some_iff.1 hh).1
    have hf : w'.heap[b]? = w.heap[b]? := X.frame b hb fun b' g sz h _ => absurd h (h4 b' g sz)
    refine .inr ⟨b, off, h1, h2, fun i hi => ?_, fun b' g sz h => ?_⟩
    · rw [← h3 i hi]; unfold World.cell?; simp only [hf]
    · rcases X.range b' g b sz h with ⟨g', h5⟩ | h5
      · exact h4 b' g' sz h5
      · omega
abbrev Raw.val (r : Raw) (W : Nat) : Val := { ρ := rhoW r W, o := fun _ => .slice r.a r.len r.cap, J := r.J, keep := fun h X => r.keep h X }
/-- which event is next, told by the stream's cell -/
def evN : AV → Option Nat
  | .int .i64 0 => some 0
  | .sym .i64 (.var p) => bif Nat.ble 1000 p && Nat.blt p 1900 then some (p - 1000) else none
  | _ => none
theorem evN_ok {r : Raw} {W : Nat} {v : AV} {k : Nat} (h : evN v = some k) {μ : Mu} {u : Value} (hv : letI := r.val W; VR μ v u) : k < 900 ∧ u = .int .i64 ((posW r W k : Nat) : Int) := by
  letI := r.val W
  unfold evN at h
  split at h
  · cases h; simp only [VR] at hv; exact ⟨by omega, hv⟩
  · rename_i p
    simp only [ble_dec, blt_dec] at h
    by_cases h1 : 1000 ≤ p ∧ p < 1900
    · simp only [h1, decide_true, Bool.and_self, cond_true, Option.some.injEq] at h
      subst h
      refine ⟨by omega, ?_⟩
      simp only [VR, Sy.ev] at hv
      have hr : rhoW r W p = ((posW r W (p - 1000) : Nat) : Int) := by simp only [rhoW, h1.1, if_true]
      rw [hv]
      show Value.int .i64 (rhoW r W p) = _
      rw [hr]
    · exfalso
      have : (decide (1000 ≤ p) && decide (p < 1900)) = false := by
        cases hb : (decide (1000 ≤ p) && decide (p < 1900)) with
        | false => rfl
        | true => simp only [Bool.and_eq_true, decide_eq_true_eq] at hb; exact absurd hb h1
      rw [this] at h; cases h
  · cases h
def nextAt (k : Nat) : AV := .sym .i64 (.var (1000 + (k + 1)))
def extNext (W : Nat) (args : List AV) (H : AHeap) : Option (AV × AHeap) :=
  match args with
  | [.ptr b g 0, .int .i64 n] => (aRead1 H b g 0).bind fun l => (aRead1 H b g 1).bind fun c => (evN c).bind fun k => match l with
    | .opq 0 => bif decide (0 < n) && decide (n ≤ 4294967296) && !isW W k then
        (aWrite H b g 1 [nextAt k]).bind fun H' => some (.sym .i64 (.md k n.toNat), H') else none
    | _ => none
  | _ => none
def extWord (W : Nat) (args : List AV) (H : AHeap) : Option (AV × AHeap) :=
  match args with
  | [.ptr b g 0] => (aRead1 H b g 0).bind fun l => (aRead1 H b g 1).bind fun c => (evN c).bind fun k => match l with
    | .opq 0 => bif isW W k then (aWrite H b g 1 [nextAt k]).bind fun H' => some (.sym .i64 (.var k), H') else none
    | _ => none
  | _ => none
theorem extNext_inv {W : Nat} {args : List AV} {A : AHeap} {v : AV} {A' : AHeap} (h : extNext W args A = some (v, A')) :
    ∃ b g n c k, args = [.ptr b g 0, .int .i64 n] ∧ aRead1 A b g 0 = some (.opq 0) ∧ aRead1 A b g 1 = some c ∧ evN c = some k ∧ 0 < n ∧ n ≤ 4294967296 ∧ isW W k = false ∧
      aWrite A b g 1 [nextAt k] = some A' ∧ v = .sym .i64 (.md k n.toNat) := by
  unfold extNext at h
  split at h
  · rename_i b g n
    simp only [Option.bind_eq_some_iff] at h
    obtain ⟨l, h1, c, h2, k, h3, h⟩ := h
    split at h
    · cases hb : (decide (0 < n) && decide (n ≤ 4294967296) && !isW W k) with
      | false => rw [hb] at h; cases h
      | true =>
        rw [hb] at h
        simp only [cond_true, Option.bind_eq_some_iff, Option.some.injEq, Prod.mk.injEq] at h
        simp only [Bool.and_eq_true, decide_eq_true_eq, Bool.not_eq_true'] at hb
        obtain ⟨H', h4, rfl, rfl⟩ := h
        exact ⟨b, g, n, c, k, rfl, h1, h2, h3, hb.1.1, hb.1.2, hb.2, h4, rfl⟩
    · cases h
  · cases h
theorem extWord_inv {W : Nat} {args : List AV} {A : AHeap} {v : AV} {A' : AHeap} (h : extWord W args A = some (v, A')) :
    ∃ b g c k, args = [.ptr b g 0] ∧ aRead1 A b g 0 = some (.opq 0) ∧ aRead1 A b g 1 = some c ∧ evN c = some k ∧ isW W k = true ∧
      aWrite A b g 1 [nextAt k] = some A' ∧ v = .sym .i64 (.var k) := by
  unfold extWord at h
  split at h
  · rename_i b g
    simp only [Option.bind_eq_some_iff] at h
    obtain ⟨l, h1, c, h2, k, h3, h⟩ := h
    split at h
    · cases hb : isW W k with
      | false => rw [hb] at h; cases h
      | true =>
        rw [hb] at h
        simp only [cond_true, Option.bind_eq_some_iff, Option.some.injEq, Prod.mk.injEq] at h
        obtain ⟨H', h4, rfl, rfl⟩ := h
        exact ⟨b, g, c, k, rfl, h1, h2, h3, hb, h4, rfl⟩
    · cases h
  · cases h
theorem extNext_n {W : Nat} {args : List AV} {A : AHeap} {v : AV} {A' : AHeap} (h : extNext W args A = some (v, A')) : A.n ≤ A'.n := by
  obtain ⟨b, g, n, c, k, _, _, _, _, _, _, _, h5, _⟩ := extNext_inv h
  letI := Val.plain
  rw [aWrite_n h5]; exact Nat.le_refl _
theorem extWord_n {W : Nat} {args : List AV} {A : AHeap} {v : AV} {A' : AHeap} (h : extWord W args A = some (v, A')) : A.n ≤ A'.n := by
  obtain ⟨b, g, c, k, _, _, _, _, _, h5, _⟩ := extWord_inv h
  letI := Val.plain
  rw [aWrite_n h5]; exact Nat.le_refl _
theorem store1 {P : Program} {w : World} {a : Addr} {u : Value} {k : IntKind} {n : Int} (hc : w.cell? a = some u) (hf : ¬ w.frozen? a = true) (hs : a.spot = none) :
    (storeCells a [.int k n]).run P w = .ok () (w.setCell a (.int k n)) := by
  obtain ⟨b, o, s⟩ := a
  simp only at hs
  subst hs
  simp [storeCells, Addr.add_lit, run_store_int, stored, hc, hf]
theorem SameBut.rel [Val] {A : AHeap} {μ : Mu} {w w' : World} (R : Rel A μ w) (h : SameBut w w') : Rel A μ w' :=
  ⟨fun b g c sz hm => by rw [h.1]; exact R.bound b g c sz hm, R.inj, fun b B hb g c sz hm => by rw [h.1]; exact R.blk b B hb g c sz hm⟩
theorem SameBut.ext {A A' : AHeap} {μ μ' : Mu} {w w1 w' : World} (X : Ext A A' μ μ' w w1) (h : SameBut w1 w') : Ext A A' μ μ' w w' :=
  ⟨X.mono, X.above, X.fresh, X.n, by rw [h.2.1]; exact X.os, by rw [h.2.2.1]; exact X.tape, by rw [h.2.2.2]; exact X.output, by rw [h.1]; exact X.size, X.range, X.wr, fun c hc hf => by rw [h.1]; exact X.frame c hc hf⟩
/-- what both have in common: the stream is there, and its cell is written -/
theorem stream_at (r : Raw) (W : Nat) {A A' : AHeap} {b g k : Nat} {c : AV} (h1 : aRead1 A b g 0 = some (.opq 0)) (h2 : aRead1 A b g 1 = some c) (h3 : evN c = some k) (h5 : aWrite A b g 1 [nextAt k] = some A') :
    letI := r.val W
    ∀ {μ w cb sz}, Rel A μ w → Val.J μ w → μ b g = some (cb, sz) → k < 900 ∧ Stv r cb (posW r W k) w ∧
      Rel A' μ (w.setCell ⟨cb, 1, none⟩ (.int .i64 ((posW r W (k + 1) : Nat) : Int))) ∧ Ext A A' μ μ w (w.setCell ⟨cb, 1, none⟩ (.int .i64 ((posW r W (k + 1) : Nat) : Int))) := by
  letI := r.val W
  intro μ w cb sz R hJ hm
  obtain ⟨x1, q1, _, q2⟩ := aRead1_sound R h1 hm
  obtain ⟨x2, q3, _, q4⟩ := aRead1_sound R h2 hm
  simp only [VR] at q1
  obtain ⟨q1, _⟩ := q1
  have q1' : x1 = .slice r.a r.len r.cap := q1
  subst q1'
  obtain ⟨hk, q3'⟩ := evN_ok (r := r) (W := W) h3 q3
  subst q3'
  have hnv : VR μ (nextAt k) (.int .i64 ((posW r W (k + 1) : Nat) : Int)) := by
    simp only [nextAt, VR, Sy.ev]
    show _ = Value.int .i64 (rhoW r W (1000 + (k + 1)))
    simp [rhoW]
  obtain ⟨w1, s1, s2, s3⟩ := write_sound (P := Tryz.prog) R h5 (us := [.int .i64 ((posW r W (k + 1) : Nat) : Int)]) (VRs.cons hnv VRs.nil) hm
  have hfz : ¬ w.frozen? ⟨cb, 1, none⟩ = true := by
    obtain ⟨gen, cells, hrow⟩ := aWrite_row h5
    obtain ⟨cs, e, fr, hw, _, hfr, _⟩ := Rel.row R hrow hm
    have := hfr rfl
    subst this
    simp [World.frozen?, hw]
  have hw1 : w1 = w.setCell ⟨cb, 1, none⟩ (.int .i64 ((posW r W (k + 1) : Nat) : Int)) := by
    have := store1 (P := Tryz.prog) (k := .i64) (n := ((posW r W (k + 1) : Nat) : Int)) q4 hfz rfl
    rw [this] at s1
    cases s1; rfl
  subst hw1
  refine ⟨hk, ⟨q2, q4, by simpa using hfz, ?_⟩, s2, s3⟩
  rcases hJ with hJ | ⟨lb, off, j1, j2, j3, j4⟩
  · exact .inl hJ
  · exact .inr ⟨lb, off, j1, fun e => j4 b g sz (by rw [hm, e]), j2, j3⟩
theorem extNext_ok (r : Raw) (W : Nat) {args : List AV} {A : AHeap} {v : AV} {A' : AHeap} (h : extNext W args A = some (v, A')) :
    letI := r.val W
    ∀ μ w us, Rel A μ w → Val.J μ w → VRs μ args us →
      Calls Tryz.prog 13 us.toArray w fun e w' => ∃ u μ', e = .returned u ∧ VR μ' v u ∧ Rel A' μ' w' ∧ Ext A A' μ μ' w w' := by
  letI := r.val W
  intro μ w us R hJ hus
  obtain ⟨b, g, n, c, k, rfl, h1, h2, h3, n0, n1, hw, h5, rfl⟩ := extNext_inv h
  simp only [VRs] at hus
  obtain ⟨u1, us1, rfl, hu1, u2, us2, rfl, hu2, rfl⟩ := hus
  simp only [VR] at hu1 hu2
  obtain ⟨cb, sz, hm, rfl⟩ := hu1
  subst hu2
  obtain ⟨hk, S, s2, s3⟩ := stream_at r W h1 h2 h3 h5 R hJ hm
  have hp := posW_le r W k
  have hnx : posW r W (k + 1) = posW r W k + 1 := by simp [posW, hw]
  rw [hnx] at s2 s3
  refine (next_v n S (by omega) (by omega) n1).mono ?_
  rintro e w' ⟨x, rfl, rfl, hs⟩
  refine ⟨_, μ, rfl, ?_, hs.rel s2, hs.ext s3⟩
  have hnn : ((n.toNat : Nat) : Int) = n := by omega
  simp only [VR, Sy.ev, hnn]
  show Value.int .i64 _ = Value.int .i64 (rhoW r W k % n)
  rw [show rhoW r W k = r.at (posW r W k) by simp only [rhoW, if_neg (show ¬ 1000 ≤ k by omega), hw]; rfl]
theorem extWord_ok (r : Raw) (W : Nat) {args : List AV} {A : AHeap} {v : AV} {A' : AHeap} (h : extWord W args A = some (v, A')) :
    letI := r.val W
    ∀ μ w us, Rel A μ w → Val.J μ w → VRs μ args us →
      Calls Tryz.prog 46 us.toArray w fun e w' => ∃ u μ', e = .returned u ∧ VR μ' v u ∧ Rel A' μ' w' ∧ Ext A A' μ μ' w w' := by
  letI := r.val W
  intro μ w us R hJ hus
  obtain ⟨b, g, c, k, rfl, h1, h2, h3, hw, h5, rfl⟩ := extWord_inv h
  simp only [VRs] at hus
  obtain ⟨u1, us1, rfl, hu1, rfl⟩ := hus
  simp only [VR] at hu1
  obtain ⟨cb, sz, hm, rfl⟩ := hu1
  obtain ⟨hk, S, s2, s3⟩ := stream_at r W h1 h2 h3 h5 R hJ hm
  have hp := posW_le r W k
  have hnx : posW r W (k + 1) = posW r W k + r.wstep (posW r W k) := by simp [posW, hw]
  rw [hnx] at s2 s3
  refine (word_v S (by omega)).mono ?_
  rintro e w' ⟨x, rfl, rfl, hs⟩
  refine ⟨_, μ, rfl, ?_, hs.rel s2, hs.ext s3⟩
  simp only [VR, Sy.ev]
  show Value.int .i64 _ = Value.int .i64 (rhoW r W k)
  rw [show rhoW r W k = r.word (posW r W k) by simp only [rhoW, if_neg (show ¬ 1000 ≤ k by omega), hw, if_true]]
/-! ### Cases -/
/-- a tree of cases -/
inductive Dec where
  | leaf
  | flip (k n : Nat) (t f : Dec)
  | pick (k n : Nat) (ts : Nat → Dec)
def Dec.ok (ev : List Fact → Bool) : Dec → List Fact → Bool
  | .leaf, F => ev F
  | .flip k n t f, F => t.ok ev (.eq (.md k n) (.lit 0) true :: F) && f.ok ev (.eq (.md k n) (.lit 0) false :: F)
  | .pick k n ts, F => Nat.blt 0 n && (List.range n).all fun j => (ts j).ok ev (.eq (.md k n) (.lit j) true :: F)
theorem Dec.sound {ρ : Nat → Int} {ev : List Fact → Bool} {Q : Prop} (hev : ∀ F, (∀ f ∈ F, f.holds ρ) → ev F = true → Q) : ∀ (d : Dec) (F : List Fact), (∀ f ∈ F, f.holds ρ) → d.ok ev F = true → Q
  | .leaf, F, hF, h => hev F hF h
  | .flip k n t f, F, hF, h => by
    simp only [Dec.ok, Bool.and_eq_true] at h
    by_cases h0 : ρ k % (n : Int) = 0
    · exact Dec.sound hev t _ (fun f hf => by rcases List.mem_cons.1 hf with rfl | hf; exact decide_eq_true h0; exact hF f hf) h.1
    · exact Dec.sound hev f _ (fun f hf => by rcases List.mem_cons.1 hf with rfl | hf; exact decide_eq_false h0; exact hF f hf) h.2
  | .pick k n ts, F, hF, h => by
    simp only [Dec.ok, Bool.and_eq_true, blt_dec, decide_eq_true_eq, List.all_eq_true, List.mem_range] at h
    have h1 := Int.emod_nonneg (ρ k) (b := (n : Int)) (by omega)
    have h2 := Int.emod_lt_of_pos (ρ k) (b := (n : Int)) (by omega)
    refine Dec.sound hev (ts (ρ k % (n : Int)).toNat) _ (fun f hf => ?_) (h.2 _ (by omega))
    rcases List.mem_cons.1 hf with rfl | hf
    · exact decide_eq_true (Int.toNat_of_nonneg h1).symm
    · exact hF f hf
end
end Go.Proofs.YthhhpaeheccelaaGreat
