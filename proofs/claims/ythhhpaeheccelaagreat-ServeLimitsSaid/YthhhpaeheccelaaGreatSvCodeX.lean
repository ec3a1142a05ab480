/- num.Code for the abstract evaluator. -/
import Derived.Test.YthhhpaeheccelaaGreatSvCode
set_option linter.unusedVariables false
set_option linter.unusedSimpArgs false
namespace Go.Proofs.YthhhpaeheccelaaGreat
noncomputable section
open Go.AE Go.RowKit Go.IntWalk
def ints8 : List AV → Option (List Int)
  | [] => some []
  | .int .u8 n :: r => (ints8 r).bind fun l => some (n :: l)
  | _ => none
theorem ints8_get [Val] {μ : Mu} : ∀ {vs : List AV} {l : List Int} {us : List Value}, ints8 vs = some l → VRs μ vs us → l.length = vs.length ∧ ∀ i, i < l.length → us[i]? = some (.int .u8 (l.getD i 0))
  | [], l, us, h, _ => by simp only [ints8] at h; cases h; exact ⟨rfl, fun i hi => by simp at hi⟩
  | v :: vs, l, us, h, k => by
    unfold ints8 at h
    split at h
    case h_1 => rename_i e; cases e
    case h_3 => cases h
    rename_i n r e
    cases e
    simp only [Option.bind_eq_some_iff, Option.some.injEq] at h
    obtain ⟨l', h1, rfl⟩ := h
    simp only [VRs, VR] at k
    obtain ⟨u, us', rfl, rfl, k3⟩ := k
    obtain ⟨q1, q2⟩ := ints8_get h1 k3
    refine ⟨by simp [q1], fun i hi => ?_⟩
    cases i with
    | zero => simp
    | succ i => simpa using q2 i (by simpa using hi)
def extCode (args : List AV) (H : AHeap) : Option (AV × AHeap) :=
  match args with
  | [.sl b g off len lo ex es] => bif Nat.beq es 1 && Nat.blt 0 len && Nat.ble len 281474976710656 then
      (aRead H b g off len).bind fun vs => (ints8 vs).bind fun l => some (.int .i64 (crcOf (fun i => l.getD i 0) l.length), H) else none
  | _ => none
theorem extCode_inv {args : List AV} {A : AHeap} {v : AV} {A' : AHeap} (h : extCode args A = some (v, A')) :
    ∃ b g off len lo ex vs l, args = [.sl b g off len lo ex 1] ∧ 0 < len ∧ len ≤ 281474976710656 ∧ aRead A b g off len = some vs ∧ ints8 vs = some l ∧ v = .int .i64 (crcOf (fun i => l.getD i 0) l.length) ∧ A' = A := by
  unfold extCode at h
  split at h
  · rename_i b g off len lo ex es
    cases hb : (Nat.beq es 1 && Nat.blt 0 len && Nat.ble len 281474976710656) with
    | false => rw [hb] at h; cases h
    | true =>
      rw [hb] at h
      simp only [Bool.and_eq_true, Nat.beq_eq, Nat.blt_eq, Nat.ble_eq] at hb
      obtain ⟨⟨rfl, h1⟩, h2⟩ := hb
      simp only [cond_true, Option.bind_eq_some_iff, Option.some.injEq, Prod.mk.injEq] at h
      obtain ⟨vs, h3, l, h4, rfl, rfl⟩ := h
      exact ⟨b, g, off, len, lo, ex, vs, l, rfl, h1, h2, h3, h4, rfl, rfl⟩
  · cases h
theorem extCode_ok [Val] {args : List AV} {A : AHeap} {v : AV} {A' : AHeap} (h : extCode args A = some (v, A')) {μ : Mu} {w : World} {us : List Value} (R : Rel A μ w) (hus : VRs μ args us) :
    Calls Tryz.prog 59 us.toArray w fun e w' => ∃ u μ', e = .returned u ∧ VR μ' v u ∧ Rel A' μ' w' ∧ Ext A A' μ μ' w w' := by
  obtain ⟨b, g, off, len, lo, ex, vs, l, rfl, h1, h2, h3, h4, rfl, rfl⟩ := extCode_inv h
  simp only [VRs] at hus
  obtain ⟨u1, us1, rfl, hu1, rfl⟩ := hus
  simp only [VR] at hu1
  obtain ⟨c, sz, cap, off', hm, rfl, q1, q2, q3, q4, q5⟩ := hu1
  obtain ⟨rfl, _⟩ := q4 (by omega)
  obtain ⟨ws, r1, r2, r3, r4⟩ := aRead_sound R h3 hm
  obtain ⟨i1, i2⟩ := ints8_get h4 r1
  have hlen : l.length = len := by rw [i1, ← r1.length, r2]
  refine (code_c c off' len cap (fun i => l.getD i 0) w (by simp only [maxLen] at q5 ⊢; omega) (by omega) (fun i hi => ?_)).mono ?_
  · have := r4 i _ (i2 i (by omega))
    rwa [Addr.add_lit] at this
  · rintro e w' ⟨x, rfl, rfl, rfl⟩
    exact ⟨_, μ, rfl, by simp only [VR, hlen], R, Ext.refl _ _ _⟩
/-! ### serves() by itself -/
theorem hmixed : Tryz.prog.follows .mixedOrders = true := by kernel_rfl
def extS : FuncId → Option (List AV → AHeap → Option (AV × AHeap))
  | 59 => some extCode
  | _ => none
theorem extS_ok : letI := Val.plain
    ExtOK Tryz.prog (envOf Tryz.prog) extS := by
  letI := Val.plain
  have hf : ∀ f g, extS f = some g → f = 59 ∧ g = extCode := by
    intro f g h
    unfold extS at h
    split at h
    · cases h; exact ⟨rfl, rfl⟩
    · cases h
  refine ⟨fun f g h => ?_, fun f g h args A v A' h2 => ?_, fun f g h args A v A' h2 μ w us R hJ hus hfr => ?_⟩
  · obtain ⟨rfl, _⟩ := hf f g h; kernel_rfl
  · obtain ⟨rfl, rfl⟩ := hf f g h; obtain ⟨_, _, _, _, _, _, _, _, _, _, _, _, _, _, rfl⟩ := extCode_inv h2; exact Nat.le_refl _
  · obtain ⟨rfl, rfl⟩ := hf f g h; exact extCode_ok h2 R hus
end
end Go.Proofs.YthhhpaeheccelaaGreat
