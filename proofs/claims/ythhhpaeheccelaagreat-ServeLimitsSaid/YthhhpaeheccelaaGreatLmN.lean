/- The stream's Next under a reading that says more; all functions that are taken otherwise. -/
import Derived.Test.YthhhpaeheccelaaGreatLmX
set_option linter.unusedVariables false
set_option linter.unusedSimpArgs false
set_option linter.unusedSectionVars false
namespace Go.Proofs.YthhhpaeheccelaaGreat
noncomputable section
open Go.AE Go.RowKit Go.IntWalk
section
variable [Val]
theorem evN_ok2 {r : Raw} {q : Bool} [LawVal r q] {v : AV} {k : Nat} (h : evN v = some k) {μ : Mu} {u : Value} (hv : VR μ v u) : k < 900 ∧ u = .int .i64 ((posW r 0 k : Nat) : Int) := by
  unfold evN at h
  split at h
  · cases h; simp only [VR] at hv; exact ⟨by omega, hv⟩
  · rename_i p
    simp only [ble_dec, blt_dec] at h
    by_cases h1 : 1000 ≤ p ∧ p < 1900
    · simp only [h1, decide_true, Bool.and_self, cond_true, Option.some.injEq] at h
      subst h
      refine ⟨by omega, ?_⟩
      simp only [VR, Sy.ev] at hv
      have hr : rhoW r 0 p = ((posW r 0 (p - 1000) : Nat) : Int) := by simp only [rhoW, h1.1, if_true]
      rw [hv, LawVal.low (r := r) q p (by omega), hr]
    · exfalso
      have : (decide (1000 ≤ p) && decide (p < 1900)) = false := by
        cases hb : (decide (1000 ≤ p) && decide (p < 1900)) with
        | false => rfl
        | true => simp only [Bool.and_eq_true, decide_eq_true_eq] at hb; exact absurd hb h1
      rw [this] at h; cases h
  · cases h
theorem stream_at2 {r : Raw} {q : Bool} [LawVal r q] {A A' : AHeap} {b g k : Nat} {c : AV} (h1 : aRead1 A b g 0 = some (.opq 0)) (h2 : aRead1 A b g 1 = some c) (h3 : evN c = some k) (h5 : aWrite A b g 1 [nextAt k] = some A') :
    ∀ {μ w cb sz}, Rel A μ w → Val.J μ w → μ b g = some (cb, sz) → k < 900 ∧ Stv r cb (posW r 0 k) w ∧
      Rel A' μ (w.setCell ⟨cb, 1, none⟩ (.int .i64 ((posW r 0 (k + 1) : Nat) : Int))) ∧ Ext A A' μ μ w (w.setCell ⟨cb, 1, none⟩ (.int .i64 ((posW r 0 (k + 1) : Nat) : Int))) := by
  intro μ w cb sz R hJ hm
  obtain ⟨x1, q1, _, q2⟩ := aRead1_sound R h1 hm
  obtain ⟨x2, q3, _, q4⟩ := aRead1_sound R h2 hm
  simp only [VR] at q1
  obtain ⟨q1, _⟩ := q1
  rw [LawVal.opq (r := r) q] at q1
  subst q1
  obtain ⟨hk, q3'⟩ := evN_ok2 (r := r) (q := q) h3 q3
  subst q3'
  have hnv : VR μ (nextAt k) (.int .i64 ((posW r 0 (k + 1) : Nat) : Int)) := by
    simp only [nextAt, VR, Sy.ev]
    rw [LawVal.low (r := r) q (1000 + (k + 1)) (by omega)]
    simp [rhoW]
  obtain ⟨w1, s1, s2, s3⟩ := write_sound (P := Tryz.prog) R h5 (us := [.int .i64 ((posW r 0 (k + 1) : Nat) : Int)]) (VRs.cons hnv VRs.nil) hm
  have hfz : ¬ w.frozen? ⟨cb, 1, none⟩ = true := by
    obtain ⟨gen, cells, hrow⟩ := aWrite_row h5
    obtain ⟨cs, e, fr, hw, _, hfr, _⟩ := Rel.row R hrow hm
    have := hfr rfl
    subst this
    simp [World.frozen?, hw]
  have hw1 : w1 = w.setCell ⟨cb, 1, none⟩ (.int .i64 ((posW r 0 (k + 1) : Nat) : Int)) := by
    have := store1 (P := Tryz.prog) (k := .i64) (n := ((posW r 0 (k + 1) : Nat) : Int)) q4 hfz rfl
    rw [this] at s1
    cases s1; rfl
  subst hw1
  refine ⟨hk, ⟨q2, q4, by simpa using hfz, ?_⟩, s2, s3⟩
  rcases LawVal.j (r := r) q μ w hJ with hJ | ⟨lb, off, j1, j2, j3, j4⟩
  · exact .inl hJ
  · exact .inr ⟨lb, off, j1, fun e => j4 b g sz (by rw [hm, e]), j2, j3⟩
theorem extNext_ok2 (r : Raw) (q : Bool) [LawVal r q] {args : List AV} {A : AHeap} {v : AV} {A' : AHeap} (h : extNext 0 args A = some (v, A')) :
    ∀ μ w us, Rel A μ w → Val.J μ w → VRs μ args us →
      Calls Tryz.prog 13 us.toArray w fun e w' => ∃ u μ', e = .returned u ∧ VR μ' v u ∧ Rel A' μ' w' ∧ Ext A A' μ μ' w w' := by
  intro μ w us R hJ hus
  obtain ⟨b, g, n, c, k, rfl, h1, h2, h3, n0, n1, hw, h5, rfl⟩ := extNext_inv h
  simp only [VRs] at hus
  obtain ⟨u1, us1, rfl, hu1, u2, us2, rfl, hu2, rfl⟩ := hus
  simp only [VR] at hu1 hu2
  obtain ⟨cb, sz, hm, rfl⟩ := hu1
  subst hu2
  obtain ⟨hk, S, s2, s3⟩ := stream_at2 (r := r) (q := q) h1 h2 h3 h5 R hJ hm
  have hp := posW_le r 0 k
  have hnx : posW r 0 (k + 1) = posW r 0 k + 1 := by simp [posW, hw]
  rw [hnx] at s2 s3
  refine (next_v n S (by omega) (by omega) n1).mono ?_
  rintro e w' ⟨x, rfl, rfl, hs⟩
  refine ⟨_, μ, rfl, ?_, hs.rel s2, hs.ext s3⟩
  have hnn : ((n.toNat : Nat) : Int) = n := by omega
  simp only [VR, Sy.ev, hnn]
  rw [LawVal.low (r := r) q k (by omega)]
  rw [show rhoW r 0 k = r.at (posW r 0 k) by simp only [rhoW, if_neg (show ¬ 1000 ≤ k by omega), hw]; rfl]
def extL (q : Bool) : FuncId → Option (List AV → AHeap → Option (AV × AHeap))
  | 7 => some extServes
  | 13 => some (extNext 0)
  | 45 => some extClone
  | 58 => some (extLow q)
  | 59 => some (extCodeQ q)
  | _ => none
theorem extL_ok (r : Raw) (q : Bool) [LawVal r q] (E : Env) (hE : E.fn = (envOf Tryz.prog).fn) : ExtOK Tryz.prog E (extL q) := by
  have hf : ∀ f g, extL q f = some g → (f = 7 ∧ g = extServes) ∨ (f = 13 ∧ g = extNext 0) ∨ (f = 45 ∧ g = extClone) ∨ (f = 58 ∧ g = extLow q) ∨ (f = 59 ∧ g = extCodeQ q) := by
    intro f g h
    unfold extL at h
    split at h <;> cases h <;> simp
  refine ⟨fun f g h => ?_, fun f g h args A v A' h2 => ?_, fun f g h args A v A' h2 μ w us R hJ hus hfr => ?_⟩
  · rw [hE]
    rcases hf f g h with ⟨rfl, _⟩ | ⟨rfl, _⟩ | ⟨rfl, _⟩ | ⟨rfl, _⟩ | ⟨rfl, _⟩ <;> kernel_rfl
  · rcases hf f g h with ⟨rfl, rfl⟩ | ⟨rfl, rfl⟩ | ⟨rfl, rfl⟩ | ⟨rfl, rfl⟩ | ⟨rfl, rfl⟩
    · exact extServes_n h2
    · exact extNext_n h2
    · obtain ⟨_, _, _, _, _, _, _, _, _, rfl⟩ := extClone_inv h2; simp
    · obtain ⟨_, _, _, _, _, _, _, _, rfl⟩ := extLow_inv h2; simp
    · rw [extCodeQ_n h2]; exact Nat.le_refl _
  · rcases hf f g h with ⟨rfl, rfl⟩ | ⟨rfl, rfl⟩ | ⟨rfl, rfl⟩ | ⟨rfl, rfl⟩ | ⟨rfl, rfl⟩
    · exact ext_closed serves_calls h2 R hus
    · exact extNext_ok2 r q h2 μ w us R hJ hus
    · exact extClone_ok h2 R hus hfr
    · exact extLow_ok (r := r) h2 R hus hfr
    · exact extCodeQ_ok (r := r) h2 R hus
end
end
end Go.Proofs.YthhhpaeheccelaaGreat
