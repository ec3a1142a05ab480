/- Predict, Counts and the document's answers belong together. -/
import Derived.Test.YteabbkagekdehaaCp9
import Derived.Test.YteabbkagekdehaaCp14
import Derived.Test.YteabbkagekdehaaCp16
set_option linter.unusedVariables false
set_option linter.unusedSimpArgs false
set_option maxRecDepth 100000
namespace Go.Proofs.Yteabbkagekdehaa
open Go.AE Go.RowKit Go.IntWalk
/-- errors that are all 0 do not matter -/
theorem scan_zero {op : Nat → Int} {err : Nat → Int} {n o' : Nat} : ∀ (r i o : Nat), i + r = n → scan op err r i o = .inr o' → scan op (fun _ => 0) r i o = .inr o'
  | 0, i, o, _, h => h
  | r + 1, i, o, hi, h => by
    simp only [scan] at h ⊢
    by_cases he : err i = 0
    · simp only [he, ne_eq, not_true_eq_false, if_false] at h
      simp only [ne_eq, not_true_eq_false, if_false]
      split
      · rename_i h4
        rw [if_pos h4] at h
        split
        · rename_i h0; rw [if_pos h0] at h; cases h
        · rename_i h0; rw [if_neg h0] at h; exact scan_zero (n := n) r (i + 1) _ (by omega) h
      · rename_i h4
        rw [if_neg h4] at h
        split
        · rename_i h3
          rw [if_pos h3] at h
          split
          · rename_i h0; rw [if_pos h0] at h; cases h
          · rename_i h0; rw [if_neg h0] at h; exact scan_zero (n := n) r (i + 1) _ (by omega) h
        · rename_i h3; rw [if_neg h3] at h; exact scan_zero (n := n) r (i + 1) _ (by omega) h
    · simp [he] at h
theorem scan_inl {op : Nat → Int} {err : Nat → Int} {e : Int} : ∀ (r i o : Nat), scan op err r i o = .inl e → e ≠ 0
  | 0, i, o, h => by simp [scan] at h
  | r + 1, i, o, h => by
    simp only [scan] at h
    split at h
    · rename_i he; cases h; exact he
    · split at h
      · split at h
        · cases h; decide
        · exact scan_inl r _ _ h
      · split at h
        · split at h
          · cases h; decide
          · exact scan_inl r _ _ h
        · exact scan_inl r _ _ h
theorem ans_facts {zs : List Int} {n : Nat} {err : Nat → Int} (h : ansZ zs n err = 0) : scan (opZ zs) err n 0 0 = .inr 0 ∧ (tl (opZ zs) (mZ zs) n 0 [1]).sum ≤ 40000000 := by
  unfold ansZ at h
  split at h
  · rename_i e he
    exact absurd h (scan_inl _ _ _ he)
  · rename_i o ho
    by_cases h0 : 0 < o
    · rw [if_pos h0] at h; exact absurd h (by decide)
    · rw [if_neg h0] at h
      refine ⟨by rw [ho, show o = 0 by omega], ?_⟩
      by_cases hs : 40000000 < (tl (opZ zs) (mZ zs) n 0 [1]).sum
      · rw [if_pos hs] at h; exact absurd h (by decide)
      · omega
set_option maxHeartbeats 2000000 in
theorem predicts_all (m0 m1 m2 m3 m4 : Int) (zs : List Int) (n : Nat) (hn : n ≤ 100000) : ∃ (E : Int) (R : Nat) (F : Nat → Nat),
    (∀ w a cap, RowZ w a n zs → Calls Try.prog 38 #[mV m0 m1 m2 m3 m4, .slice a n cap] w fun en w' => ∃ x : Int, en = .returned (.tuple #[zI x, zI E]) ∧ Below w.heap.size w w' ∧ PredPost E R x) ∧
    (∀ w a cap, RowZ w a n zs → Calls Try.prog 39 #[mV m0 m1 m2 m3 m4, .slice a n cap] w fun en w' => ∃ v, en = .returned (.tuple #[v, zI E]) ∧ Below w.heap.size w w' ∧ CntPost E F v w') ∧
    (∀ w a cap, RowZ w a n zs → Calls Try.prog 15 #[mV m0 m1 m2 m3 m4, .slice a n cap] w fun en w' => en = .returned (zI E) ∧ Below w.heap.size w w') ∧
    (E = 0 → ∀ w a cap, RowZ w a n zs → Calls Try.prog 40 #[mV m0 m1 m2 m3 m4, .slice a n cap] w fun en w' => en = .returned (zI (R : Nat)) ∧ Below w.heap.size w w') ∧
    (E = 0 → ∀ w a cap, RowZ w a n zs → Calls Try.prog 41 #[.slice a n cap] w fun en w' => ∃ g, en = .returned (.slice (some ⟨g, 0, none⟩) 20 20) ∧ g < w'.heap.size ∧ RowAt g 20 (fun k => (F k : Nat)) w' ∧ Below w.heap.size w w') := by
  obtain ⟨eM, h25, h26, h3, h4⟩ := mach_all (rhoI m0 m1 m2 m3 m4 zs 0)
  rw [rhoI_m] at h25 h26
  by_cases he : eM = 0
  · subst he
    have hb := h4 rfl
    have hb' : ∀ i, MachB (rhoI m0 m1 m2 m3 m4 zs i) := fun i => ⟨hb.m0, hb.m1, hb.m2, hb.m3, hb.m4⟩
    obtain ⟨err, hE, hRt⟩ := errs_all2 zs n hb'
    by_cases hz : ansZ zs n err = 0
    · obtain ⟨hs, hsum⟩ := ans_facts hz
      have he0 : ∀ i, i < n → err i = 0 := fun i hi => scan_ok n 0 0 (by omega) hs i (Nat.zero_le _) hi
      have hR : ∀ i, i < n → RightZ m2 m4 zs i := fun i hi => hRt i hi (he0 i hi)
      have hop : ∀ i, i < n → 1 ≤ opZ zs i ∧ opZ zs i ≤ 19 := fun i hi => (hR i hi).1
      have hM : ∀ i, i < n → opZ zs i = 3 → 0 ≤ mZ zs i ∧ mZ zs i ≤ 1000000 := fun i hi => (hR i hi).2.1
      obtain ⟨c, e, Bk, hen, _⟩ := scan_blk (n := n) (op := opZ zs) (M := mZ zs) (err := err) (fun i hi _ h3 => hM i hi h3) n 0 0 (by omega) hs
      obtain rfl := hen rfl
      obtain ⟨t, BTt, hcnt⟩ := Blk.tree Bk
      obtain ⟨t1, t2⟩ := tl_facts Bk
      have hc : t.cnt ≤ 40000000 := by rw [hcnt]; unfold SX at t1; omega
      obtain ⟨pre, p1, p2, p3⟩ := tl_ctr BTt 1 [] (by omega)
      rw [Nat.sub_zero, Nat.sub_self] at p1
      simp only [tl, List.append_nil] at p1
      have hF : sumK (opZ zs) 0 (tl (opZ zs) (mZ zs) e 0 [1]) = ctr (opZ zs) t 1 := by
        rw [p1]; exact funext p3
      obtain ⟨pr, hpr⟩ := prices_all zs e hb'
      obtain ⟨Q, rfl⟩ : ∃ Q : Nat, m4 = Q := ⟨m4.toNat, by have := hb.m4; simp only [rhoI, List.getD_cons_zero, List.getD_cons_succ] at this; omega⟩
      have q4 : 1 ≤ Q ∧ Q ≤ 4 := by have := hb.m4; simp only [rhoI, List.getD_cons_zero, List.getD_cons_succ] at this; omega
      have m24 : m2 ≤ 4096 := by have := hb.m2; simp only [rhoI, List.getD_cons_zero, List.getD_cons_succ] at this; omega
      have hA : Ask m0 m1 m2 m3 (Q : Int) e Q zs pr (fun i => (zs.getD (i * 9 + 2) 0).toNat) (fun i => (mZ zs i).toNat) := ⟨hR, fun i hi => hpr i hi (hop i hi), rfl, m24, fun _ => rfl, fun _ => rfl⟩
      have h13 : ∀ w a cap, RowZ w a e zs → Calls Try.prog 13 #[mV m0 m1 m2 m3 (Q : Int), .slice a e cap] w fun en w' => en = .returned (zI 0) ∧ Below w.heap.size w w' := fun w a cap hr => by
        have h := check_c (cap := cap) hr hn h25 hE
        rw [hz] at h; exact h
      have h15 : ∀ w a cap, RowZ w a e zs → Calls Try.prog 15 #[mV m0 m1 m2 m3 (Q : Int), .slice a e cap] w fun en w' => en = .returned (zI 0) ∧ Below w.heap.size w w' := fun w a cap hr => by
        have h := fault_c (cap := cap) hr hn h26 hE
        rw [hz] at h; exact h
      have hs0 := scan_zero (n := e) e 0 0 (by omega) hs
      have hrel : RelG (evC (opZ zs) pr (fun i => (zs.getD (i * 9 + 2) 0).toNat) (fun i => (mZ zs i).toNat) t (0, fun _ => 0)) (evG (opZ zs) pr (fun i => (zs.getD (i * 9 + 2) 0).toNat) (fun i => (mZ zs i).toNat) t (0, fun _ => 0)) := RelG.ev t ⟨rfl, fun _ => .inl rfl⟩
      refine ⟨0, _, sumK (opZ zs) 0 (tl (opZ zs) (mZ zs) e 0 [1]), fun w a cap hr => predict_c hr hn h13 (fun _ w a cap hr => predicted_c hr hn hA q4 hs0 BTt hc rfl rfl), fun w a cap hr => counts_c hr hn h13 (fun _ => ⟨rfl, t2, hsum, hop, hM⟩), h15, fun _ w a cap hr => ?_, fun _ w a cap hr => ?_⟩
      · refine predicted2_c (n := e) q4.2 rfl (hrel.max Q).symm (fun w' hsz hB hP => ?_)
        have hL : LiesP w' a e zs (w.heap.size + 2) (w.heap.size + 1) := by
          rcases hr with h | ⟨g, h1, h2, h3⟩
          · exact .inl h
          · exact .inr ⟨g, h1, by omega, by omega, by omega, fun j hj => by rw [hB.cell (by exact h2)]; exact h3 j hj⟩
        refine (run_c (cap := cap) hn hA q4.2 e 0 e t w' (0, fun _ => 0) 0 0 (by omega) BTt hL hP (Nat.le_refl _) ⟨Nat.le_refl _, fun _ => Nat.le_refl _⟩ (by omega)).mono ?_
        rintro en w2 ⟨h1, ⟨nn', _, h2⟩, h3⟩
        exact ⟨h1, ⟨nn', h2⟩, h3⟩
      · rw [hF]
        exact execs_c hr hn hop BTt hc
    · refine ⟨ansZ zs n err, 0, sumK (opZ zs) 0 [], fun w a cap hr => predict_c hr hn (fun w a cap hr => check_c hr hn h25 hE) (fun h => absurd h hz), fun w a cap hr => counts_c hr hn (fun w a cap hr => check_c hr hn h25 hE) (fun h => absurd h hz), fun w a cap hr => fault_c hr hn h26 hE, fun h => absurd h hz, fun h => absurd h hz⟩
  · exact ⟨eM, 0, sumK (opZ zs) 0 [], fun w a cap hr => predict_c hr hn (fun w a cap _ => check_m he h25) (fun h => absurd h he), fun w a cap hr => counts_c hr hn (fun w a cap _ => check_m he h25) (fun h => absurd h he), fun w a cap _ => fault_m he h26, fun h => absurd h he, fun h => absurd h he⟩
end Go.Proofs.Yteabbkagekdehaa
