/- Rounds of the law's loop, put together. -/
import Derived.Test.YthhhpaeheccelaaGreatLmQ
set_option linter.unusedVariables false
set_option linter.unusedSimpArgs false
set_option maxRecDepth 100000
namespace Go.Proofs.YthhhpaeheccelaaGreat
open Go.AE Go.RowKit Go.IntWalk
section
variable (now rec kept k m sd : Int) (r : Raw)
theorem rho_hi (ρx : Nat → Int) {i : Nat} (h : ¬ i < 2000) : rhoL r ρx i = ρx i := by unfold rhoL; rw [if_neg h]
theorem rq_2000 : rq now rec kept k m sd 2000 = now := by simp [rq]
theorem rq_2003 : rq now rec kept k m sd 2003 = kept := by simp [rq]
theorem rq_2004 : rq now rec kept k m sd 2004 = k := by simp [rq]
theorem rq_2005 : rq now rec kept k m sd 2005 = m := by simp [rq]
theorem rq_2006 : rq now rec kept k m sd 2006 = sd := by simp [rq]
theorem rl_2000 : rhoL r (rq now rec kept k m sd) 2000 = now := by rw [rho_hi _ _ (by omega), rq_2000]
theorem rl_2001 : rhoL r (rq now rec kept k m sd) 2001 = rec := by rw [rho_hi _ _ (by omega), rq_2001]
theorem rl_2003 : rhoL r (rq now rec kept k m sd) 2003 = kept := by rw [rho_hi _ _ (by omega), rq_2003]
theorem rl_2004 : rhoL r (rq now rec kept k m sd) 2004 = k := by rw [rho_hi _ _ (by omega), rq_2004]
theorem rl_2005 : rhoL r (rq now rec kept k m sd) 2005 = m := by rw [rho_hi _ _ (by omega), rq_2005]
theorem rl_2006 : rhoL r (rq now rec kept k m sd) 2006 = sd := by rw [rho_hi _ _ (by omega), rq_2006]
end
theorem lookS_cons {j : Nat} {y : Sy} {l : List (Nat × Sy)} {i : Nat} {z : Sy} (h : lookS ((j, y) :: l) i = some z) : (i = j ∧ z = y) ∨ lookS l i = some z := by
  simp only [lookS] at h
  cases hb : Nat.beq j i with
  | true => rw [hb] at h; simp only [cond_true, Option.some.injEq] at h; exact .inl ⟨by simpa using (show j = i by simpa using hb).symm, h.symm⟩
  | false => rw [hb] at h; exact .inr h
theorem tab_same (r : Raw) (m : Int) : TabOK r (rq 0 0 0 0 m 0) (rq 0 0 0 0 m 0) [(2005, .var 2005)] := by
  intro i z h
  rcases lookS_cons h with ⟨rfl, rfl⟩ | h
  · rfl
  · cases h
theorem tab_pre (r : Raw) (m : Int) : ∀ i z, lookS [(2005, .lit m)] i = some z → z.ev (rhoW r 0) = rhoL r (rq 0 0 0 0 m 0) i := by
  intro i z h
  rcases lookS_cons h with ⟨rfl, rfl⟩ | h
  · rw [rl_2005]; rfl
  · cases h
theorem tab_end (r : Raw) (m sd κ k : Int) : TabOK r (rq 0 0 0 0 m 0) (rq k (k + 1) κ k m sd) (tabC sd κ k) := by
  intro i z h
  rcases lookS_cons h with ⟨rfl, rfl⟩ | h
  · rw [rl_2000]; rfl
  rcases lookS_cons h with ⟨rfl, rfl⟩ | h
  · rw [rl_2001]; rfl
  rcases lookS_cons h with ⟨rfl, rfl⟩ | h
  · rw [rl_2003]; rfl
  rcases lookS_cons h with ⟨rfl, rfl⟩ | h
  · rw [rl_2004]; rfl
  rcases lookS_cons h with ⟨rfl, rfl⟩ | h
  · rw [rl_2005]; simp only [Sy.ev]; rw [rl_2005]
  rcases lookS_cons h with ⟨rfl, rfl⟩ | h
  · rw [rl_2006]; rfl
  · cases h
theorem ev_add1 (ρ : Nat → Int) (i : Nat) : (Sy.bin .add .i64 (.var i) (.lit 1)).ev ρ = wrap64 (ρ i + 1) := by
  simp only [Sy.ev, binVal, aIntBin]
  simp [IntKind.wrap, IntKind.bits, IntKind.signed, wrap64]
  split <;> omega
theorem tab_quiet (r : Raw) (m sd κ k : Int) (h0 : 0 ≤ k) (h1 : k < 19998) : TabOK r (rq k (k + 1) κ k m sd) (rq (k + 1) (k + 1 + 1) κ (k + 1) m sd) tabQ := by
  have w1 : ∀ x : Int, 0 ≤ x → x < 20000 → wrap64 (x + 1) = x + 1 := fun x a b => wrap64_in _ (by omega)
  intro i z h
  rcases lookS_cons h with ⟨rfl, rfl⟩ | h
  · rw [ev_add1, rl_2000, rl_2000, w1 k h0 (by omega)]
  rcases lookS_cons h with ⟨rfl, rfl⟩ | h
  · rw [ev_add1, rl_2001, rl_2001, w1 (k + 1) (by omega) (by omega)]
  rcases lookS_cons h with ⟨rfl, rfl⟩ | h
  · simp only [Sy.ev]; rw [rl_2003, rl_2003]
  rcases lookS_cons h with ⟨rfl, rfl⟩ | h
  · rw [ev_add1, rl_2004, rl_2004, w1 k h0 (by omega)]
  rcases lookS_cons h with ⟨rfl, rfl⟩ | h
  · simp only [Sy.ev]; rw [rl_2005, rl_2005]
  rcases lookS_cons h with ⟨rfl, rfl⟩ | h
  · simp only [Sy.ev]; rw [rl_2006, rl_2006]
  · cases h
theorem facts_quiet (r : Raw) (m sd κ k : Int) (h1 : k < 19998) (hk : 0 ≤ κ) : ∀ f ∈ FQ, f.holds (rhoL r (rq k (k + 1) κ k m sd)) := by
  intro f hf
  rcases List.mem_cons.1 hf with rfl | hf
  · refine decide_eq_false ?_; simp only [Sy.ev]; rw [rl_2004]; omega
  rcases List.mem_cons.1 hf with rfl | hf
  · refine decide_eq_false ?_; simp only [Sy.ev]; rw [rl_2001]; omega
  rcases List.mem_cons.1 hf with rfl | hf
  · refine decide_eq_true ?_; simp only [Sy.ev]; rw [rl_2003]; omega
  · cases hf
section
variable {r : Raw} {w0 : World} {T T' : List (Nat × AV)} {cells cells' : List (AV × Nat)} {L L' : List (Nat × ABlk)} {n n' N N' : Nat} {F : List Fact} {gn : List (Nat × Nat)} {a : Act} {w : World} {m : Int} {Q : Exit → Act → World → Prop} {j : Nat}
theorem step_cont (S : SL r w0 T cells L n N (rq 0 0 0 0 m 0) a w) (h : stChk n' gn [(2005, .var 2005)] T' cells' L' (rdRun F N false T cells L n) = some N') (hN : N ≤ 1000000000) (hN' : 0 < N')
    (hF : F = [] ∨ ∃ i : Int, F = [.le (.lit i) (.var 2005) true] ∧ i ≤ m) (hK : ∀ a' w', SL r w0 T' cells' L' n' N' (rq 0 0 0 0 m 0) a' w' → Code.rounds Tryz.prog lawLoop Q j a' w') : Code.rounds Tryz.prog lawLoop Q (j + 1) a w := by
  refine round_step S h hN hN' (fun h => by cases h) ?_ (tab_same r m) hK
  intro f hf
  rcases hF with rfl | ⟨i, rfl, hi⟩
  · cases hf
  · rcases List.mem_cons.1 hf with rfl | hf
    · refine decide_eq_true ?_; simp only [Sy.ev]; rw [rl_2005]; exact hi
    · cases hf
theorem step_end {sd κ k : Int} (S : SL r w0 T cells L n N (rq 0 0 0 0 m 0) a w) (h : stChk 246 gn (tabC sd κ k) qT qC qL (rdRun F N false T cells L n) = some N') (hN : N ≤ 1000000000) (hN' : 0 < N')
    (hF : F = [] ∨ F = [.eq (.var 2005) (.lit m) true]) (hK : ∀ a' w', SL r w0 qT qC qL 246 N' (rq k (k + 1) κ k m sd) a' w' → Code.rounds Tryz.prog lawLoop Q j a' w') : Code.rounds Tryz.prog lawLoop Q (j + 1) a w := by
  refine round_step S h hN hN' (fun h => by cases h) ?_ (tab_end r m sd κ k) hK
  intro f hf
  rcases hF with rfl | rfl
  · cases hf
  · rcases List.mem_cons.1 hf with rfl | hf
    · refine decide_eq_true ?_; simp only [Sy.ev]; rw [rl_2005]
    · cases hf
theorem step_quiet {sd κ k : Int} (S : SL r w0 qT qC qL 246 N (rq k (k + 1) κ k m sd) a w) (hN : N ≤ 1000000000) (h0 : 0 ≤ k) (h1 : k < 19998) (hk : 0 ≤ κ)
    (hK : ∀ a' w', SL r w0 qT qC qL 246 (N + 11) (rq (k + 1) (k + 1 + 1) κ (k + 1) m sd) a' w' → Code.rounds Tryz.prog lawLoop Q j a' w') : Code.rounds Tryz.prog lawLoop Q (j + 1) a w :=
  round_step S (quiet_run N) hN (by omega) (fun _ => rq_bytes _ _ _ _ _ _) (facts_quiet r m sd κ k h1 hk) (tab_quiet r m sd κ k h0 h1) hK
/-- the rest of the rounds -/
theorem quiet_all {sd κ : Int} (hk : 0 ≤ κ) (hend : ∀ a' w', SL r w0 qT qC qL 246 220045 (rq 19998 19999 κ 19998 m sd) a' w' → Code.rounds Tryz.prog lawLoop Q 1 a' w') :
    ∀ (d k N n : Nat), k + d = 19998 → N = 67 + 11 * k → n = d + 1 → ∀ a w, SL r w0 qT qC qL 246 N (rq (k : Int) ((k : Int) + 1) κ (k : Int) m sd) a w → Code.rounds Tryz.prog lawLoop Q n a w := by
  intro d
  induction d with
  | zero =>
    intro k N n h1 h2 h3 a w S
    have : k = 19998 := by omega
    subst this
    subst h2
    subst h3
    exact hend a w S
  | succ d ih =>
    intro k N n h1 h2 h3 a w S
    subst h3
    refine step_quiet S (by omega) (by omega) (by omega) hk fun a' w' S' => ?_
    refine ih (k + 1) (N + 11) (d + 1) (by omega) (by omega) rfl a' w' ?_
    have e : ((k + 1 : Nat) : Int) = (k : Int) + 1 := by omega
    rw [e]
    exact S'
end
end Go.Proofs.YthhhpaeheccelaaGreat
