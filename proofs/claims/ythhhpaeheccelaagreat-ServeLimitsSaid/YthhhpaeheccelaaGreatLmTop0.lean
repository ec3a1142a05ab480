/- The law, put together, for one seed and one Most. -/
import Derived.Test.YthhhpaeheccelaaGreatLmPost
set_option linter.unusedVariables false
set_option linter.unusedSimpArgs false
set_option linter.unusedSectionVars false
set_option maxRecDepth 100000
namespace Go.Proofs.YthhhpaeheccelaaGreat
open Go.AE Go.RowKit Go.IntWalk
theorem evList_snoc {E : Env} {call : ACall} {n : Nat} {c : Code} : ∀ {cs : List Code} {ts : Ts} {A : AHeap} {x : Ts × AHeap}, evList E call n (cs ++ [c]) ts A = some x → ∃ ts1 A1 s, evList E call n cs ts A = some (ts1, A1) ∧ evCode E call n c ts1 A1 = some s ∧ s.ex = .normal ∧ x = (s.ts, s.H)
  | [], ts, A, x, h => by
    simp only [List.nil_append, evList, Option.bind_eq_some_iff] at h
    obtain ⟨s, h1, h2⟩ := h
    cases hex : s.ex with
    | normal => rw [hex] at h2; simp only [Option.some.injEq] at h2; exact ⟨ts, A, s, rfl, h1, hex, h2.symm⟩
    | exit id => rw [hex] at h2; cases h2
    | ret => rw [hex] at h2; cases h2
  | c0 :: cs, ts, A, x, h => by
    simp only [List.cons_append, evList, Option.bind_eq_some_iff] at h
    obtain ⟨s0, h1, h2⟩ := h
    cases hex : s0.ex with
    | exit id => rw [hex] at h2; cases h2
    | ret => rw [hex] at h2; cases h2
    | normal =>
      rw [hex] at h2
      obtain ⟨ts1, A1, s, q1, q2, q3, q4⟩ := evList_snoc h2
      refine ⟨ts1, A1, s, ?_, q2, q3, q4⟩
      simp only [evList, h1, Option.bind_some, hex]
      exact q1
theorem pre2_eq : pre2 = [fstC rest4, fstC (sndC rest4), fstC (sndC (sndC rest4))] ++ [fstC (fstC rest7)] := rfl
/-- what is shown of the quiet rounds -/
def Quiet19 (r : Raw) (w0 : World) (m sd : Int) (Q : Exit → Act → World → Prop) : Prop :=
  ∀ (k N n : Nat) (κ : Int) (a' : Act) (w' : World), k + n = 19999 → k ≤ 16 → N = 67 + 11 * k → 0 ≤ κ → κ ≤ 220045 → SL r w0 qT qC qL 246 N (rq (k : Int) ((k : Int) + 1) κ (k : Int) m sd) a' w' → Code.rounds Tryz.prog lawLoop Q n a' w'
theorem quiet19 (r : Raw) (w0 : World) (m sd : Int) {Q : Exit → Act → World → Prop}
    (hQ : ∀ a' w', lawPost.wp Tryz.prog (bodyPost Tryz.prog Tryz.f4 fun e w' => e = .returned (.bool true) ∧ Below w0.heap.size w0 w') a' w' → Q (.exit 0) a' w') : Quiet19 r w0 m sd Q := by
  intro k N n κ a' w' h1 h2 h3 h4 h5 S
  refine quiet_all h4 (fun a w S => ?_) (19998 - k) k N n (by omega) h3 (by omega) a' w' S
  have b1 := Int.emod_nonneg (rhoW r 0 2) (b := 3) (by omega)
  have b2 := Int.emod_lt_of_pos (rhoW r 0 2) (b := 3) (by omega)
  rcases (show rhoW r 0 2 % 3 = 0 ∨ rhoW r 0 2 % 3 = 1 ∨ rhoW r 0 2 % 3 = 2 by omega) with hd | hd | hd
  · exact post_step S h4 h5 hd (fun V _ E hE => @extP_ok r V inferInstance E hE) post0 hQ
  · exact post_step S h4 h5 hd (fun V _ E hE => @extM_ok r false V inferInstance E hE) post1 hQ
  · exact post_step S h4 h5 hd (fun V _ E hE => @extM_ok r false V inferInstance E hE) post2 hQ
theorem seed_case {r : Raw} {w0 : World} {m sd : Int} {n0 : Nat} {gn : List (Nat × Nat)} {T : List (Nat × AV)} {C : List (AV × Nat)} {L : List (Nat × ABlk)} {μ : Mu} {a : Act} {w : World} (S : @St (r.val 0) w0 ⟨100, mkT t1L⟩ (mkH s1L 233) μ a w)
    (h0 : rhoW r 0 0 % 8 = m - 1) (h1 : rhoW r 0 1 % 9 = sd) {m1 : Int} (hm1 : m - 1 = m1) (hpre : stChk n0 gn [(2005, .lit m)] T C L (evList (envF m1 sd) (evm (envF m1 sd) false) 400 pre2 ⟨100, mkT t1L⟩ (mkH s1L 233)) = some 67)
    (hchain : ∀ {a w} {Q : Exit → Act → World → Prop}, SL r w0 T C L n0 67 (rq 0 0 0 0 m 0) a w → Quiet19 r w0 m sd Q → Code.rounds Tryz.prog lawLoop Q 19999 a w) :
    (Code.seq (fstC rest4) (.seq (fstC (sndC rest4)) (.seq (fstC (sndC (sndC rest4))) (.seq (.seq (fstC (fstC rest7)) (.block 0 (.loop lawLoop))) lawPost)))).wp Tryz.prog (bodyPost Tryz.prog Tryz.f4 fun e w' => e = .returned (.bool true) ∧ Below w0.heap.size w0 w') a w := by
  letI : Val := r.val 0
  haveI : LawVal r false := val0_law r
  have hF : ∀ f ∈ [Fact.eq (.md 0 8) (.lit m1) true, .eq (.md 1 9) (.lit sd) true], f.holds (rhoW r 0) := by
    intro f hf
    rcases List.mem_cons.1 hf with rfl | hf
    · refine decide_eq_true ?_; simp only [Sy.ev]; show rhoW r 0 0 % ((8 : Nat) : Int) = m1; rw [← hm1]; exact h0
    rcases List.mem_cons.1 hf with rfl | hf
    · refine decide_eq_true ?_; simp only [Sy.ev]; exact h1
    · cases hf
  have hE : EnvOK Tryz.prog (envF m1 sd) := know_ok (envOf_ok Tryz.prog) hF
  have hC : CallOK Tryz.prog (envF m1 sd) (evm (envF m1 sd) false) := evCall_ok hE hmixed (extM_ok r false (envF m1 sd) rfl) 400
  cases hr : evList (envF m1 sd) (evm (envF m1 sd) false) 400 pre2 ⟨100, mkT t1L⟩ (mkH s1L 233) with
  | none => rw [hr] at hpre; cases hpre
  | some p =>
  obtain ⟨ts, A⟩ := p
  rw [hr] at hpre
  rw [pre2_eq] at hr
  obtain ⟨ts1, A1, s, q1, q2, q3, q4⟩ := evList_snoc hr
  cases q4
  refine seqL_sound (z := .seq (.seq (fstC (fstC rest7)) (.block 0 (.loop lawLoop))) lawPost) hE hmixed hC q1 S fun a1 w1 μ1 S1 => ?_
  refine wp_seq (wp_seq (piece_sound hE hmixed hC q2 S1 fun a2 w2 μ2 S2 => ?_))
  rw [q3]
  simp only [exOf, Exit.then]
  have S3 : SL r w0 T C L n0 67 (rq 0 0 0 0 m 0) a2 w2 := SL.of (r := r) S2 hpre (by omega) (fun lg cL sz => read_val0 (tab_pre r m) lg cL sz) (fun μ w h => h)
  refine wp_block (wp_loop_rounds 19999 (hchain S3 (quiet19 r w0 m sd fun a' w' h => ?_)))
  simp only [Exit.inBlock, if_true, Exit.then]
  exact h
/-- the law, from its start to where the server is made -/
theorem law_start (r : Raw) {w : World} (hJ : r.J μ0 w)
    (h : ∀ μ a w', @St (r.val 0) w ⟨100, mkT t1L⟩ (mkH s1L 233) μ a w' → (Code.seq (fstC rest4) (.seq (fstC (sndC rest4)) (.seq (fstC (sndC (sndC rest4))) (.seq (.seq (fstC (fstC rest7)) (.block 0 (.loop lawLoop))) lawPost)))).wp Tryz.prog (bodyPost Tryz.prog Tryz.f4 fun e w' => e = .returned (.bool true) ∧ Below w.heap.size w w') a w') :
    Calls Tryz.prog 4 #[.slice r.a r.len r.cap] w fun e w' => e = .returned (.bool true) ∧ Below w.heap.size w w' := by
  letI : Val := r.val 0
  haveI : LawVal r false := val0_law r
  have hE : EnvOK Tryz.prog ((envOf Tryz.prog).know []) := know_ok (envOf_ok Tryz.prog) (fun f hf => by cases hf)
  have hC : CallOK Tryz.prog ((envOf Tryz.prog).know []) (evq [] false) := evCall_ok hE hmixed (extL_ok r false _ rfl) 400
  refine calls_of_wp (fn := Tryz.f4) (by kernel_rfl) law_split ?_
  have hn : Tryz.f4.ntmps = 100 := by kernel_rfl
  have hus : VRs μ0 [.opq 0] [.slice r.a r.len r.cap] := VRs.cons (by simp only [VR]; exact ⟨rfl, _, _, _, rfl⟩) VRs.nil
  have S0 : St w (Ts.ofArgs [.opq 0] 100) A0 μ0 { tmps := #[.slice r.a r.len r.cap] ++ Array.replicate (Tryz.f4.ntmps - (#[.slice r.a r.len r.cap] : Array Value).size) undef, defers := [] } w := by
    rw [hn]
    exact ⟨TR.args hus 100, Rel.empty w, hJ, Up.start w, fun _ _ _ => rfl, rfl⟩
  have hs := s1_run
  unfold stOK at hs
  split at hs
  case h_2 => cases hs
  rename_i ts A hrun
  simp only [Bool.and_eq_true, Nat.beq_eq] at hs
  obtain ⟨⟨k1, k2⟩, k3⟩ := hs
  refine seqL_sound hE hmixed hC hrun S0 fun a1 w1 μ1 S1 => ?_
  have hread : Read2 (r.val 0) (r.val 0) [] := ⟨fun _ _ => rfl, rfl, fun i z h => by cases h⟩
  refine h _ a1 w1 (St.pick hread S1 k1 k2 k3 ?_)
  rcases S1.j with hj | ⟨lb, off, j1, j2, j3, j4⟩
  · exact .inl hj
  · refine .inr ⟨lb, off, j1, j2, j3, fun b' g sz hb => ?_⟩
    simp only [pickMu] at hb
    cases hx : (Nat.beq g 0 && Nat.blt b' 233) with
    | false => rw [hx] at hb; cases hb
    | true => rw [hx] at hb; exact j4 _ _ _ hb
end Go.Proofs.YthhhpaeheccelaaGreat
