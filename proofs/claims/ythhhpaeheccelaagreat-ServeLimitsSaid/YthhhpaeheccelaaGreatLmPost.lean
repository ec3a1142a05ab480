/- The law behind its loop. -/
import Derived.Test.YthhhpaeheccelaaGreatLmOpen4
import Derived.Test.YthhhpaeheccelaaGreatLmChain
set_option linter.unusedVariables false
set_option linter.unusedSimpArgs false
set_option linter.unusedSectionVars false
set_option maxRecDepth 100000
namespace Go.Proofs.YthhhpaeheccelaaGreat
open Go.AE Go.RowKit Go.IntWalk
noncomputable def FP (d : Int) : List Fact := [.eq (.var 2004) (.lit 19998) true, .eq (.var 2000) (.lit 19998) true, .eq (.var 2001) (.lit 19999) true, .le (.lit 0) (.var 2003) true, .le (.var 2003) (.lit 220045) true, .eq (.md 2 3) (.lit d) true]
noncomputable def postRun (ext : FuncId → Option (List AV → AHeap → Option (AV × AHeap))) (F : List Fact) : Option ASt :=
  (evCode (envX F 220045) (evCall (envX F 220045) ext 400) 400 lawLoop ⟨100, mkT qT⟩ (mkH (stL qC qL) 246)).bind fun s => match s.ex with
    | .exit 0 => evCode (envX F 220045) (evCall (envX F 220045) ext 400) 400 lawPost s.ts s.H
    | _ => none
noncomputable def postOK (ext : FuncId → Option (List AV → AHeap → Option (AV × AHeap))) (F : List Fact) : Bool := match postRun ext F with
  | some s => (match s.ex with | .ret => (match resVals (envX F 220045) s.ts s.H Tryz.f4.results.toList with | some [.bool true] => true | _ => false) | _ => false)
  | none => false
set_option maxHeartbeats 0 in
theorem post0 : postOK extP (FP 0) = true := by kernel_rfl
set_option maxHeartbeats 0 in
theorem post1 : postOK (extM false) (FP 1) = true := by kernel_rfl
set_option maxHeartbeats 0 in
theorem post2 : postOK (extM false) (FP 2) = true := by kernel_rfl
theorem facts_post (r : Raw) (m sd κ d : Int) (h0 : 0 ≤ κ) (h1 : κ ≤ 220045) (hd : rhoW r 0 2 % 3 = d) : ∀ f ∈ FP d, f.holds (rhoL r (rq 19998 19999 κ 19998 m sd)) := by
  intro f hf
  rcases List.mem_cons.1 hf with rfl | hf
  · refine decide_eq_true ?_; simp only [Sy.ev]; rw [rl_2004]
  rcases List.mem_cons.1 hf with rfl | hf
  · refine decide_eq_true ?_; simp only [Sy.ev]; rw [rl_2000]
  rcases List.mem_cons.1 hf with rfl | hf
  · refine decide_eq_true ?_; simp only [Sy.ev]; rw [rl_2001]
  rcases List.mem_cons.1 hf with rfl | hf
  · refine decide_eq_true ?_; simp only [Sy.ev]; rw [rl_2003]; exact h0
  rcases List.mem_cons.1 hf with rfl | hf
  · refine decide_eq_true ?_; simp only [Sy.ev]; rw [rl_2003]; exact h1
  rcases List.mem_cons.1 hf with rfl | hf
  · refine decide_eq_true ?_; simp only [Sy.ev]; show rhoL r _ 2 % ((3 : Nat) : Int) = d; rw [show rhoL r (rq 19998 19999 κ 19998 m sd) 2 = rhoW r 0 2 from if_pos (by omega)]; exact hd
  · cases hf
theorem post_step {r : Raw} {w0 : World} {m sd κ d : Int} {a : Act} {w : World} (S : SL r w0 qT qC qL 246 220045 (rq 19998 19999 κ 19998 m sd) a w) (h0 : 0 ≤ κ) (h1 : κ ≤ 220045) (hd : rhoW r 0 2 % 3 = d)
    {ext : FuncId → Option (List AV → AHeap → Option (AV × AHeap))} (hX : ∀ (V : Val), LawVal r false → ∀ E : Env, E.fn = (envOf Tryz.prog).fn → @ExtOK V Tryz.prog E ext) (hp : postOK ext (FP d) = true) {Q : Exit → Act → World → Prop}
    (hQ : ∀ a' w', lawPost.wp Tryz.prog (bodyPost Tryz.prog Tryz.f4 fun e w' => e = .returned (.bool true) ∧ Below w0.heap.size w0 w') a' w' → Q (.exit 0) a' w') : Code.rounds Tryz.prog lawLoop Q 1 a w := by
  obtain ⟨lg, cL, sz, cap, μ, e1, e2, e3, e4, S⟩ := S
  letI : Val := valL r (rq 19998 19999 κ 19998 m sd) lg cL sz
  haveI : LawVal r false := valL_law r _ lg cL sz false (fun h => by cases h)
  have hE : EnvOK Tryz.prog (envX (FP d) 220045) := envX_ok (facts_post r m sd κ d h0 h1 hd) (by omega) e1 e2 e3 e4
  have hC : CallOK Tryz.prog (envX (FP d) 220045) (evCall (envX (FP d) 220045) ext 400) := evCall_ok hE hmixed (hX _ inferInstance _ rfl) 400
  unfold postOK at hp
  split at hp
  case h_2 => cases hp
  rename_i s hr
  unfold postRun at hr
  simp only [Option.bind_eq_some_iff] at hr
  obtain ⟨s1, h3, h4⟩ := hr
  rw [rounds_succ]
  refine piece_sound hE hmixed hC h3 S fun a1 w1 μ1 S1 => ?_
  cases hex : s1.ex with
  | normal => rw [hex] at h4; cases h4
  | ret => rw [hex] at h4; cases h4
  | exit id =>
    rw [hex] at h4
    match id, h4 with
    | id + 1, h4 => cases h4
    | 0, h4 =>
    simp only [exOf, Exit.then]
    refine hQ _ _ ?_
    split at hp
    case h_2 => cases hp
    rename_i hret
    split at hp
    case h_2 => cases hp
    rename_i hres
    exact last_sound hE hmixed hC h4 hret hres S1
end Go.Proofs.YthhhpaeheccelaaGreat
