/- One round of the law's loop, from one literal state to another. -/
import Derived.Test.YthhhpaeheccelaaGreatLmStep
set_option linter.unusedVariables false
set_option linter.unusedSimpArgs false
set_option linter.unusedSectionVars false
set_option maxRecDepth 100000
namespace Go.Proofs.YthhhpaeheccelaaGreat
open Go.AE Go.RowKit Go.IntWalk
noncomputable def crcN4 (m : Int) : Int := crcL (byteN m 0) (byteN m 1) (byteN m 2) (byteN m 3)
/-- the numbers that are not known: the tick, the records, when the request's answer is kept, the round, Most, Seed -/
noncomputable def rq (now rec kept k m sd : Int) (i : Nat) : Int :=
  if i = 2000 then now else if i = 2001 then rec else if i = 2002 then crcN4 rec else if i = 2003 then kept else if i = 2004 then k else if i = 2005 then m else if i = 2006 then sd
  else if 2010 ≤ i ∧ i < 2014 then byteN rec (i - 2010) else if 2020 ≤ i ∧ i < 2024 then byteN (crcN4 rec) (i - 2020) else 0
section
variable (now rec kept k m sd : Int)
theorem rq_2001 : rq now rec kept k m sd 2001 = rec := by simp [rq]
theorem rq_2002 : rq now rec kept k m sd 2002 = crcN4 rec := by simp [rq]
theorem rq_201 (i : Nat) (hi : i < 4) : rq now rec kept k m sd (2010 + i) = byteN rec i := by
  have h : 2010 ≤ 2010 + i ∧ 2010 + i < 2014 := by omega
  unfold rq
  rw [if_neg (by omega), if_neg (by omega), if_neg (by omega), if_neg (by omega), if_neg (by omega), if_neg (by omega), if_neg (by omega), if_pos h, show 2010 + i - 2010 = i by omega]
theorem rq_202 (i : Nat) (hi : i < 4) : rq now rec kept k m sd (2020 + i) = byteN (crcN4 rec) i := by
  have h : 2020 ≤ 2020 + i ∧ 2020 + i < 2024 := by omega
  unfold rq
  rw [if_neg (by omega), if_neg (by omega), if_neg (by omega), if_neg (by omega), if_neg (by omega), if_neg (by omega), if_neg (by omega), if_neg (by omega), if_pos h, show 2020 + i - 2020 = i by omega]
theorem rq_bytes : BytesOK (rq now rec kept k m sd) := by
  refine ⟨fun i hi => ?_, fun i hi => ?_, ?_⟩
  · rw [rq_201 _ _ _ _ _ _ i hi, rq_2001]
  · rw [rq_202 _ _ _ _ _ _ i hi, rq_2002]
  · rw [rq_2002, show (2010 : Nat) = 2010 + 0 from rfl, rq_201 _ _ _ _ _ _ 0 (by omega), show (2011 : Nat) = 2010 + 1 from rfl, rq_201 _ _ _ _ _ _ 1 (by omega), show (2012 : Nat) = 2010 + 2 from rfl, rq_201 _ _ _ _ _ _ 2 (by omega), show (2013 : Nat) = 2010 + 3 from rfl, rq_201 _ _ _ _ _ _ 3 (by omega), crcN4]
end
noncomputable def envX (F : List Fact) (N : Nat) : Env := ((envOf Tryz.prog).know F).lay 1 226 N
theorem envX_ok {r : Raw} {ρx : Nat → Int} {lg : Value} {cL sz cap N : Nat} {F : List Fact} (hF : ∀ f ∈ F, f.holds (rhoL r ρx)) (hN : N ≤ 1000000000) (h1 : lg = .slice (some ⟨cL, 0, none⟩) N cap) (h2 : N ≤ cap) (h3 : cap ≤ maxLen) (h4 : cap ≤ sz) :
    @EnvOK (valL r ρx lg cL sz) Tryz.prog (envX F N) :=
  @lay_ok (valL r ρx lg cL sz) _ _ (@know_ok (valL r ρx lg cL sz) _ _ (@envOf_ok (valL r ρx lg cL sz) Tryz.prog) F hF) 1 226 N cL cap sz hN h1 h2 h3 h4 (fun μ w h => h.2)
noncomputable def rdRun (F : List Fact) (N : Nat) (q : Bool) (T : List (Nat × AV)) (cells : List (AV × Nat)) (L : List (Nat × ABlk)) (n : Nat) : Option (Ts × AHeap) :=
  (evCode (envX F N) (evm (envX F N) q) 400 lawLoop ⟨100, mkT T⟩ (mkH (stL cells L) n)).bind fun s => match s.ex with
    | .normal => some (s.ts, s.H)
    | _ => none
noncomputable def TabOK (r : Raw) (ρx ρx' : Nat → Int) (tab : List (Nat × Sy)) : Prop := ∀ i z, lookS tab i = some z → z.ev (rhoL r ρx) = rhoL r ρx' i
theorem read_valL {r : Raw} {ρx ρx' : Nat → Int} {tab : List (Nat × Sy)} (h : TabOK r ρx ρx' tab) (lg lg' : Value) (cL cL' sz sz' : Nat) : Read2 (valL r ρx lg cL sz) (valL r ρx' lg' cL' sz') tab :=
  ⟨fun i hi => by show rhoL r ρx i = rhoL r ρx' i; simp only [rhoL, if_pos hi], rfl, h⟩
theorem read_val0 {r : Raw} {ρx' : Nat → Int} {tab : List (Nat × Sy)} (h : ∀ i z, lookS tab i = some z → z.ev (rhoW r 0) = rhoL r ρx' i) (lg' : Value) (cL' sz' : Nat) : Read2 (r.val 0) (valL r ρx' lg' cL' sz') tab :=
  ⟨fun i hi => by show rhoW r 0 i = rhoL r ρx' i; simp only [rhoL, if_pos hi], rfl, h⟩
theorem round_step {r : Raw} {w0 : World} {T T' : List (Nat × AV)} {cells cells' : List (AV × Nat)} {L L' : List (Nat × ABlk)} {n n' N N' : Nat} {ρx ρx' : Nat → Int} {F : List Fact} {q : Bool} {gn : List (Nat × Nat)} {tab : List (Nat × Sy)} {a : Act} {w : World}
    (S : SL r w0 T cells L n N ρx a w) (h : stChk n' gn tab T' cells' L' (rdRun F N q T cells L n) = some N') (hN : N ≤ 1000000000) (hN' : 0 < N') (hq : q = true → BytesOK ρx) (hF : ∀ f ∈ F, f.holds (rhoL r ρx)) (ht : TabOK r ρx ρx' tab) {Q : Exit → Act → World → Prop} {K : Act → World → Prop}
    (hK : ∀ a' w', SL r w0 T' cells' L' n' N' ρx' a' w' → K a' w') : lawLoop.wp Tryz.prog (Exit.then K Q) a w := by
  obtain ⟨lg, cL, sz, cap, μ, e1, e2, e3, e4, S⟩ := S
  letI : Val := valL r ρx lg cL sz
  haveI : LawVal r q := valL_law r ρx lg cL sz q hq
  have hE : EnvOK Tryz.prog (envX F N) := envX_ok hF hN e1 e2 e3 e4
  have hC : CallOK Tryz.prog (envX F N) (evm (envX F N) q) := evCall_ok hE hmixed (extM_ok r q (envX F N) rfl) 400
  cases hr : rdRun F N q T cells L n with
  | none => rw [hr] at h; cases h
  | some p =>
  obtain ⟨ts, A⟩ := p
  rw [hr] at h
  unfold rdRun at hr
  simp only [Option.bind_eq_some_iff] at hr
  obtain ⟨s, h1, h2⟩ := hr
  refine piece_sound hE hmixed hC h1 S fun a1 w1 μ1 S1 => ?_
  cases hex : s.ex with
  | exit id => rw [hex] at h2; cases h2
  | ret => rw [hex] at h2; cases h2
  | normal =>
    rw [hex] at h2
    simp only [Option.some.injEq, Prod.mk.injEq] at h2
    obtain ⟨rfl, rfl⟩ := h2
    simp only [exOf, Exit.then]
    exact hK _ _ (SL.of (r := r) S1 h hN' (fun lg' cL' sz' => read_valL ht lg lg' cL cL' sz sz') (fun μ w h => h.1))
end Go.Proofs.YthhhpaeheccelaaGreat
