/- Server.open with one request that has ended, and with a second one that is open: for the abstract evaluator. -/
import Derived.Test.YthhhpaeheccelaaGreatLmOpen2
set_option linter.unusedVariables false
set_option linter.unusedSimpArgs false
set_option linter.unusedSectionVars false
set_option maxRecDepth 100000
namespace Go.Proofs.YthhhpaeheccelaaGreat
open Go.AE Go.RowKit Go.IntWalk
noncomputable def un9 : List (AV × Nat) := [(.nilSl, 1), (.nilSl, 1), (.nilSl, 1), (.nilSl, 1), (.nilSl, 1), (.nilSl, 1), (.nilSl, 1), (.nilSl, 1), (.nilSl, 1)]
noncomputable def un17 : List (AV × Nat) := [(.nilSl, 1), (.nilSl, 1), (.nilSl, 1), (.nilSl, 1), (.nilSl, 1), (.nilSl, 1), (.nilSl, 1), (.nilSl, 1)] ++ un9
noncomputable def opR1 : AV × AV × Nat := (.int .i64 5, .ptr 245 0 0, 0)
noncomputable def opR2 : AV × AV × Nat := (.int .i64 6, .ptr 253 0 0, 1)
noncomputable def opL1 : List (Nat × ABlk) := [(46, .row false 0 (un17 ++ [(.map 44, 0)])), (44, .map [opR1] 1), (245, .row false 0 (un9 ++ [(.bool true, 0)]))]
noncomputable def opL2 : List (Nat × ABlk) := [(46, .row false 0 (un17 ++ [(.map 44, 0)])), (44, .map [opR1, opR2] 2), (245, .row false 0 (un9 ++ [(.bool true, 0)])), (253, .row false 0 (un9 ++ [(.bool false, 0)]))]
noncomputable def openC : Code := (Tryz.f40.body).getD .skip
noncomputable def openIn : Code := inC (inC (sndC (fstC (sndC (sndC openC)))))
noncomputable def openR2 : Code := fstC (fstC (sndC (sndC openC)))
noncomputable def openEnd : Code := sndC (sndC (sndC openC))
theorem open_split : Tryz.f40.body = some (.seq (fstC openC) (.seq (fstC (sndC openC)) (.seq (.seq openR2 (.block 0 (.loop openIn))) openEnd))) := by kernel_rfl
noncomputable def opsOf : Code → List Oper
  | .region _ ops false => ops.toList
  | _ => []
noncomputable def rgOps : Array Oper := match fstC openIn with | .region _ ops _ => ops | _ => #[]
noncomputable def rgId : Nat := match fstC openIn with | .region i _ _ => i | _ => 0
theorem open_in : openIn = .seq (.region rgId rgOps false) (sndC openIn) := by kernel_rfl
noncomputable def rgO : Oper := rgOps.toList.headD ⟨none, .move (.const .nilFunc), 0, "", #[], none⟩
noncomputable def rgL : List Oper := rgOps.toList.tail
theorem rg_list : rgOps.toList = rgO :: rgL := by kernel_rfl
theorem rg_op : rgO.op = .next (.tmp 10) false := by kernel_rfl
theorem rg_guard : rgO.guard = none := by kernel_rfl
theorem rg_dst : rgO.dst = some 11 := by kernel_rfl
noncomputable def opE : Env := envOf Tryz.prog
noncomputable def opCall : ACall := evCall (envOf Tryz.prog) noExt 100
/-- up to the loop -/
noncomputable def opStart (L : List (Nat × ABlk)) (n : Nat) : Option (Ts × AHeap) := evList opE opCall 100 [fstC openC, fstC (sndC openC), openR2] (Ts.ofArgs [.ptr 46 0 0] Tryz.f40.ntmps) (mkH L n)
/-- the round in which e comes first, up to the end -/
noncomputable def opRound (e : AV × AV × Nat) (ts : Ts) (A : AHeap) (b m since clock : Nat) : Option (Ts × AHeap) :=
  (runOps opE opCall rgOps rgL (ts.set 11 (.tup [.bool true, e.1, e.2.1])) (A.set b (.iter (some m) since [e.2.2] clock)))
noncomputable def opRest (x : Ts × AHeap) : Option (AV × AHeap) :=
  (evCode opE opCall 100 (sndC openIn) x.1 x.2).bind fun s1 => match s1.ex with
    | .normal => (evCode opE opCall 100 openIn s1.ts s1.H).bind fun s2 => match s2.ex with
      | .normal => (evCode opE opCall 100 openIn s2.ts s2.H).bind fun s3 => match s3.ex with
        | .exit 0 => (evCode opE opCall 100 openEnd s3.ts s3.H).bind fun s4 => match s4.ex with
          | .ret => (resVals opE s4.ts s4.H Tryz.f40.results.toList).bind fun vs => some (resOf vs, s4.H)
          | _ => none
        | _ => none
      | _ => none
    | _ => none
/-- maps stay as they were; rows are only read -/
noncomputable def mapsOK : List (Nat × ABlk) → AHeap → Bool
  | [], _ => true
  | (_, .row wr _ _) :: L, A => !wr && mapsOK L A
  | (b, .map es cl) :: L, A => (match A.get b with | some (.map es' cl') => Nat.beq cl cl' && entsB es es' | _ => false) && mapsOK L A
  | _, _ => false
where entsB : List (AV × AV × Nat) → List (AV × AV × Nat) → Bool
  | [], [] => true
  | (.int k n, .ptr b 0 o, x) :: r, (.int k' n', .ptr b' 0 o', x') :: r' => decide (k = k') && decide (n = n') && Nat.beq b b' && Nat.beq o o' && Nat.beq x x' && entsB r r'
  | _, _ => false
noncomputable def opOK2 (x : Option (AV × AHeap)) : Bool := match x with
  | some (.sl b g 0 1 _ false 1, A) => Nat.ble 254 b && Nat.blt b A.n && Nat.beq g 0 && (match aRow A b with | some (true, _, _) => true | _ => false) && mapsOK opL2 A
  | _ => false
noncomputable def opOK1 (x : Option (AV × AHeap)) : Bool := match x with
  | some (.nilSl, A) => mapsOK opL1 A
  | _ => false
noncomputable def opAll2 : Bool := match opStart opL2 254 with
  | some (ts, A) => (match ts.get 10 with
    | some (.ptr b 0 0) => (match aIter A b with
      | some (some m, since, [], _) => (match aMap A m with
        | some (es, clock) => Nat.blt 1 since && Nat.beq m 44 && Nat.beq clock 2 && mapsOK.entsB es [opR1, opR2] && opOK2 ((opRound opR1 ts A b 44 since 2).bind opRest) && opOK2 ((opRound opR2 ts A b 44 since 2).bind opRest)
        | _ => false)
      | _ => false)
    | _ => false)
  | none => false
theorem op_run1 : opOK1 (evCall (envOf Tryz.prog) noExt 101 40 [.ptr 46 0 0] (mkH opL1 246)) = true := by kernel_rfl
theorem op_run2 : opAll2 = true := by kernel_rfl
theorem entsB_eq : ∀ {a b : List (AV × AV × Nat)}, mapsOK.entsB a b = true → a = b
  | [], [], _ => rfl
  | [], _ :: _, h => by simp [mapsOK.entsB] at h
  | x :: r, y, h => by
    unfold mapsOK.entsB at h
    split at h
    · rename_i e; cases e
    · rename_i k n b o x r1 k' n' b' o' x' r1' e1
      cases e1
      simp only [Bool.and_eq_true, decide_eq_true_eq, Nat.beq_eq] at h
      obtain ⟨⟨⟨⟨⟨rfl, rfl⟩, rfl⟩, rfl⟩, rfl⟩, h2⟩ := h
      rw [entsB_eq h2]
    · cases h
/-- a map of numbers and pointers that says the same is the same -/
theorem ents_same [Val] {μ μ' : Mu} (hle : MuLe μ μ') : ∀ {es : List (AV × AV × Nat)} {ms ms' : List MapEntry}, mapsOK.entsB es es = true → EntsR μ es ms → EntsR μ' es ms' → ms = ms'
  | [], ms, ms', _, h1, h2 => by
    have a := h1.1
    have b := h2.1
    simp at a b
    rw [a, b]
  | e :: es, [], _, _, h1, _ => by have := h1.1; simp at this
  | e :: es, _, [], _, _, h2 => by have := h2.1; simp at this
  | e :: es, m :: ms, m' :: ms', hb, h1, h2 => by
    obtain ⟨⟨q1, q2, q3⟩, r⟩ := h1.tail
    obtain ⟨⟨p1, p2, p3⟩, r'⟩ := h2.tail
    unfold mapsOK.entsB at hb
    split at hb
    · rename_i e1 _; cases e1
    · rename_i e1 e2
      cases e1
      cases e2
      simp only [Bool.and_eq_true] at hb
      simp only [VR] at q1 q2 p1 p2
      obtain ⟨c, sz, q2, q4⟩ := q2
      obtain ⟨c', sz', p2, p4⟩ := p2
      have hc := hle _ _ _ q2
      rw [hc] at p2
      cases p2
      have : m = m' := by
        obtain ⟨k1, v1, b1⟩ := m
        obtain ⟨k2, v2, b2⟩ := m'
        simp only at q1 q3 q4 p1 p3 p4
        subst q1 p1 q4 p4 q3
        rw [p3]
      subst this
      rw [ents_same hle hb.2 r r']
    · cases hb
theorem below_maps [Val] {L : List (Nat × ABlk)} {n : Nat} (hL : ∀ p ∈ L, p.1 < n) {A' : AHeap} {μ μ' : Mu} {w w' : World} (R : Rel (mkH L n) μ w) (R' : Rel A' μ' w') (X : Ext (mkH L n) A' μ μ' w w') (h : mapsOK L A' = true) : Below w.heap.size w w' := by
  refine ⟨X.os, X.tape, X.output, X.size, fun k hk => ?_⟩
  by_cases hx : ∃ b g sz, μ b g = some (k, sz) ∧ b < (mkH L n).n ∧ aWr (mkH L n) b = true
  · obtain ⟨b, g, sz, h1, h2, h3⟩ := hx
    unfold aWr at h3
    cases hg : (mkH L n).get b with
    | none => rw [hg] at h3; cases h3
    | some B =>
      have hm := mkH_mem hL hg
      have key : ∀ {L : List (Nat × ABlk)}, mapsOK L A' = true → (b, B) ∈ L → (∃ gen cells, B = .row false gen cells) ∨ (∃ es cl, B = .map es cl ∧ A'.get b = some (.map es cl) ∧ mapsOK.entsB es es = true) := by
        intro L
        induction L with
        | nil => intro _ hm; simp at hm
        | cons p L ih =>
          intro h hm
          obtain ⟨b0, B0⟩ := p
          cases B0 with
          | row wr gen cells =>
            simp only [mapsOK, Bool.and_eq_true, Bool.not_eq_true'] at h
            rcases List.mem_cons.1 hm with e | hm
            · cases e; exact .inl ⟨gen, cells, by rw [h.1]⟩
            · exact ih h.2 hm
          | map es cl =>
            simp only [mapsOK, Bool.and_eq_true] at h
            rcases List.mem_cons.1 hm with e | hm
            · cases e
              have h1 := h.1
              split at h1
              · rename_i es' cl' hg'
                simp only [Bool.and_eq_true, Nat.beq_eq] at h1
                obtain ⟨rfl, h1⟩ := h1
                have e := entsB_eq h1
                subst e
                exact .inr ⟨es, cl, rfl, hg', h1⟩
              · cases h1
            · exact ih h.2 hm
          | iter _ _ _ _ => simp [mapsOK] at h
      rcases key h hm with ⟨gen, cells, rfl⟩ | ⟨es, cl, rfl, hg', he⟩
      · rw [hg] at h3; cases h3
      · obtain ⟨o, k1, k2⟩ := R.blk b _ hg g k sz h1
        obtain ⟨rfl, ms, rfl, k3⟩ := k2
        obtain ⟨o', j1, j2⟩ := R'.blk b _ hg' 0 k sz (X.mono _ _ _ h1)
        obtain ⟨_, ms', rfl, j3⟩ := j2
        rw [k1, j1]
        have := ents_same X.mono he k3 j3
        obtain ⟨l⟩ := ms
        obtain ⟨l'⟩ := ms'
        simp only at this
        rw [this]
  · refine X.frame k hk fun b g sz h1 h2 => ?_
    cases hw : aWr (mkH L n) b with
    | false => rfl
    | true => exact absurd ⟨b, g, sz, h1, h2, hw⟩ hx
end Go.Proofs.YthhhpaeheccelaaGreat
