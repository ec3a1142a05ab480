/- Server.open with one or two requests, for the abstract evaluator. -/
import Derived.Test.YthhhpaeheccelaaGreatLmOpen3
set_option linter.unusedVariables false
set_option linter.unusedSimpArgs false
set_option linter.unusedSectionVars false
set_option maxRecDepth 100000
namespace Go.Proofs.YthhhpaeheccelaaGreat
open Go.AE Go.RowKit Go.IntWalk
theorem opL1_lt : ∀ p ∈ opL1, p.1 < 246 := by
  intro p hp
  simp only [opL1, List.mem_cons, List.not_mem_nil, or_false] at hp
  rcases hp with rfl | rfl | rfl <;> decide
theorem opL2_lt : ∀ p ∈ opL2, p.1 < 254 := by
  intro p hp
  simp only [opL2, List.mem_cons, List.not_mem_nil, or_false] at hp
  rcases hp with rfl | rfl | rfl | rfl <;> decide
theorem open1_calls {V : Val} {A : AHeap} {μ : Mu} {w : World} {args : List AV} {us : List Value} (R : @Rel V A μ w) (hus : @VRs V μ args us) (h1 : wkvs 246 [] [] args [.ptr 46 0 0] = true) (h2 : wkH 246 [] [] A opL1 = true) :
    Calls Tryz.prog 40 us.toArray w fun e w' => e = .returned (.slice none 0 0) ∧ Below w.heap.size w w' := by
  have R2 := Rel.pick (read_noJ V) R h2
  have hus2 := wkvs_ok (read_noJ V) (n := 246) (gn := []) (μ := μ) args [.ptr 46 0 0] us h1 hus
  have hr := op_run1
  unfold opOK1 at hr
  split at hr
  case h_2 => cases hr
  rename_i A1 hrun
  refine (@CallOK.ok (noJ V) _ _ _ (@evCall_ok (noJ V) _ _ (@envOf_ok (noJ V) Tryz.prog) hmixed _ (@noExt_ok (noJ V) _ _) 101) 40 [.ptr 46 0 0] (mkH opL1 246) _ A1 hrun _ w us R2 trivial hus2 (Hi.fresh (by rw [mkH_n]; exact Hi.pick μ 246 []))).mono ?_
  rintro e w' ⟨u, μ', rfl, hu, hR, X⟩
  simp only [VR] at hu
  subst hu
  exact ⟨rfl, @below_maps (noJ V) opL1 246 opL1_lt _ _ _ _ _ R2 hR X hr⟩
set_option maxHeartbeats 1000000 in
theorem open2_calls {V : Val} {A : AHeap} {μ : Mu} {w : World} {args : List AV} {us : List Value} (R : @Rel V A μ w) (hus : @VRs V μ args us) (h1 : wkvs 254 [] [] args [.ptr 46 0 0] = true) (h2 : wkH 254 [] [] A opL2 = true) :
    Calls Tryz.prog 40 us.toArray w fun e w' => ∃ g cap cs ty, e = .returned (.slice (some ⟨g, 0, none⟩) 1 cap) ∧ w.heap.size ≤ g ∧ w'.heap[g]? = some (.cells cs ty (0, 0)) ∧ cap ≤ cs.size ∧ 1 ≤ cap ∧ cap ≤ maxLen ∧ Below w.heap.size w w' := by
  have R2 := Rel.pick (read_noJ V) R h2
  have hus2 := wkvs_ok (read_noJ V) (n := 254) (gn := []) (μ := μ) args [.ptr 46 0 0] us h1 hus
  have hE : @EnvOK (noJ V) Tryz.prog opE := @envOf_ok (noJ V) Tryz.prog
  have hC : @CallOK (noJ V) Tryz.prog opE opCall := @evCall_ok (noJ V) _ _ (@envOf_ok (noJ V) Tryz.prog) hmixed _ (@noExt_ok (noJ V) _ _) 100
  have hr := op_run2
  unfold opAll2 at hr
  split at hr
  case h_2 => cases hr
  rename_i ts A1 hstart
  split at hr
  case h_2 => cases hr
  rename_i b hx
  split at hr
  case h_2 => cases hr
  rename_i m since last hit
  split at hr
  case h_2 => cases hr
  rename_i es clock hmap
  simp only [Bool.and_eq_true, Nat.blt_eq, Nat.beq_eq] at hr
  obtain ⟨⟨⟨⟨⟨hs, rfl⟩, rfl⟩, hes⟩, ho1⟩, ho2⟩ := hr
  have := entsB_eq hes
  subst this
  refine calls_of_wp (fn := Tryz.f40) (by kernel_rfl) open_split ?_
  have S0 : @StX (noJ V) (mkH opL2 254) (pickMu 254 [] μ) w (Ts.ofArgs [.ptr 46 0 0] Tryz.f40.ntmps) (mkH opL2 254) (pickMu 254 [] μ) { tmps := us.toArray ++ Array.replicate (Tryz.f40.ntmps - us.toArray.size) undef, defers := [] } w :=
    @StX.mk (noJ V) _ _ _ _ _ _ _ _ (@TR.args (noJ V) _ _ _ hus2 _) R2 trivial (Ext.refl _ _ _) (by rw [mkH_n]; exact Hi.pick μ 254 []) rfl
  simp only [opStart, evList, Option.bind_eq_some_iff] at hstart
  obtain ⟨s0, e0, hstart⟩ := hstart
  cases x0 : s0.ex with
  | exit id => rw [x0] at hstart; cases hstart
  | ret => rw [x0] at hstart; cases hstart
  | normal =>
  rw [x0] at hstart
  simp only [Option.bind_eq_some_iff] at hstart
  obtain ⟨s1, e1, hstart⟩ := hstart
  cases x1 : s1.ex with
  | exit id => rw [x1] at hstart; cases hstart
  | ret => rw [x1] at hstart; cases hstart
  | normal =>
  rw [x1] at hstart
  simp only [Option.bind_eq_some_iff] at hstart
  obtain ⟨s2, e2, hstart⟩ := hstart
  cases x2 : s2.ex with
  | exit id => rw [x2] at hstart; cases hstart
  | ret => rw [x2] at hstart; cases hstart
  | normal =>
  rw [x2] at hstart
  simp only [Option.some.injEq, Prod.mk.injEq] at hstart
  obtain ⟨rfl, rfl⟩ := hstart
  refine wp_seq (@pieceX (noJ V) _ _ hE hmixed _ hC _ _ _ _ _ e0 _ _ _ _ _ _ S0 _ fun a1 w1 μ1 S1 => ?_)
  rw [x0]; simp only [exOf, Exit.then]
  refine wp_seq (@pieceX (noJ V) _ _ hE hmixed _ hC _ _ _ _ _ e1 _ _ _ _ _ _ S1 _ fun a2 w2 μ2 S2 => ?_)
  rw [x1]; simp only [exOf, Exit.then]
  refine wp_seq (wp_seq (@pieceX (noJ V) _ _ hE hmixed _ hC _ _ _ _ _ e2 _ _ _ _ _ _ S2 _ fun a3 w3 μ3 S3 => ?_))
  rw [x2]; simp only [exOf, Exit.then]
  refine wp_block (wp_loop_rounds 3 ?_)
  rw [rounds_succ]
  have hin : ∀ Q a w, (Code.seq (.region rgId rgOps false) (sndC openIn)).wp Tryz.prog Q a w → openIn.wp Tryz.prog Q a w := fun Q a w h => by rw [open_in]; exact h
  refine hin _ _ _ (wp_seq (@next_region (noJ V) _ _ hE _ hC _ _ _ _ rg_list _ _ rg_op rg_guard rg_dst _ _ _ _ _ _ _ _ S3 _ _ _ _ _ _ _ hx hit hmap (by show 0 < since; omega) (by show 1 < since; omega) _ fun e he => ?_))
  have hfin : opOK2 ((opRound e s2.ts s2.H b 44 since 2).bind opRest) = true := by rcases he with rfl | rfl; exact ho1; exact ho2
  unfold opOK2 at hfin
  split at hfin
  case h_2 => cases hfin
  rename_i bb g lo A9 hrun
  simp only [Option.bind_eq_some_iff] at hrun
  obtain ⟨⟨ts4, A4⟩, r4, hrun⟩ := hrun
  refine ⟨ts4, A4, r4, fun a4 w4 μ4 S4 => ?_⟩
  simp only [opRest, Option.bind_eq_some_iff] at hrun
  obtain ⟨s5, e5, hrun⟩ := hrun
  cases x5 : s5.ex with
  | exit id => rw [x5] at hrun; cases hrun
  | ret => rw [x5] at hrun; cases hrun
  | normal =>
  rw [x5] at hrun
  simp only [Option.bind_eq_some_iff] at hrun
  obtain ⟨s6, e6, hrun⟩ := hrun
  cases x6 : s6.ex with
  | exit id => rw [x6] at hrun; cases hrun
  | ret => rw [x6] at hrun; cases hrun
  | normal =>
  rw [x6] at hrun
  simp only [Option.bind_eq_some_iff] at hrun
  obtain ⟨s7, e7, hrun⟩ := hrun
  cases x7 : s7.ex with
  | normal => rw [x7] at hrun; cases hrun
  | ret => rw [x7] at hrun; cases hrun
  | exit id =>
  rw [x7] at hrun
  match id, x7, hrun with
  | id + 1, x7, hrun => cases hrun
  | 0, x7, hrun =>
  simp only [Option.bind_eq_some_iff] at hrun
  obtain ⟨s8, e8, hrun⟩ := hrun
  cases x8 : s8.ex with
  | normal => rw [x8] at hrun; cases hrun
  | exit id => rw [x8] at hrun; cases hrun
  | ret =>
  rw [x8] at hrun
  simp only [Option.bind_eq_some_iff, Option.some.injEq, Prod.mk.injEq] at hrun
  obtain ⟨vs, hvs, hres, rfl⟩ := hrun
  simp only [Exit.then]
  refine @pieceX (noJ V) _ _ hE hmixed _ hC _ _ _ _ _ e5 _ _ _ _ _ _ S4 _ fun a5 w5 μ5 S5 => ?_
  rw [x5]; simp only [exOf, Exit.then]
  rw [rounds_succ]
  refine @pieceX (noJ V) _ _ hE hmixed _ hC _ _ _ _ _ e6 _ _ _ _ _ _ S5 _ fun a6 w6 μ6 S6 => ?_
  rw [x6]; simp only [exOf, Exit.then]
  rw [rounds_succ]
  refine @pieceX (noJ V) _ _ hE hmixed _ hC _ _ _ _ _ e7 _ _ _ _ _ _ S6 _ fun a7 w7 μ7 S7 => ?_
  rw [x7]; simp only [exOf, Exit.then, Exit.inBlock, if_true]
  refine @pieceX (noJ V) _ _ hE hmixed _ hC _ _ _ _ _ e8 _ _ _ _ _ _ S7 _ fun a8 w8 μ8 S8 => ?_
  rw [x8]
  simp only [exOf]
  have R8 := @StX.rel (noJ V) _ _ _ _ _ _ _ _ S8
  have X8 := @StX.x (noJ V) _ _ _ _ _ _ _ _ S8
  obtain ⟨u, q1, q2⟩ := @results_sound (noJ V) _ _ hE _ _ _ _ R8 _ (@StX.tr (noJ V) _ _ _ _ _ _ _ _ S8) _ _ hvs
  rw [hres] at q2
  refine ⟨@StX.defers (noJ V) _ _ _ _ _ _ _ _ S8, u, q1, ?_⟩
  simp only [Bool.and_eq_true, Nat.ble_eq, Nat.blt_eq, Nat.beq_eq] at hfin
  obtain ⟨⟨⟨⟨g1, g2⟩, rfl⟩, g4⟩, g5⟩ := hfin
  simp only [VR] at q2
  obtain ⟨c, sz, cap, off', p0, rfl, p1, p2, p3, p4, p5⟩ := q2
  obtain ⟨rfl, p6⟩ := p4 (by omega)
  have p7 := p6 trivial
  split at g4
  case h_2 => cases g4
  rename_i gen cells hrow
  obtain ⟨cs, ty, fr, hw, hsz, hfr, _⟩ := @Rel.row (noJ V) _ _ _ R8 _ _ _ _ hrow _ _ _ p0
  have := hfr rfl
  subst this
  refine ⟨c, cap, cs, ty, rfl, ?_, hw, by omega, by omega, p5, @below_maps (noJ V) opL2 254 opL2_lt _ _ _ _ _ R2 R8 X8 g5⟩
  rcases X8.range _ _ _ _ p0 with ⟨g', h3⟩ | h3
  · have := X8.fresh bb g' (by rw [mkH_n]; exact g1) g2
    rw [this] at h3; cases h3
  · exact h3
noncomputable def extO (args : List AV) (H : AHeap) : Option (AV × AHeap) :=
  bif wkvs 246 [] [] args [.ptr 46 0 0] && wkH 246 [] [] H opL1 then some (.nilSl, H) else bif wkvs 254 [] [] args [.ptr 46 0 0] && wkH 254 [] [] H opL2 then some (.sl H.n 0 0 1 1 false 1, H.push (.row true 0 [])) else none
theorem extO_inv {args : List AV} {A : AHeap} {v : AV} {A' : AHeap} (h : extO args A = some (v, A')) : (wkvs 246 [] [] args [.ptr 46 0 0] = true ∧ wkH 246 [] [] A opL1 = true ∧ v = .nilSl ∧ A' = A) ∨
    (wkvs 254 [] [] args [.ptr 46 0 0] = true ∧ wkH 254 [] [] A opL2 = true ∧ v = .sl A.n 0 0 1 1 false 1 ∧ A' = A.push (.row true 0 [])) := by
  unfold extO at h
  cases hb : (wkvs 246 [] [] args [.ptr 46 0 0] && wkH 246 [] [] A opL1) with
  | true =>
    rw [hb] at h
    simp only [Bool.and_eq_true] at hb
    simp only [cond_true, Option.some.injEq, Prod.mk.injEq] at h
    exact .inl ⟨hb.1, hb.2, h.1.symm, h.2.symm⟩
  | false =>
    rw [hb] at h
    simp only [cond_false] at h
    cases hb2 : (wkvs 254 [] [] args [.ptr 46 0 0] && wkH 254 [] [] A opL2) with
    | false => rw [hb2] at h; cases h
    | true =>
      rw [hb2] at h
      simp only [Bool.and_eq_true] at hb2
      simp only [cond_true, Option.some.injEq, Prod.mk.injEq] at h
      exact .inr ⟨hb2.1, hb2.2, h.1.symm, h.2.symm⟩
theorem extO_ok {V : Val} {args : List AV} {A : AHeap} {v : AV} {A' : AHeap} (h : extO args A = some (v, A')) {μ : Mu} {w : World} {us : List Value} (R : @Rel V A μ w) (hus : @VRs V μ args us) (hfr : Fresh μ A.n A'.n) :
    Calls Tryz.prog 40 us.toArray w fun e w' => ∃ u μ', e = .returned u ∧ @VR V μ' v u ∧ @Rel V A' μ' w' ∧ Ext A A' μ μ' w w' := by
  rcases extO_inv h with ⟨h1, h2, rfl, rfl⟩ | ⟨h1, h2, rfl, rfl⟩
  · refine (open1_calls R hus h1 h2).mono ?_
    rintro e w' ⟨rfl, hB⟩
    exact ⟨_, μ, rfl, by simp only [VR], @Rel.grow V _ _ _ _ R hB, Ext.grow hB⟩
  · refine (open2_calls R hus h1 h2).mono ?_
    rintro e w' ⟨g, cap, cs, ty, rfl, hg, hh, hc1, hc2, hc3, hB⟩
    have hn : ∀ g, μ A.n g = none := fun g => hfr _ g (Nat.le_refl _) (by simp)
    have hB0 : @BlkR V μ (.row true 0 []) 0 cs.size (.cells cs ty (0, 0)) := ⟨cs, ty, (0, 0), rfl, rfl, fun _ => rfl, Nat.le_refl _, fun _ => by simp, fun i v s hi _ => by simp at hi⟩
    obtain ⟨p1, p2⟩ := @Rel.add8 V A μ w w' R hn hB g cs.size _ _ hg hh hB0
    refine ⟨_, _, rfl, ?_, p1, p2⟩
    simp only [VR]
    exact ⟨g, cs.size, cap, 0, upd_same _ _ _ _, rfl, Nat.le_refl _, hc2, (fun h => by cases h), fun _ => ⟨rfl, fun _ => by omega⟩, hc3⟩
noncomputable def extP (f : FuncId) : Option (List AV → AHeap → Option (AV × AHeap)) := bif Nat.beq f 40 then some extO else extM false f
theorem extP_ok (r : Raw) {V : Val} [LawVal r false] (E : Env) (hE : E.fn = (envOf Tryz.prog).fn) : ExtOK Tryz.prog E extP := by
  have hL := extM_ok r false E hE
  have hf : ∀ f g, extP f = some g → (f = 40 ∧ g = extO) ∨ extM false f = some g := by
    intro f g h
    unfold extP at h
    cases h1 : Nat.beq f 40 with
    | true => simp only [h1, cond_true, Option.some.injEq] at h; exact .inl ⟨by simpa using h1, h.symm⟩
    | false => simp only [h1, cond_false] at h; exact .inr h
  refine ⟨fun f g h => ?_, fun f g h args A v A' h2 => ?_, fun f g h args A v A' h2 μ w us R hJ hus hfr => ?_⟩
  · rcases hf f g h with ⟨rfl, _⟩ | h
    · rw [hE]; kernel_rfl
    · exact hL.fn f g h
  · rcases hf f g h with ⟨rfl, rfl⟩ | h
    · rcases extO_inv h2 with ⟨_, _, _, rfl⟩ | ⟨_, _, _, rfl⟩
      · exact Nat.le_refl _
      · simp
    · exact hL.n f g h _ _ _ _ h2
  · rcases hf f g h with ⟨rfl, rfl⟩ | h
    · exact extO_ok h2 R hus hfr
    · exact hL.ok f g h _ _ _ _ h2 μ w us R hJ hus hfr
end Go.Proofs.YthhhpaeheccelaaGreat
