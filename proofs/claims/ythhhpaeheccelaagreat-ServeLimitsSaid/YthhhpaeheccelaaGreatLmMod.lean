/- models.Check and models.Entry at the demo model: by runs of their own, and for the evaluator. -/
import Derived.Test.YthhhpaeheccelaaGreatLmS1
set_option linter.unusedVariables false
set_option linter.unusedSimpArgs false
set_option linter.unusedSectionVars false
set_option maxRecDepth 100000
namespace Go.Proofs.YthhhpaeheccelaaGreat
noncomputable section
open Go.AE Go.RowKit Go.IntWalk
def mdlL : List (Nat × ABlk) := [(31, .row false 0 [(.int .i64 4, 0), (.int .i64 6, 0), (.int .i64 8, 0), (.int .i64 3, 0)]),
  (33, .row false 0 [(.int .i64 3, 0), (.int .i64 5, 0), (.int .i64 5, 0), (.int .i64 (-2), 0), (.int .i64 (-3), 0), (.int .i64 3, 0), (.int .i64 (-1), 0), (.int .i64 (-3), 0), (.int .i64 (-6), 0), (.int .i64 3, 0), (.int .i64 7, 0), (.int .i64 7, 0), (.int .i64 (-7), 0), (.int .i64 7, 0), (.int .i64 (-3), 0), (.int .i64 (-2), 0), (.int .i64 (-3), 0), (.int .i64 (-4), 0), (.int .i64 (-7), 0), (.int .i64 5, 0), (.int .i64 7, 0), (.int .i64 (-4), 0), (.int .i64 (-3), 0), (.int .i64 (-2), 0), (.int .i64 8, 0), (.int .i64 5, 0), (.int .i64 6, 0), (.int .i64 7, 0), (.int .i64 (-8), 0), (.int .i64 (-7), 0), (.int .i64 (-8), 0), (.int .i64 7, 0)]),
  (35, .row false 0 [(.int .i64 0, 0), (.int .i64 2, 0), (.int .i64 2, 0), (.int .i64 8, 0), (.int .i64 (-8), 0), (.int .i64 4, 0), (.int .i64 3, 0), (.int .i64 0, 0), (.int .i64 (-2), 0), (.int .i64 (-2), 0), (.int .i64 (-4), 0), (.int .i64 7, 0), (.int .i64 (-8), 0), (.int .i64 8, 0), (.int .i64 (-4), 0), (.int .i64 (-8), 0)]),
  (37, .row false 0 [(.int .i64 8, 0), (.int .i64 3, 0), (.int .i64 0, 0), (.int .i64 (-2), 0), (.int .i64 7, 0), (.int .i64 (-2), 0), (.int .i64 7, 0), (.int .i64 (-1), 0), (.int .i64 (-5), 0), (.int .i64 (-4), 0), (.int .i64 3, 0), (.int .i64 8, 0), (.int .i64 (-6), 0), (.int .i64 (-1), 0), (.int .i64 0, 0), (.int .i64 5, 0), (.int .i64 (-5), 0), (.int .i64 (-6), 0), (.int .i64 8, 0), (.int .i64 (-6), 0), (.int .i64 (-2), 0), (.int .i64 (-2), 0), (.int .i64 (-2), 0), (.int .i64 2, 0), (.int .i64 (-3), 0), (.int .i64 (-3), 0), (.int .i64 2, 0), (.int .i64 (-8), 0), (.int .i64 (-1), 0), (.int .i64 6, 0), (.int .i64 3, 0), (.int .i64 7, 0), (.int .i64 0, 0), (.int .i64 (-5), 0), (.int .i64 4, 0), (.int .i64 3, 0), (.int .i64 (-6), 0), (.int .i64 8, 0), (.int .i64 3, 0), (.int .i64 0, 0), (.int .i64 (-8), 0), (.int .i64 (-6), 0), (.int .i64 (-3), 0), (.int .i64 (-4), 0), (.int .i64 (-3), 0), (.int .i64 0, 0), (.int .i64 (-6), 0), (.int .i64 (-6), 0)]),
  (39, .row false 0 [(.int .i64 5, 0), (.int .i64 (-1), 0), (.int .i64 2, 0), (.int .i64 (-3), 0), (.int .i64 3, 0), (.int .i64 (-3), 0), (.int .i64 5, 0), (.int .i64 (-6), 0), (.int .i64 (-7), 0), (.int .i64 0, 0), (.int .i64 1, 0), (.int .i64 (-3), 0), (.int .i64 (-8), 0), (.int .i64 5, 0), (.int .i64 (-5), 0), (.int .i64 (-6), 0), (.int .i64 3, 0), (.int .i64 (-5), 0), (.int .i64 6, 0), (.int .i64 (-6), 0), (.int .i64 8, 0), (.int .i64 (-3), 0), (.int .i64 (-8), 0), (.int .i64 (-8), 0), (.int .i64 6, 0), (.int .i64 (-2), 0), (.int .i64 (-3), 0), (.int .i64 4, 0), (.int .i64 6, 0), (.int .i64 2, 0), (.int .i64 (-7), 0), (.int .i64 (-2), 0)]),
  (41, .row false 0 [(.int .i64 64, 0), (.int .i64 32, 0), (.int .i64 16, 0), (.int .i64 8, 0), (.int .i64 4, 0), (.int .i64 2, 0), (.int .i64 1, 0)]),
  (43, .row false 0 [(.int .i64 32, 0), (.int .i64 16, 0), (.int .i64 8, 0), (.int .i64 4, 0), (.int .i64 2, 0), (.int .i64 1, 0)])]
def mdlCs : List AV := [.int .i64 1, .int .i64 8, .int .i64 4, .int .i64 8, .sl 31 0 0 4 4 false 1, .sl 33 0 0 32 32 false 1, .sl 35 0 0 16 16 false 1, .sl 37 0 0 48 48 false 1, .sl 39 0 0 32 32 false 1, .sl 41 0 0 7 7 false 1, .sl 43 0 0 6 6 false 1]
abbrev noJ (V : Val) : Val := { ρ := V.ρ, o := V.o, J := fun _ _ => True, keep := fun _ _ => trivial }
def roL : List (Nat × ABlk) → Bool
  | [] => true
  | (b, .row wr _ _) :: L => !wr && Nat.blt b 233 && roL L
  | _ => false
theorem mkH_mem {n : Nat} : ∀ {L : List (Nat × ABlk)}, (∀ p ∈ L, p.1 < n) → ∀ {b : Nat} {B : ABlk}, (mkH L n).get b = some B → (b, B) ∈ L
  | [], _, b, B, h => by
    simp only [mkH, AHeap.get_def] at h
    cases hb : Nat.blt b n <;> simp [hb] at h
    cases h
  | (b0, B0) :: L, hn, b, B, h => by
    simp only [mkH] at h
    rw [AHeap.get_set _ _ _ _ (by rw [mkH_n]; exact hn (b0, B0) List.mem_cons_self)] at h
    by_cases e : b = b0
    · subst e; simp at h; subst h; simp
    · rw [if_neg e] at h; exact List.mem_cons_of_mem _ (mkH_mem (fun p hp => hn p (List.mem_cons_of_mem _ hp)) h)
theorem roL_mem : ∀ {L : List (Nat × ABlk)}, roL L = true → ∀ p ∈ L, p.1 < 233 ∧ ∃ gen cells, p.2 = .row false gen cells
  | [], _, p, hp => by simp at hp
  | (b, B) :: L, h, p, hp => by
    cases B with
    | row wr gen cells =>
      simp only [roL, Bool.and_eq_true, Bool.not_eq_true', Nat.blt_eq] at h
      rcases List.mem_cons.1 hp with rfl | hp
      · exact ⟨h.1.2, gen, cells, by rw [h.1.1]⟩
      · exact roL_mem h.2 p hp
    | map _ _ => simp [roL] at h
    | iter _ _ _ _ => simp [roL] at h
theorem roL_wr {L : List (Nat × ABlk)} (h : roL L = true) (b : Nat) : aWr (mkH L 233) b = false := by
  unfold aWr
  cases hg : (mkH L 233).get b with
  | none => rfl
  | some B =>
    have hm := mkH_mem (fun p hp => (roL_mem h p hp).1) hg
    obtain ⟨_, gen, cells, e⟩ := roL_mem h _ hm
    simp only at e
    subst e; rfl
theorem read_noJ (V : Val) : Read2 V (noJ V) [] := ⟨fun _ _ => rfl, rfl, fun i z h => by cases h⟩
/-- a call that needs of memory what a list of read-only rows tells -/
theorem ro_call {V : Val} {ext : FuncId → Option (List AV → AHeap → Option (AV × AHeap))} (hX : @ExtOK (noJ V) Tryz.prog (envOf Tryz.prog) ext) {L : List (Nat × ABlk)} (hro : roL L = true) {n f : Nat} {args0 args : List AV} {v : AV} {A' : AHeap} (hrun : evCall (envOf Tryz.prog) ext n f args (mkH L 233) = some (v, A'))
    {A : AHeap} {μ : Mu} {w : World} {us : List Value} (R : @Rel V A μ w) (hus : @VRs V μ args0 us) (h1 : wkvs 233 [] [] args0 args = true) (h2 : wkH 233 [] [] A L = true) :
    Calls Tryz.prog f us.toArray w fun e w' => ∃ u μ', e = .returned u ∧ @VR (noJ V) μ' v u ∧ @Rel (noJ V) A' μ' w' ∧ Below w.heap.size w w' ∧ ∀ b g c sz, 233 ≤ b → b < A'.n → μ' b g = some (c, sz) → w.heap.size ≤ c := by
  have R2 := Rel.pick (read_noJ V) R h2
  have hus2 := wkvs_ok (read_noJ V) (n := 233) (gn := []) (μ := μ) args0 args us h1 hus
  refine (@CallOK.ok (noJ V) _ _ _ (@evCall_ok (noJ V) _ _ (@envOf_ok (noJ V) Tryz.prog) hmixed _ hX n) f args (mkH L 233) v A' hrun _ w us R2 trivial hus2 (Hi.fresh (by rw [mkH_n]; exact Hi.pick μ 233 []))).mono ?_
  rintro e w' ⟨u, μ', rfl, hu, hR, X⟩
  refine ⟨u, μ', rfl, hu, hR, ⟨X.os, X.tape, X.output, X.size, fun k hk => X.frame k hk fun b g sz _ _ => roL_wr hro b⟩, fun b g c sz hb hb2 hm => ?_⟩
  rcases X.range b g c sz hm with ⟨g', h3⟩ | h3
  · have := X.fresh b g' (by rw [mkH_n]; exact hb) hb2
    rw [this] at h3; cases h3
  · exact h3
/-! ### Check -/
def okZ : Option (AV × AHeap) → Bool
  | some (.int .i64 0, _) => true
  | _ => false
theorem check_run : okZ (evCall (envOf Tryz.prog) noExt 400 56 [.agg mdlCs] (mkH mdlL 233)) = true := by kernel_rfl
theorem mdl_ro : roL mdlL = true := by kernel_rfl
def extCheck (args : List AV) (H : AHeap) : Option (AV × AHeap) := bif wkvs 233 [] [] args [.agg mdlCs] && wkH 233 [] [] H mdlL then some (.int .i64 0, H) else none
theorem okZ_some {r : Option (AV × AHeap)} (h : okZ r = true) : ∃ A', r = some (.int .i64 0, A') := by
  unfold okZ at h
  split at h
  · exact ⟨_, rfl⟩
  · cases h
theorem extCheck_inv {args : List AV} {A : AHeap} {v : AV} {A' : AHeap} (h : extCheck args A = some (v, A')) : wkvs 233 [] [] args [.agg mdlCs] = true ∧ wkH 233 [] [] A mdlL = true ∧ v = .int .i64 0 ∧ A' = A := by
  unfold extCheck at h
  cases hb : (wkvs 233 [] [] args [.agg mdlCs] && wkH 233 [] [] A mdlL) with
  | false => rw [hb] at h; cases h
  | true =>
    rw [hb] at h
    simp only [Bool.and_eq_true] at hb
    simp only [cond_true, Option.some.injEq, Prod.mk.injEq] at h
    exact ⟨hb.1, hb.2, h.1.symm, h.2.symm⟩
theorem extCheck_ok {V : Val} {args : List AV} {A : AHeap} {v : AV} {A' : AHeap} (h : extCheck args A = some (v, A')) {μ : Mu} {w : World} {us : List Value} (R : @Rel V A μ w) (hus : @VRs V μ args us) :
    Calls Tryz.prog 56 us.toArray w fun e w' => ∃ u μ', e = .returned u ∧ @VR V μ' v u ∧ @Rel V A' μ' w' ∧ Ext A A' μ μ' w w' := by
  obtain ⟨h1, h2, rfl, rfl⟩ := extCheck_inv h
  obtain ⟨A1, hr⟩ := okZ_some check_run
  refine (ro_call (V := V) (@noExt_ok (noJ V) _ _) mdl_ro hr R hus h1 h2).mono ?_
  rintro e w' ⟨u, μ', rfl, hu, _, hB, _⟩
  simp only [VR] at hu
  subst hu
  exact ⟨_, μ, rfl, by simp only [VR], @Rel.grow V _ _ _ _ R hB, Ext.grow hB⟩
def extC : FuncId → Option (List AV → AHeap → Option (AV × AHeap))
  | 56 => some extCheck
  | _ => none
theorem extC_ok (V : Val) : @ExtOK V Tryz.prog (envOf Tryz.prog) extC := by
  have hf : ∀ f g, extC f = some g → f = 56 ∧ g = extCheck := by
    intro f g h
    unfold extC at h
    split at h
    · cases h; exact ⟨rfl, rfl⟩
    · cases h
  refine @ExtOK.mk V _ _ _ (fun f g h => ?_) (fun f g h args A v A' h2 => ?_) (fun f g h args A v A' h2 μ w us R hJ hus hfr => ?_)
  · obtain ⟨rfl, _⟩ := hf f g h; kernel_rfl
  · obtain ⟨rfl, rfl⟩ := hf f g h; obtain ⟨_, _, _, rfl⟩ := extCheck_inv h2; exact Nat.le_refl _
  · obtain ⟨rfl, rfl⟩ := hf f g h; exact extCheck_ok h2 R hus
/-! ### Entry -/
def entTab : List (Int × Int × List Int) := [(1, 0, [(-1), (-2), 2, 2, (-2), 0, (-3), 4, 0, 4, (-2), (-2)]),
  (2, 1, [(-7), (-3), 8, 7, 4, 1, (-1), 8, 2, 11, 1, (-4)]),
  (1, 2, [(-3), (-5), 2, 3, (-3), 2, (-2), 2, (-1), 1, 2, 1]),
  (5, 2, [1, 0, 1, 0, (-5), 2, (-3), (-2), 1, (-6), 0, 0]),
  (6, 2, [2, 2, 5, 2, (-7), 0, (-8), 7, 2, 0, (-8), (-7)]),
  (7, 2, [(-8), (-9), 10, 9, (-5), 6, (-5), 1, 2, (-3), 7, 1]),
  (4, 3, [(-4), (-10), (-1), 3, (-2), 2, 1, (-1), (-5), 4, 7, 7]),
  (6, 3, [3, (-1), (-3), (-1), (-3), (-2), (-2), 5, (-4), 7, (-5), 0]),
  (7, 3, [(-8), (-12), 2, 6, (-1), 3, 2, (-1), (-3), 4, 10, 8]),
  (2, 4, [(-4), 0, 10, 7, (-1), 1, (-6), 11, 4, 6, (-4), (-8)]),
  (6, 4, [3, 5, 5, 1, (-7), (-1), (-9), 10, 3, 2, (-12), (-10)]),
  (7, 4, [(-7), (-6), 10, 8, (-4), 4, (-6), 4, 3, (-1), 3, (-2)]),
  (1, 5, [(-4), (-5), 1, 3, 3, 0, 3, 2, (-2), 8, 3, 2]),
  (3, 5, [(-5), (-8), 1, 4, 1, 0, 2, 4, (-4), 11, 4, 4]),
  (6, 5, [1, 2, 3, 2, (-1), (-1), (-4), 8, 1, 6, (-7), (-6)]),
  (2, 6, [(-6), (-3), 10, 7, (-2), 2, (-5), 8, 3, 4, 0, (-5)]),
  (3, 6, [(-4), (-8), 3, 5, (-4), 2, (-3), 3, (-2), 5, 3, 2]),
  (5, 6, [1, 0, 1, 0, (-5), 2, (-3), (-2), 1, (-6), 0, 0]),
  (6, 6, [2, 2, 5, 2, (-7), 0, (-8), 7, 2, 0, (-8), (-7)]),
  (3, 7, [(-3), (-11), (-5), 2, (-1), 0, 4, 1, (-8), 12, 6, 9]),
  (6, 7, [3, (-1), (-3), (-1), (-3), (-2), (-2), 5, (-4), 7, (-5), 0]),
  (3, 8, [(-3), (-5), 3, 4, (-4), 1, (-3), 6, (-2), 7, (-1), (-1)]),
  (6, 8, [3, 5, 5, 1, (-7), (-1), (-9), 10, 3, 2, (-12), (-10)]),
  (7, 8, [(-7), (-6), 10, 8, (-4), 4, (-6), 4, 3, (-1), 3, (-2)])]
def ints64 (l : List Int) : List AV := l.map fun n => .int .i64 n
def entOK (l : List Int) (x : Option (AV × AHeap)) : Bool :=
  match x with
  | some (.tup [.sl b g 0 12 _ false 1, .int .i64 0], A) => Nat.ble 233 b && Nat.blt b A.n && (match aRow A b with | some (true, _, _) => true | _ => false) && (match aRead A b g 0 12 with | some vs => AV.beqs vs (ints64 l) | none => false)
  | _ => false
def entQ (p : Int × Int × List Int) : Bool := entOK p.2.2 (evCall (envOf Tryz.prog) extC 100 86 [.agg mdlCs, .int .i64 p.1, .int .i64 p.2.1] (mkH mdlL 233))
set_option maxHeartbeats 0 in
theorem ent_run0 : ((entTab.take 6).all entQ) = true := by kernel_rfl
set_option maxHeartbeats 0 in
theorem ent_run1 : (((entTab.drop 6).take 6).all entQ) = true := by kernel_rfl
set_option maxHeartbeats 0 in
theorem ent_run2 : (((entTab.drop 12).take 6).all entQ) = true := by kernel_rfl
set_option maxHeartbeats 0 in
theorem ent_run3 : ((entTab.drop 18).all entQ) = true := by kernel_rfl
theorem ent_run : (entTab.all entQ) = true := by
  have e : entTab = entTab.take 6 ++ ((entTab.drop 6).take 6 ++ ((entTab.drop 12).take 6 ++ entTab.drop 18)) := rfl
  rw [e, List.all_append, List.all_append, List.all_append, ent_run0, ent_run1, ent_run2, ent_run3]; rfl
def entLook (t at_ : Int) : List (Int × Int × List Int) → Option (Int × Int × List Int)
  | [] => none
  | p :: l => bif decide (p.1 = t) && decide (p.2.1 = at_) then some p else entLook t at_ l
theorem entLook_mem {t at_ : Int} : ∀ {l : List (Int × Int × List Int)} {p}, entLook t at_ l = some p → p ∈ l ∧ p.1 = t ∧ p.2.1 = at_
  | [], p, h => by cases h
  | q :: l, p, h => by
    simp only [entLook] at h
    cases hb : (decide (q.1 = t) && decide (q.2.1 = at_)) with
    | true =>
      rw [hb] at h
      simp only [cond_true, Option.some.injEq] at h
      subst h
      simp only [Bool.and_eq_true, decide_eq_true_eq] at hb
      exact ⟨by simp, hb.1, hb.2⟩
    | false =>
      rw [hb] at h
      obtain ⟨a, b⟩ := entLook_mem h
      exact ⟨List.mem_cons_of_mem _ a, b⟩
def extEntry (args : List AV) (H : AHeap) : Option (AV × AHeap) :=
  match args with
  | [m, .int .i64 t, .int .i64 a] => (entLook t a entTab).bind fun p => bif wkvs 233 [] [] [m] [.agg mdlCs] && wkH 233 [] [] H mdlL then some (.tup [.sl H.n 0 0 12 12 false 1, .int .i64 0], H.push (.row true 0 (stamp0 (ints64 p.2.2)))) else none
  | _ => none
theorem extEntry_inv {args : List AV} {A : AHeap} {v : AV} {A' : AHeap} (h : extEntry args A = some (v, A')) : ∃ m t a l, args = [m, .int .i64 t, .int .i64 a] ∧ (t, a, l) ∈ entTab ∧ wkvs 233 [] [] [m] [.agg mdlCs] = true ∧ wkH 233 [] [] A mdlL = true ∧
    v = .tup [.sl A.n 0 0 12 12 false 1, .int .i64 0] ∧ A' = A.push (.row true 0 (stamp0 (ints64 l))) := by
  unfold extEntry at h
  split at h
  · rename_i m t a
    simp only [Option.bind_eq_some_iff] at h
    obtain ⟨⟨t', a', l⟩, h1, h⟩ := h
    obtain ⟨h2, rfl, rfl⟩ := entLook_mem h1
    cases hb : (wkvs 233 [] [] [m] [.agg mdlCs] && wkH 233 [] [] A mdlL) with
    | false => rw [hb] at h; cases h
    | true =>
      rw [hb] at h
      simp only [Bool.and_eq_true] at hb
      simp only [cond_true, Option.some.injEq, Prod.mk.injEq] at h
      exact ⟨m, _, _, l, rfl, h2, hb.1, hb.2, h.1.symm, h.2.symm⟩
  · cases h
theorem ints64_VR {V : Val} {μ : Mu} : ∀ {l : List Int} {us : List Value}, @VRs V μ (ints64 l) us → us = l.map fun n => Value.int .i64 n
  | [], us, h => by simpa only [ints64, List.map_nil, VRs] using h
  | n :: l, us, h => by
    simp only [ints64, List.map_cons, VRs, VR] at h
    obtain ⟨u, us', rfl, rfl, h3⟩ := h
    rw [ints64_VR (l := l) h3]; rfl
theorem extEntry_ok {V : Val} {args : List AV} {A : AHeap} {v : AV} {A' : AHeap} (h : extEntry args A = some (v, A')) {μ : Mu} {w : World} {us : List Value} (R : @Rel V A μ w) (hus : @VRs V μ args us) (hfr : Fresh μ A.n A'.n) :
    Calls Tryz.prog 86 us.toArray w fun e w' => ∃ u μ', e = .returned u ∧ @VR V μ' v u ∧ @Rel V A' μ' w' ∧ Ext A A' μ μ' w w' := by
  obtain ⟨m, t, a, l, rfl, hmem, h1, h2, rfl, rfl⟩ := extEntry_inv h
  have hrun := List.all_eq_true.1 ent_run _ hmem
  simp only [entQ] at hrun
  unfold entOK at hrun
  split at hrun
  case h_2 => cases hrun
  rename_i b g lo A1 hr
  simp only [Bool.and_eq_true, Nat.ble_eq, Nat.blt_eq] at hrun
  obtain ⟨⟨⟨g1, g2⟩, g3⟩, g4⟩ := hrun
  have h1' : wkvs 233 [] [] [m, .int .i64 t, .int .i64 a] [.agg mdlCs, .int .i64 t, .int .i64 a] = true := by
    simp only [wkvs, wkv, Bool.and_eq_true, Bool.and_true, decide_eq_true_eq] at h1 ⊢
    exact ⟨h1, by simp⟩
  refine (ro_call (V := V) (extC_ok (noJ V)) mdl_ro hr R hus h1' h2).mono ?_
  rintro e w' ⟨u, μ', rfl, hu, hR, hB, hge⟩
  simp only [VR, VRs] at hu
  obtain ⟨xs, ⟨u1, xs1, rfl, ⟨c, sz, cap, off', q0, rfl, q1, q2, q3, q4, q5⟩, u2, xs2, rfl, rfl, rfl⟩, rfl⟩ := hu
  obtain ⟨rfl, q4'⟩ := q4 (by omega)
  have q6 := q4' trivial
  split at g3
  case h_2 => cases g3
  rename_i gen cells hrow
  split at g4
  case h_2 => cases g4
  rename_i vs hvs
  have e := AV.eq_of_beqs _ _ g4
  subst e
  obtain ⟨cs, e, fr, hw, hsz, hfr0, hgg, _, hcell⟩ := @Rel.row (noJ V) _ _ _ hR _ _ _ _ hrow _ _ _ q0
  have := hfr0 rfl; subst this
  obtain ⟨ws, r1, r2, _, r4⟩ := @aRead_sound (noJ V) _ _ _ hR _ _ _ _ _ hvs _ _ q0
  have hws := ints64_VR r1
  subst hws
  have hl : l.length = 12 := by simpa using r2
  have hn : ∀ g, μ A.n g = none := fun g => hfr _ g (Nat.le_refl _) (by simp)
  have hB0 : @BlkR V μ (.row true 0 (stamp0 (ints64 l))) 0 sz (.cells cs e (0, 0)) := by
    refine ⟨cs, e, (0, 0), rfl, hsz, fun _ => rfl, Nat.le_refl _, fun _ => by simp [stamp0, ints64, hl]; omega, fun i v s hi _ => ?_⟩
    simp only [stamp0, ints64, List.getElem?_map, Option.map_eq_some_iff, Prod.mk.injEq] at hi
    obtain ⟨v', ⟨n, k1, rfl⟩, rfl, _⟩ := hi
    refine ⟨.int .i64 n, ?_, by simp only [VR], rfl⟩
    have := r4 i (.int .i64 n) (by simp [k1])
    rw [Addr.add_lit] at this
    simpa [World.cell?, hw] using this
  obtain ⟨p1, p2⟩ := @Rel.add8 V A μ w w' R hn hB c sz _ _ (hge b g c sz g1 g2 q0) hw hB0
  refine ⟨_, _, rfl, ?_, p1, p2⟩
  simp only [VR, VRs]
  exact ⟨_, ⟨_, _, rfl, ⟨c, sz, cap, 0, upd_same _ _ _ _, rfl, Nat.le_refl _, by omega, (fun h => by cases h), fun _ => ⟨rfl, fun _ => by omega⟩, q5⟩, _, _, rfl, rfl, rfl⟩, rfl⟩
end
end Go.Proofs.YthhhpaeheccelaaGreat
