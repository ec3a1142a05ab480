/- The abstract evaluator, part 13: a region that draws its order, the step. -/
import Derived.Test.YteabbkagekdehaaAe12
set_option linter.unusedVariables false
set_option linter.unusedSectionVars false
set_option linter.unusedSimpArgs false
namespace Go.AE
variable [Val]
section
variable {P : Program} {E : Env} (hE : EnvOK P E) {call : ACall} (hC : CallOK P E call) {ops : Array Oper} {A0 : AHeap} {fin : Ts × AHeap} {μ0 : Mu} {w0 : World} {ds : List Deferred}
  {L : List Item} {hist : Hist} {ts : Ts} {H : AHeap} {early : Early} {listed : Array Bool} {a : Act} {w : World} {μ : Mu} {Q : Exit → Act → World → Prop}
theorem nodup_mid {L1 L2 : List Item} {it : Item} (h : ((L1 ++ it :: L2).map (·.1)).Nodup) : ∀ k ∈ L1 ++ L2, k.1 ≠ it.1 := by
  simp only [List.map_append, List.map_cons, List.nodup_append, List.nodup_cons, List.mem_map, List.mem_cons] at h
  obtain ⟨_, ⟨h1, _⟩, h2⟩ := h
  intro k hk e
  rcases List.mem_append.1 hk with hk | hk
  · exact h2 _ ⟨k, hk, rfl⟩ _ (.inl rfl) e
  · exact h1 ⟨k, hk, e⟩
theorem put_defers (a : Act) (d : Option Tmp) (u : Value) : (a.put d u).defers = a.defers := by cases d <;> rfl
theorem ready_mask {it : Item} (I : Inv P E call ops A0 fin μ0 w0 ds L hist ts H early listed a w μ) (hk : it ∈ L) (hr : it.1 ∈ Region.ready .any ops listed) {k : Nat} (h : it.2.1.testBit k = true) : listed.getD k false = true := by
  obtain ⟨h1, h2⟩ := I.items it hk
  obtain ⟨_, o, h3, h4⟩ := mem_ready.1 hr
  rw [h1] at h3; cases h3
  rw [h2] at h
  exact mask_ready I.closed it.1 h1 (fun e he hb => h4 e he hb) h
theorem listed_mask {it : Item} (I : Inv P E call ops A0 fin μ0 w0 ds L hist ts H early listed a w μ) (hk : it ∈ L) (hr : listed.getD it.1 false = true) {k : Nat} (h : it.2.1.testBit k = true) : listed.getD k false = true := by
  obtain ⟨h1, h2⟩ := I.items it hk
  rw [h2] at h
  exact mask_closed I.closed h1 hr h
/-- operations behind that are done already, and operations ahead that are not, neither look nor write where this one does -/
theorem Inv.sides {L1 L2 : List Item} {it : Item} (I : Inv P E call ops A0 fin μ0 w0 ds (L1 ++ it :: L2) hist ts H early listed a w μ) (he : early it.1 = none) (hr : it.1 ∈ Region.ready .any ops listed) :
    (∀ k ∈ L1, early k.1 = none → ∀ d, k.2.2.dst = some d → d ∉ it.2.2.looksAt ops) ∧ (∀ k ∈ L2, early k.1 ≠ none → ∀ d, k.2.2.dst = some d → d ∉ it.2.2.looksAt ops) ∧
    (∀ k ∈ L2, early k.1 ≠ none → ∀ x, it.2.2.dst = some x → k.2.2.dst ≠ some x) := by
  obtain ⟨p1, p2⟩ := apartOK_app I.apart
  have q := (apartOK_cons p1).1
  have mem : it ∈ L1 ++ it :: L2 := by simp
  have hno := I.notList mem he
  refine ⟨fun k hk hn d hd => ?_, fun k hk hn d hd => ?_, fun k hk hn d hd => ?_⟩
  · rcases p2 k hk it (by simp) with h | h
    · exact absurd (ready_mask I mem hr h) (I.notList (k := k) (by simp [hk]) hn)
    · exact (Oper.apart_spec h).1 d hd
  · rcases q k hk with h | h
    · exact absurd (listed_mask I (it := k) (by simp [hk]) (I.isList (k := k) (by simp [hk]) hn) h) hno
    · exact (Oper.apart_spec h).2.2 d hd
  · rcases q k hk with h | h
    · exact absurd (listed_mask I (it := k) (by simp [hk]) (I.isList (k := k) (by simp [hk]) hn) h) hno
    · exact (Oper.apart_spec h).2.1 d hd
theorem closed_set {it : Item} (I : Inv P E call ops A0 fin μ0 w0 ds L hist ts H early listed a w μ) (hk : it ∈ L) (hr : it.1 ∈ Region.ready .any ops listed) : ClosedUnder ops fun i => (listed.setIfInBounds it.1 true).getD i false = true := by
  intro i o e ho hi hm hb
  obtain ⟨_, o', h3, h4⟩ := mem_ready.1 hr
  by_cases hii : it.1 = i
  · subst hii
    rw [h3] at ho; cases ho
    exact getD_set_true (h4 e hm hb)
  · rw [getD_set_ne false hii] at hi
    exact getD_set_true (I.closed i o e ho hi hm hb)
/-- after an early step -/
theorem Inv.ahead {L1 L2 : List Item} {it : Item} (I : Inv P E call ops A0 fin μ0 w0 ds (L1 ++ it :: L2) hist ts H early listed a w μ) (he : early it.1 = none) (hr : it.1 ∈ Region.ready .any ops listed) (hne : isEff it.2.2 = false)
    {hi : Hist} {ti : Ts} {Hi : AHeap} (hp : runPre E call ops A0 L1 hist ts H = some (hi, ti, Hi)) {v : AV} {hi' : Hist} {Hi' : AHeap} (hs : stepI E call ops A0 it hi ti Hi = some (v, hi', Hi'))
    {μ' : Mu} {w' : World} {u : Value} (hu : VR μ' v u) (hle : MuLe μ μ') (hfr : Fr E call ops A0 μ' w' (earlyUpd early it.1 v) (L1 ++ it :: L2) hist ts H) (hrel : Rel H μ' w') (hext : Ext A0 (pad H fin.2.n) μ0 μ' w0 w') :
    Inv P E call ops A0 fin μ0 w0 ds (L1 ++ it :: L2) hist ts H (earlyUpd early it.1 v) (listed.setIfInBounds it.1 true) (a.put it.2.2.dst u) w' μ' := by
  have hn := nodup_mid I.nodup
  have mem : it ∈ L1 ++ it :: L2 := by simp
  obtain ⟨s1, s2, s3⟩ := I.sides he hr
  have hlt : it.1 < ops.size := (Array.getElem?_eq_some_iff.1 (I.items it mem).1).1
  obtain ⟨done, o1, o2⟩ := I.order
  exact {
    can := can_upd I.can hp hs hn
    fr := hfr
    rel := hrel
    sub := I.sub
    tr := by rw [ovl_upd he hn s3]; exact (I.tr.mono hle).put hu _
    size := by rw [Array.size_setIfInBounds]; exact I.size
    lst := fun i hil => by
      by_cases hii : it.1 = i
      · subst hii
        have : (listed.setIfInBounds it.1 true).getD it.1 true = true := by simp
        rw [this]
        simp [earlyUpd]
      · rw [getD_set_ne true hii, I.lst i hil]
        have hii' : ¬ i = it.1 := fun h => hii h.symm
        simp [earlyUpd, hii']
    items := I.items
    nodup := I.nodup
    apart := I.apart
    order := ⟨done, o1, fun i hi => getD_set_true (o2 i hi)⟩
    effs := fun k hk hke => by
      have : k.1 ≠ it.1 := fun e => by
        have h1 := (I.items k hk).1
        rw [e, (I.items it mem).1] at h1
        simp only [Option.some.injEq] at h1
        rw [← h1, hne] at hke; cases hke
      simp [earlyUpd, this, I.effs k hk hke]
    closed := closed_set I mem hr
    ext := hext
    n := I.n
    defers := by rw [put_defers]; exact I.defers }
include hE hC in
/-- an operation that does not write is taken, wherever it stands -/
theorem Inv.take {L1 L2 : List Item} {it : Item} (I : Inv P E call ops A0 fin μ0 w0 ds (L1 ++ it :: L2) hist ts H early listed a w μ) (he : early it.1 = none) (hr : it.1 ∈ Region.ready .any ops listed) (hne : isEff it.2.2 = false)
    {K : Act → World → Prop} (hK : ∀ early' a' w' μ', Inv P E call ops A0 fin μ0 w0 ds (L1 ++ it :: L2) hist ts H early' (listed.setIfInBounds it.1 true) a' w' μ' → todo early' (L1 ++ it :: L2) + 1 = todo early (L1 ++ it :: L2) → K a' w') :
    wpOp P ops Q it.1 K a w := by
  have mem : it ∈ L1 ++ it :: L2 := by simp
  have hit := (I.items it mem).1
  have hn := nodup_mid I.nodup
  obtain ⟨s1, s2, s3⟩ := I.sides he hr
  obtain ⟨hi, ti, Hi, hp, hc2⟩ := can_split I.can
  obtain ⟨v, hi', Hi', hs, _, hc3⟩ := hc2
  have ag0 : Agree (it.2.2.looksAt ops) (ovl early (L1 ++ it :: L2) ts) ti := pre_agree I.can hp s1 fun k hk => by
    rcases List.mem_cons.1 hk with rfl | hk
    · intro h; exact absurd he h
    · exact s2 k hk
  have nHi := runPre_n hC hp
  have nfin := can_n hC hc3
  have nst := stepI_n hC hs
  have frI := fr_split I.fr hp v hi' Hi' hs
  have ek : ∀ v, earlyUpd early it.1 v it.1 = some v := fun v => by simp [earlyUpd]
  -- nothing made, or a block
  have same : (Hi' = Hi) → ∀ u, VR μ v u → K (a.put it.2.2.dst u) w := fun hH u hu => by
    refine hK _ _ _ μ (I.ahead he hr hne hp hs hu (MuLe.refl μ) ?_ I.rel I.ext) (todo_upd he hn)
    exact fr_upd hC (MuLe.refl μ) (fun _ _ _ _ _ _ h => h) hp hs hn (fun _ _ _ => rfl) (fun _ _ _ => rfl) (fun B hB => absurd (hH.symm.trans hB) push_ne) I.fr
  have hwant : wantA ops (ovl early (L1 ++ it :: L2) ts) it.2.2 = wantA ops ti it.2.2 := want_agree ag0
  have hm : ∀ k ∈ L1, isEff k.2.2 = true → it.2.1.testBit k.1 = false := fun k hk hke => by
    cases hb : it.2.1.testBit k.1 with
    | false => rfl
    | true => exact absurd (ready_mask I mem hr hb) (I.notList (k := k) (by simp [hk]) (I.effs k (by simp [hk]) hke))
  unfold wpOp
  simp only [hit]
  rw [wantA_eq I.tr, hwant]
  have hs0 := hs
  unfold stepI at hs
  split at hs
  · rename_i hw
    rw [hw]
    simp only [if_true]
    refine .inl ?_
    unfold Oper.wp
    split at hs
    · rename_i hk
      simp only [Option.bind_eq_some_iff] at hs
      obtain ⟨v', h1, h2⟩ := hs
      cases hc : (!heapDep it.2.2.op || chkPast E ti it.2.2.op v' it.2.1 hi A0) with
      | false => simp [hc] at h2
      | true =>
        simp only [hc, cond_true, Option.some.injEq, Prod.mk.injEq] at h2
        obtain ⟨rfl, rfl, rfl⟩ := h2
        have hv : aPass E (ovl early (L1 ++ it :: L2) ts) (lastH hist A0) it.2.2.op = some v' := by
          rw [pass_agree ag0]
          cases hd : heapDep it.2.2.op with
          | false => rw [pass_heap hd _ (lastH hi A0)]; exact h1
          | true =>
            rw [hd] at hc
            simp only [Bool.not_true, Bool.false_or] at hc
            exact chk_last (chk_back hp hm (chk_of_past h1 hc))
        obtain ⟨u, e1, e2⟩ := pass_sound hE (I.rel.sub I.sub) hv I.tr hk
        rw [e1]
        exact same rfl u e2
    · rename_i hk
      simp only [Option.bind_eq_some_iff, stepNew, Option.some.injEq, Prod.mk.injEq] at hs
      obtain ⟨p, ⟨⟨B, mk⟩, h1, rfl⟩, rfl, rfl, rfl⟩ := hs
      rw [← new_agree ag0] at h1
      obtain ⟨ob, u, e1, e2, e3⟩ := new_sound hE (w := w) h1 I.tr
      have hno : ∀ g, μ Hi.n g = none := fun g => frI.1 he _ g (Nat.le_refl _) (by simp)
      have hle := MuLe.upd (x := (w.heap.size, objSize ob)) (hno 0)
      rw [e1]
      refine hK _ _ _ (Go.AE.upd μ Hi.n 0 (w.heap.size, objSize ob)) (I.ahead he hr hne hp hs0 (e3 _ Hi.n (upd_same _ _ _ _)) hle ?_ (I.rel.early nHi hno) (I.ext.padEarly (by simp at nfin; omega) hno)) (todo_upd he hn)
      refine fr_upd hC hle (fun b g c sz o' hm hc => ?_) hp hs0 hn (fun b g hb => upd_other _ _ fun h => hb h.1) (fun h => by simp at h) (fun B' hB => ?_) I.fr
      · rw [heap_alloc_old w ob c (I.rel.bound _ _ _ _ hm)]; exact hc
      · obtain rfl := push_inj hB
        exact ⟨w.heap.size, objSize ob, ob, upd_same _ _ _ _, fun g hg => by rw [upd_other _ _ fun h => hg h.2]; exact hno g, heap_alloc_new w ob, e2.mono hle⟩
    · rename_i hk; unfold isEff at hne; rw [hk] at hne; cases hne
  · rename_i hw
    rw [hw]
    simp only [Bool.false_eq_true, if_false]
    split at hs
    · rename_i hk; unfold isEff at hne; rw [hk] at hne; cases hne
    · simp only [Option.some.injEq, Prod.mk.injEq] at hs
      obtain ⟨rfl, rfl, rfl⟩ := hs
      exact same rfl undef (VR_undef μ)
include hE hC in
/-- an operation that writes is taken, in its turn -/
theorem Inv.write (J0 : Val.J μ0 w0) {r : List Item} {it : Item} (I : Inv P E call ops A0 fin μ0 w0 ds (it :: r) hist ts H early listed a w μ) (he : early it.1 = none) (hr : it.1 ∈ Region.ready .any ops listed) (hef : isEff it.2.2 = true)
    {K : Act → World → Prop} (hK : ∀ hist' ts' H' a' w' μ', Inv P E call ops A0 fin μ0 w0 ds r hist' ts' H' early (listed.setIfInBounds it.1 true) a' w' μ' → todo early r + 1 = todo early (it :: r) → K a' w') :
    wpOp P ops Q it.1 K a w := by
  have mem : it ∈ it :: r := by simp
  have hit := (I.items it mem).1
  have hn : ∀ k ∈ r, k.1 ≠ it.1 := fun k hk => nodup_mid (L1 := []) I.nodup k (by simpa using hk)
  obtain ⟨s1, s2, s3⟩ := Inv.sides (L1 := []) I he hr
  obtain ⟨v, hist', H', hs, _, hc3⟩ := I.can
  have ag0 : Agree (it.2.2.looksAt ops) (ovl early (it :: r) ts) ts := pre_agree (L1 := []) (L2 := it :: r) I.can rfl (by simp) fun k hk => by
    rcases List.mem_cons.1 hk with rfl | hk
    · intro h; exact absurd he h
    · exact s2 k hk
  have nfin := can_n hC hc3
  have nst := stepI_n hC hs
  obtain ⟨f1, _, f3⟩ := I.fr v hist' H' hs
  have hfresh := f1 he
  obtain ⟨done, o1, o2⟩ := I.order
  have hlt : it.1 < ops.size := (Array.getElem?_eq_some_iff.1 hit).1
  have htr : ovl early (it :: r) ts = ovl early r ts := by simp only [ovl, he]
  have hput : ovl early r (putA ts it.2.2.dst v) = putA (ovl early r ts) it.2.2.dst v := ovl_put s3
  have fin_ : ∀ u w' μ', VR μ' v u → Rel H' μ' w' → Ext H H' μ μ' w w' → SubH (lastH hist' A0) H' → K (a.put it.2.2.dst u) w' := fun u w' μ' hu hR hX hsub => by
    refine hK hist' (putA ts it.2.2.dst v) H' _ _ μ' ?_ (by simp [todo, he])
    exact {
      can := hc3
      fr := by
        refine fr_change hC hX.mono (fun _ _ => rfl) (fun b g hb => hX.above b g hb) (fun b g c sz ob hb hm hc => ?_) f3
        rw [hX.frame c (I.rel.bound _ _ _ _ hm) fun b2 g2 sz2 hm2 hb2 => ?_]
        · exact hc
        · have := I.rel.inj _ _ _ _ _ _ _ hm hm2
          omega
      rel := hR
      sub := hsub
      tr := by rw [hput]; have := I.tr; rw [htr] at this; exact (this.mono hX.mono).put hu _
      size := by rw [Array.size_setIfInBounds]; exact I.size
      lst := fun i hil => by
        by_cases hii : it.1 = i
        · subst hii
          have : (listed.setIfInBounds it.1 true).getD it.1 true = true := by simp
          rw [this]
          simp only [Bool.true_eq_false, false_iff, not_exists, not_and]
          intro k hk e; exact absurd e (hn k hk)
        · rw [getD_set_ne true hii, I.lst i hil]
          constructor
          · rintro ⟨k, hk, rfl, h⟩
            rcases List.mem_cons.1 hk with rfl | hk
            · exact absurd rfl hii
            · exact ⟨k, hk, rfl, h⟩
          · rintro ⟨k, hk, h1, h2⟩; exact ⟨k, by simp [hk], h1, h2⟩
      items := fun k hk => I.items k (by simp [hk])
      nodup := by have := I.nodup; simp only [List.map_cons, List.nodup_cons] at this; exact this.2
      apart := (apartOK_cons I.apart).2
      order := ⟨done ++ [it.1], (orderOK_cons o1).2.2.2.2, fun i hi => by
        rcases List.mem_append.1 hi with h | h
        · exact getD_set_true (o2 i h)
        · simp at h; subst h; simp [I.size, hlt]⟩
      effs := fun k hk => I.effs k (by simp [hk])
      closed := closed_set I mem hr
      ext := I.ext.padStep hX I.n nfin
      n := Nat.le_trans I.n nst
      defers := by rw [put_defers]; exact I.defers }
  have hwant : wantA ops (ovl early (it :: r) ts) it.2.2 = wantA ops ts it.2.2 := want_agree ag0
  unfold wpOp
  simp only [hit]
  rw [wantA_eq I.tr, hwant]
  unfold isEff at hef
  unfold stepI at hs
  split at hs
  · rename_i hw
    rw [hw]
    simp only [if_true]
    refine .inl ?_
    split at hs
    · rename_i hk; rw [hk] at hef; cases hef
    · rename_i hk; rw [hk] at hef; cases hef
    · rename_i hk
      simp only [Option.bind_eq_some_iff, Option.some.injEq, Prod.mk.injEq] at hs
      obtain ⟨⟨v', H1⟩, h1, rfl, rfl, rfl⟩ := hs
      rw [← eff_agree ag0] at h1
      refine stepOp_sound hE hC I.rel (Val.keep J0 I.ext) I.tr (v := v') (A' := H1) ?_ hfresh fun u w' μ' hu hR hX => fin_ u w' μ' hu hR hX (SubH.refl _)
      unfold stepOp; rw [hk]; exact h1
  · rename_i hw
    rw [hw]
    simp only [Bool.false_eq_true, if_false]
    split at hs
    · simp only [Option.some.injEq, Prod.mk.injEq] at hs
      obtain ⟨rfl, rfl, rfl⟩ := hs
      exact fin_ undef w μ (VR_undef μ) I.rel (Ext.refl _ _ _) (SubH.refl _)
    · rename_i hk
      cases hkk : opKind it.2.2.op with
      | eff => exact absurd hkk hk
      | _ => rw [hkk] at hef; cases hef
include hE hC in
theorem any_sound (J0 : Val.J μ0 w0) (hQ : ∀ a' w' μ', TR μ' fin.1 a'.tmps → Rel fin.2 μ' w' → Ext A0 fin.2 μ0 μ' w0 w' → a'.defers = ds → Q .normal a' w') :
    ∀ (fuel : Nat) {L : List Item} {hist : Hist} {ts : Ts} {H : AHeap} {early : Early} {listed : Array Bool} {a : Act} {w : World} {μ : Mu},
    Inv P E call ops A0 fin μ0 w0 ds L hist ts H early listed a w μ → todo early L = fuel → wpAny P .any ops Q fuel listed a w := by
  intro fuel
  induction fuel with
  | zero =>
    intro L hist ts H early listed a w μ I ht
    obtain ⟨L', hist', ts', H', I', h1, h2⟩ := I.norm hC
    have hnil : L' = [] := by
      cases hL : L' with
      | nil => rfl
      | cons it r =>
        have h3 := h2 it r hL
        rw [ht, hL] at h1
        simp [todo, h3] at h1
    subst hnil
    have hc := I'.can
    simp only [Can] at hc
    refine ⟨?_, hQ a w μ (by rw [← hc]; exact I'.tr) (by rw [← hc]; exact I'.rel) (by have := I'.ext; rw [← hc] at this ⊢; exact this) I'.defers⟩
    cases hrd : Region.ready .any ops listed with
    | nil => rfl
    | cons j js =>
      exfalso
      obtain ⟨h3, o, h4, _⟩ := mem_ready.1 (show j ∈ Region.ready .any ops listed by rw [hrd]; simp)
      obtain ⟨k, hk, _⟩ := (I'.lst j (Array.getElem?_eq_some_iff.1 h4).1).1 h3
      cases hk
  | succ fuel ih =>
    intro L hist ts H early listed a w μ I ht
    obtain ⟨L', hist', ts', H', I', h1, h2⟩ := I.norm hC
    rw [ht] at h1
    cases hL : L' with
    | nil => rw [hL] at h1; simp [todo] at h1
    | cons it r =>
      subst hL
      have he := h2 it r rfl
      have hitem := (I'.items it (by simp)).1
      have hlt := (Array.getElem?_eq_some_iff.1 hitem).1
      obtain ⟨done, o1, o2⟩ := I'.order
      have hready : it.1 ∈ Region.ready .any ops listed := mem_ready.2 ⟨(I'.lst it.1 hlt).2 ⟨it, by simp, rfl, he⟩, _, hitem, fun e hem hb => o2 _ ((orderOK_cons o1).2.2.1 e hem hb)⟩
      refine ⟨fun h => (by rw [h] at hready; cases hready), fun i hi => ?_⟩
      obtain ⟨h3, o, h4, _⟩ := mem_ready.1 hi
      obtain ⟨k, hk, rfl, hke⟩ := (I'.lst i (Array.getElem?_eq_some_iff.1 h4).1).1 h3
      obtain ⟨L1, L2, hsplit⟩ := List.append_of_mem hk
      cases hef : isEff k.2.2 with
      | false =>
        rw [hsplit] at I' h1
        exact I'.take hE hC hke hi hef fun early' a' w' μ' J hJ => ih J (by omega)
      | true =>
        cases L1 with
        | nil =>
          simp only [List.nil_append, List.cons.injEq] at hsplit
          obtain ⟨rfl, rfl⟩ := hsplit
          exact I'.write hE hC J0 he hi hef fun hist'' ts'' H'' a' w' μ' J hJ => ih J (by omega)
        | cons it' r' =>
          exfalso
          simp only [List.cons_append, List.cons.injEq] at hsplit
          obtain ⟨rfl, rfl⟩ := hsplit
          have h5 := orderOK_app (L1 := it :: r') (L2 := k :: L2) o1
          have h6 := (orderOK_cons h5).2.2.2.1 hef it.1 (by simp)
          exact I'.notList (k := it) (by simp) he (ready_mask I' (it := k) (by simp) hi h6)
end
end Go.AE
