/- The abstract evaluator, part 11: whatever order a region draws. -/
import Derived.Test.YteabbkagekdehaaAe10
set_option linter.unusedVariables false
set_option linter.unusedSectionVars false
set_option linter.unusedSimpArgs false
namespace Go.AE
variable [Val]
mutual
theorem AV.beq_refl : ∀ (a : AV), AV.beq a a = true
  | .bool _ | .int _ _ | .sym _ _ | .opq _ | .sptr .. | .str _ | .ptr _ _ _ | .nilPtr | .sl .. | .nilSl | .map _ | .nilMap | .nilFn | .nilIface => by simp [AV.beq]
  | .fn f a b => by simp [AV.beq, AV.beqs_refl a, AV.beqs_refl b]
  | .iface t v => by simp [AV.beq, AV.beq_refl v]
  | .agg a => by simp [AV.beq, AV.beqs_refl a]
  | .tup a => by simp [AV.beq, AV.beqs_refl a]
theorem AV.beqs_refl : ∀ (a : List AV), AV.beqs a a = true
  | [] => rfl
  | a :: x => by simp [AV.beqs, AV.beq_refl a, AV.beqs_refl x]
end
abbrev Item := Nat × Nat × Oper
abbrev Early := Nat → Option AV
abbrev Hist := List (Nat × AHeap)
section
variable {P : Program} {E : Env} (hE : EnvOK P E) {call : ACall} (hC : CallOK P E call) {ops : Array Oper} {A0 : AHeap} {fin : Ts × AHeap}

def stepI (E : Env) (call : ACall) (ops : Array Oper) (A0 : AHeap) (it : Item) (hist : Hist) (ts : Ts) (H : AHeap) : Option (AV × Hist × AHeap) :=
  match wantA ops ts it.2.2 with
  | true => match opKind it.2.2.op with
    | .pass => (aPass E ts (lastH hist A0) it.2.2.op).bind fun v => bif !heapDep it.2.2.op || chkPast E ts it.2.2.op v it.2.1 hist A0 then some (v, hist, H) else none
    | .new => (stepNew H (aNewO E ts it.2.2.op)).bind fun p => some (p.1, hist, p.2)
    | .eff => (stepEff call H (aEff E ts H it.2.2.op)).bind fun p => some (p.1, (it.1, p.2) :: hist, p.2)
  | false => match opKind it.2.2.op with
    | .eff => some (.undef, (it.1, H) :: hist, H)
    | _ => some (.undef, hist, H)
theorem runPlan_cons (it : Item) (r : List Item) (hist : Hist) (ts : Ts) (H : AHeap) :
    runPlan E call ops A0 (it :: r) hist ts H = (stepI E call ops A0 it hist ts H).bind fun x => runPlan E call ops A0 r x.2.1 (putA ts it.2.2.dst x.1) x.2.2 := by
  obtain ⟨i, m, o⟩ := it
  simp only [runPlan, stepI]
  cases wantA ops ts o with
  | true =>
    simp only
    cases opKind o.op with
    | pass =>
      simp only
      cases aPass E ts (lastH hist A0) o.op with
      | none => rfl
      | some v => simp only [Option.bind_some]; cases (!heapDep o.op || chkPast E ts o.op v m hist A0) <;> rfl
    | new => simp only; cases stepNew H (aNewO E ts o.op) <;> rfl
    | eff => simp only; cases stepEff call H (aEff E ts H o.op) <;> rfl
  | false => simp only; cases opKind o.op <;> rfl
include hC in
theorem stepI_n {it : Item} {hist : Hist} {ts : Ts} {H : AHeap} {v : AV} {hist' : Hist} {H' : AHeap} (h : stepI E call ops A0 it hist ts H = some (v, hist', H')) : H.n ≤ H'.n := by
  unfold stepI at h
  split at h
  · split at h
    · simp only [Option.bind_eq_some_iff] at h
      obtain ⟨u, _, h2⟩ := h
      cases hc : (!heapDep it.2.2.op || chkPast E ts it.2.2.op u it.2.1 hist A0) with
      | false => simp [hc] at h2
      | true => simp only [hc, cond_true, Option.some.injEq, Prod.mk.injEq] at h2; obtain ⟨_, _, rfl⟩ := h2; exact Nat.le_refl _
    · simp only [Option.bind_eq_some_iff, stepNew, Option.some.injEq, Prod.mk.injEq] at h
      obtain ⟨p, ⟨q, _, rfl⟩, _, _, rfl⟩ := h
      simp
    · rename_i hk
      simp only [Option.bind_eq_some_iff, Option.some.injEq, Prod.mk.injEq] at h
      obtain ⟨p, h1, _, _, rfl⟩ := h
      refine stepOp_n hC (E := E) (ts := ts) (op := it.2.2.op) (v := p.1) ?_
      unfold stepOp; rw [hk]; exact h1
  · split at h <;> (simp only [Option.some.injEq, Prod.mk.injEq] at h; obtain ⟨_, _, rfl⟩ := h; exact Nat.le_refl _)

def ovl (early : Early) : List Item → Ts → Ts
  | [], ts => ts
  | it :: r, ts => ovl early r (match early it.1 with | some x => putA ts it.2.2.dst x | none => ts)
def Can (E : Env) (call : ACall) (ops : Array Oper) (A0 : AHeap) (fin : Ts × AHeap) (early : Early) : List Item → Hist → Ts → AHeap → Prop
  | [], _, ts, H => (ts, H) = fin
  | it :: r, hist, ts, H => ∃ v hist' H', stepI E call ops A0 it hist ts H = some (v, hist', H') ∧ (∀ x, early it.1 = some x → x = v) ∧ Can E call ops A0 fin early r hist' (putA ts it.2.2.dst v) H'
def Fr (E : Env) (call : ACall) (ops : Array Oper) (A0 : AHeap) (μ : Mu) (w : World) (early : Early) : List Item → Hist → Ts → AHeap → Prop
  | [], _, _, _ => True
  | it :: r, hist, ts, H => ∀ v hist' H', stepI E call ops A0 it hist ts H = some (v, hist', H') →
      (early it.1 = none → Fresh μ H.n H'.n) ∧
      (∀ x, early it.1 = some x → ∀ B, H' = H.push B → ∃ c sz ob, μ H.n 0 = some (c, sz) ∧ (∀ g, g ≠ 0 → μ H.n g = none) ∧ w.heap[c]? = some ob ∧ BlkR μ B 0 sz ob) ∧
      Fr E call ops A0 μ w early r hist' (putA ts it.2.2.dst v) H'
theorem can_of_run : ∀ {L : List Item} {hist : Hist} {ts : Ts} {H : AHeap}, runPlan E call ops A0 L hist ts H = some fin → Can E call ops A0 fin (fun _ => none) L hist ts H
  | [], hist, ts, H, h => by simpa [runPlan, Can] using h
  | it :: r, hist, ts, H, h => by
    rw [runPlan_cons, Option.bind_eq_some_iff] at h
    obtain ⟨⟨v, hist', H'⟩, h1, h2⟩ := h
    exact ⟨v, hist', H', h1, by simp, can_of_run h2⟩
include hC in
theorem can_n : ∀ {L : List Item} {early : Early} {hist : Hist} {ts : Ts} {H : AHeap}, Can E call ops A0 fin early L hist ts H → H.n ≤ fin.2.n
  | [], _, _, _, _, h => by simp only [Can] at h; rw [← h]; exact Nat.le_refl _
  | it :: r, _, _, _, _, ⟨v, hist', H', h1, _, h3⟩ => Nat.le_trans (stepI_n hC h1) (can_n h3)
include hC in
theorem fr_of_fresh : ∀ {L : List Item} {hist : Hist} {ts : Ts} {H : AHeap} {μ : Mu} {w : World}, Can E call ops A0 fin (fun _ => none) L hist ts H → Fresh μ H.n fin.2.n → Fr E call ops A0 μ w (fun _ => none) L hist ts H
  | [], _, _, _, _, _, _, _ => trivial
  | it :: r, _, _, _, _, _, ⟨v, hist', H', h1, _, h3⟩, hf => by
    intro v2 hist2 H2 h2
    rw [h1] at h2; cases h2
    have n1 := stepI_n hC h1
    have n2 := can_n hC h3
    exact ⟨fun _ => hf.sub (Nat.le_refl _) n2, fun x hx => by simp at hx, fr_of_fresh h3 (hf.sub n1 (Nat.le_refl _))⟩

def runPre (E : Env) (call : ACall) (ops : Array Oper) (A0 : AHeap) : List Item → Hist → Ts → AHeap → Option (Hist × Ts × AHeap)
  | [], hist, ts, H => some (hist, ts, H)
  | it :: r, hist, ts, H => (stepI E call ops A0 it hist ts H).bind fun x => runPre E call ops A0 r x.2.1 (putA ts it.2.2.dst x.1) x.2.2
theorem can_split : ∀ {L1 L2 : List Item} {early : Early} {hist : Hist} {ts : Ts} {H : AHeap}, Can E call ops A0 fin early (L1 ++ L2) hist ts H → ∃ hi ti Hi, runPre E call ops A0 L1 hist ts H = some (hi, ti, Hi) ∧ Can E call ops A0 fin early L2 hi ti Hi
  | [], _, _, hist, ts, H, h => ⟨hist, ts, H, rfl, h⟩
  | it :: r, L2, early, hist, ts, H, ⟨v, hist', H', h1, _, h3⟩ => by
    obtain ⟨hi, ti, Hi, e1, e2⟩ := can_split h3
    exact ⟨hi, ti, Hi, by simp only [runPre, h1, Option.bind_some]; exact e1, e2⟩
include hC in
theorem runPre_n : ∀ {L1 : List Item} {hist : Hist} {ts : Ts} {H : AHeap} {hi : Hist} {ti : Ts} {Hi : AHeap}, runPre E call ops A0 L1 hist ts H = some (hi, ti, Hi) → H.n ≤ Hi.n
  | [], _, _, _, _, _, _, h => by simp only [runPre, Option.some.injEq, Prod.mk.injEq] at h; obtain ⟨_, _, rfl⟩ := h; exact Nat.le_refl _
  | it :: r, _, _, _, _, _, _, h => by
    simp only [runPre, Option.bind_eq_some_iff] at h
    obtain ⟨⟨v, hist', H'⟩, h1, h2⟩ := h
    exact Nat.le_trans (stepI_n hC h1) (runPre_n h2)
theorem ovl_agree {S : List Tmp} {early : Early} : ∀ {L : List Item} {a b : Ts}, Agree S a b → Agree S (ovl early L a) (ovl early L b)
  | [], _, _, h => h
  | it :: r, a, b, h => by
    simp only [ovl]
    refine ovl_agree ?_
    cases early it.1 with
    | none => exact h
    | some x => exact h.put _ _
theorem ovl_skip {S : List Tmp} {early : Early} : ∀ {L : List Item} {a : Ts}, (∀ k ∈ L, early k.1 ≠ none → ∀ d, k.2.2.dst = some d → d ∉ S) → Agree S (ovl early L a) a
  | [], _, _ => Agree.refl _ _
  | it :: r, a, h => by
    simp only [ovl]
    refine (ovl_skip fun k hk => h k (by simp [hk])).trans ?_
    cases he : early it.1 with
    | none => exact Agree.refl _ _
    | some x => exact Agree.put_left _ _ _ (h it (by simp) (by simp [he]))
theorem ovl_len {early : Early} : ∀ {L : List Item} {a : Ts}, (ovl early L a).n = a.n
  | [], _ => rfl
  | it :: r, a => by
    simp only [ovl]
    rw [ovl_len]
    cases early it.1 with
    | none => rfl
    | some x => exact putA_len _ _ _
/-- what an operation further on sees of the temporaries -/
theorem pre_agree {S : List Tmp} : ∀ {L1 L2 : List Item} {early : Early} {hist : Hist} {ts : Ts} {H : AHeap} {hi : Hist} {ti : Ts} {Hi : AHeap}, Can E call ops A0 fin early (L1 ++ L2) hist ts H →
    runPre E call ops A0 L1 hist ts H = some (hi, ti, Hi) → (∀ k ∈ L1, early k.1 = none → ∀ d, k.2.2.dst = some d → d ∉ S) → (∀ k ∈ L2, early k.1 ≠ none → ∀ d, k.2.2.dst = some d → d ∉ S) → Agree S (ovl early (L1 ++ L2) ts) ti
  | [], L2, early, hist, ts, H, hi, ti, Hi, _, h, _, h2 => by
    simp only [runPre, Option.some.injEq, Prod.mk.injEq] at h
    obtain ⟨_, rfl, _⟩ := h
    exact ovl_skip h2
  | it :: r, L2, early, hist, ts, H, hi, ti, Hi, ⟨v, hist', H', h1, hv, h3⟩, h, k1, k2 => by
    simp only [runPre, h1, Option.bind_some] at h
    have ih := pre_agree h3 h (fun k hk => k1 k (by simp [hk])) k2
    simp only [List.cons_append, ovl]
    refine Agree.trans (ovl_agree ?_) ih
    cases he : early it.1 with
    | some x => rw [hv x he]; exact Agree.refl _ _
    | none => exact (Agree.put_left _ _ _ (k1 it (by simp) he)).symm
theorem stepI_hist {it : Item} {hist : Hist} {ts : Ts} {H : AHeap} {v : AV} {hist' : Hist} {H' : AHeap} (h : stepI E call ops A0 it hist ts H = some (v, hist', H')) :
    (isEff it.2.2 = false ∧ hist' = hist) ∨ (isEff it.2.2 = true ∧ hist' = (it.1, H') :: hist) := by
  unfold stepI at h
  unfold isEff
  split at h
  · split at h
    · rename_i hk
      simp only [Option.bind_eq_some_iff] at h
      obtain ⟨u, _, h2⟩ := h
      cases hc : (!heapDep it.2.2.op || chkPast E ts it.2.2.op u it.2.1 hist A0) with
      | false => simp [hc] at h2
      | true => simp only [hc, cond_true, Option.some.injEq, Prod.mk.injEq] at h2; obtain ⟨_, rfl, _⟩ := h2; exact .inl ⟨by rw [hk], rfl⟩
    · rename_i hk
      simp only [Option.bind_eq_some_iff, Option.some.injEq, Prod.mk.injEq] at h
      obtain ⟨p, _, _, rfl, _⟩ := h
      exact .inl ⟨by rw [hk], rfl⟩
    · rename_i hk
      simp only [Option.bind_eq_some_iff, Option.some.injEq, Prod.mk.injEq] at h
      obtain ⟨p, _, _, rfl, rfl⟩ := h
      exact .inr ⟨by rw [hk], rfl⟩
  · split at h
    · rename_i hk
      simp only [Option.some.injEq, Prod.mk.injEq] at h
      obtain ⟨_, rfl, rfl⟩ := h
      exact .inr ⟨by rw [hk], rfl⟩
    · rename_i hk
      simp only [Option.some.injEq, Prod.mk.injEq] at h
      obtain ⟨_, rfl, _⟩ := h
      refine .inl ⟨?_, rfl⟩
      cases hkk : opKind it.2.2.op with
      | eff => exact absurd hkk hk
      | _ => rfl
theorem chk_back {X : Ts} {op : Op} {v : AV} {m : Nat} : ∀ {L1 : List Item} {hist : Hist} {ts : Ts} {H : AHeap} {hi : Hist} {ti : Ts} {Hi : AHeap}, runPre E call ops A0 L1 hist ts H = some (hi, ti, Hi) →
    (∀ k ∈ L1, isEff k.2.2 = true → m.testBit k.1 = false) → chk E X op v m hi A0 = true → chk E X op v m hist A0 = true
  | [], _, _, _, _, _, _, h, _, hc => by simp only [runPre, Option.some.injEq, Prod.mk.injEq] at h; obtain ⟨rfl, _, _⟩ := h; exact hc
  | it :: r, hist, ts, H, hi, ti, Hi, h, k1, hc => by
    simp only [runPre, Option.bind_eq_some_iff] at h
    obtain ⟨⟨v', hist', H'⟩, h1, h2⟩ := h
    have ih := chk_back h2 (fun k hk => k1 k (by simp [hk])) hc
    rcases stepI_hist h1 with ⟨_, rfl⟩ | ⟨he, rfl⟩
    · exact ih
    · simp only [chk, Bool.and_eq_true, Bool.or_eq_true] at ih
      rcases ih.2 with h3 | h3
      · rw [k1 it (by simp) he] at h3; cases h3
      · exact h3
theorem chk_last {X : Ts} {op : Op} {v : AV} {m : Nat} {hist : Hist} (h : chk E X op v m hist A0 = true) : aPass E X (lastH hist A0) op = some v := by
  cases hist with
  | nil =>
    simp only [chk] at h
    simp only [lastH]
    cases hp : aPass E X A0 op with
    | none => rw [hp] at h; cases h
    | some u => rw [hp] at h; rw [AV.eq_of_beq u v h]
  | cons e r =>
    obtain ⟨k, A⟩ := e
    simp only [chk, Bool.and_eq_true] at h
    simp only [lastH]
    cases hp : aPass E X A op with
    | none => rw [hp] at h; cases h.1
    | some u => rw [hp] at h; rw [AV.eq_of_beq u v h.1]
theorem chk_of_past {X : Ts} {op : Op} {v : AV} {m : Nat} {hist : Hist} (h : aPass E X (lastH hist A0) op = some v) (hp : chkPast E X op v m hist A0 = true) : chk E X op v m hist A0 = true := by
  cases hist with
  | nil => simp only [lastH] at h; simp only [chk, h, AV.beq_refl]
  | cons e r =>
    obtain ⟨k, A⟩ := e
    simp only [lastH] at h
    simp only [chkPast] at hp
    simp only [chk, h, AV.beq_refl, Bool.true_and]
    exact hp
def earlyUpd (early : Early) (i : Nat) (v : AV) : Early := fun j => if j = i then some v else early j
theorem can_cong {early early' : Early} : ∀ {L : List Item} {hist : Hist} {ts : Ts} {H : AHeap}, (∀ k ∈ L, early' k.1 = early k.1) → Can E call ops A0 fin early L hist ts H → Can E call ops A0 fin early' L hist ts H
  | [], _, _, _, _, h => h
  | it :: r, _, _, _, he, ⟨v, hist', H', h1, hv, h3⟩ => ⟨v, hist', H', h1, fun x hx => hv x (by rw [← he it (by simp)]; exact hx), can_cong (fun k hk => he k (by simp [hk])) h3⟩
theorem can_upd {it : Item} {v : AV} : ∀ {L1 L2 : List Item} {early : Early} {hist : Hist} {ts : Ts} {H : AHeap} {hi : Hist} {ti : Ts} {Hi : AHeap} {hi' : Hist} {Hi' : AHeap},
    Can E call ops A0 fin early (L1 ++ it :: L2) hist ts H → runPre E call ops A0 L1 hist ts H = some (hi, ti, Hi) → stepI E call ops A0 it hi ti Hi = some (v, hi', Hi') → (∀ k ∈ L1 ++ L2, k.1 ≠ it.1) →
    Can E call ops A0 fin (earlyUpd early it.1 v) (L1 ++ it :: L2) hist ts H
  | [], L2, early, hist, ts, H, hi, ti, Hi, hi', Hi', ⟨v', hist', H', h1, hv, h3⟩, h, hs, hn => by
    simp only [runPre, Option.some.injEq, Prod.mk.injEq] at h
    obtain ⟨rfl, rfl, rfl⟩ := h
    rw [h1] at hs; cases hs
    exact ⟨v, _, _, h1, fun x hx => by simp [earlyUpd] at hx; exact hx.symm, can_cong (fun k hk => by simp [earlyUpd, hn k (by simpa using hk)]) h3⟩
  | k :: r, L2, early, hist, ts, H, hi, ti, Hi, hi', Hi', ⟨v', hist', H', h1, hv, h3⟩, h, hs, hn => by
    simp only [runPre, h1, Option.bind_some] at h
    exact ⟨v', hist', H', h1, fun x hx => hv x (by simpa [earlyUpd, hn k (by simp)] using hx), can_upd h3 h hs (fun q hq => hn q (by simp at hq ⊢; exact .inr hq))⟩
include hC in
/-- conditions on where blocks lie stay, if what is ahead of H.n alone turns, and what is known of the world stays -/
theorem fr_change {early early' : Early} {μ μ' : Mu} {w w' : World} (hle : MuLe μ μ') : ∀ {L : List Item} {hist : Hist} {ts : Ts} {H : AHeap}, (∀ k ∈ L, early' k.1 = early k.1) → (∀ b g, H.n ≤ b → μ' b g = μ b g) →
    (∀ b g c sz ob, H.n ≤ b → μ b g = some (c, sz) → w.heap[c]? = some ob → w'.heap[c]? = some ob) → Fr E call ops A0 μ w early L hist ts H → Fr E call ops A0 μ' w' early' L hist ts H
  | [], _, _, _, _, _, _, _ => trivial
  | it :: r, hist, ts, H, he, hμ, hw, h => by
    intro v hist' H' h1
    obtain ⟨f1, f2, f3⟩ := h v hist' H' h1
    have n1 := stepI_n hC h1
    refine ⟨fun e b g b1 b2 => by rw [hμ b g b1]; exact f1 (by rw [← he it (by simp)]; exact e) b g b1 b2, fun x hx B hB => ?_,
      fr_change hle (fun k hk => he k (by simp [hk])) (fun b g hb => hμ b g (by omega)) (fun b g c sz ob hb => hw b g c sz ob (by omega)) f3⟩
    obtain ⟨c, sz, ob, g1, g2, g3, g4⟩ := f2 x (by rw [← he it (by simp)]; exact hx) B hB
    exact ⟨c, sz, ob, hle _ _ _ g1, fun g hg => by rw [hμ _ g (Nat.le_refl _)]; exact g2 g hg, hw _ _ c sz ob (Nat.le_refl _) g1 g3, g4.mono hle⟩
include hC in
theorem fr_upd {it : Item} {v : AV} {μ μ' : Mu} {w w' : World} (hle : MuLe μ μ') (hw : ∀ b g c sz ob, μ b g = some (c, sz) → w.heap[c]? = some ob → w'.heap[c]? = some ob) :
    ∀ {L1 L2 : List Item} {early : Early} {hist : Hist} {ts : Ts} {H : AHeap} {hi : Hist} {ti : Ts} {Hi : AHeap} {hi' : Hist} {Hi' : AHeap},
    runPre E call ops A0 L1 hist ts H = some (hi, ti, Hi) → stepI E call ops A0 it hi ti Hi = some (v, hi', Hi') → (∀ k ∈ L1 ++ L2, k.1 ≠ it.1) → (∀ b g, b ≠ Hi.n → μ' b g = μ b g) → (Hi'.n = Hi.n → ∀ b g, μ' b g = μ b g) →
    (∀ B, Hi' = Hi.push B → ∃ c sz ob, μ' Hi.n 0 = some (c, sz) ∧ (∀ g, g ≠ 0 → μ' Hi.n g = none) ∧ w'.heap[c]? = some ob ∧ BlkR μ' B 0 sz ob) →
    Fr E call ops A0 μ w early (L1 ++ it :: L2) hist ts H → Fr E call ops A0 μ' w' (earlyUpd early it.1 v) (L1 ++ it :: L2) hist ts H
  | [], L2, early, hist, ts, H, hi, ti, Hi, hi', Hi', h, hs, hn, hμ, hμ0, hB, hf => by
    simp only [runPre, Option.some.injEq, Prod.mk.injEq] at h
    obtain ⟨rfl, rfl, rfl⟩ := h
    intro v2 hist2 H2 h2
    obtain ⟨f1, f2, f3⟩ := hf v2 hist2 H2 h2
    rw [hs] at h2; cases h2
    have n1 := stepI_n hC hs
    refine ⟨fun e => by simp [earlyUpd] at e, fun x hx B hb => hB B hb, fr_change hC hle (fun k hk => by simp [earlyUpd, hn k (by simpa using hk)]) (fun b g hb => ?_) (fun b g c sz ob _ => hw b g c sz ob) f3⟩
    by_cases hne : b = H.n
    · exact hμ0 (by omega) b g
    · exact hμ b g hne
  | k :: r, L2, early, hist, ts, H, hi, ti, Hi, hi', Hi', h, hs, hn, hμ, hμ0, hB, hf => by
    simp only [runPre, Option.bind_eq_some_iff] at h
    obtain ⟨⟨v1, hist1, H1⟩, h1, h2⟩ := h
    intro v2 hist2 H2 h3
    obtain ⟨f1, f2, f3⟩ := hf v2 hist2 H2 h3
    rw [h1] at h3; cases h3
    have n1 := stepI_n hC h1
    have n2 : H1.n ≤ Hi.n := runPre_n hC h2
    have ek : earlyUpd early it.1 v k.1 = early k.1 := by simp [earlyUpd, hn k (by simp)]
    refine ⟨fun e b g b1 b2 => by rw [hμ b g (by omega)]; exact f1 (by rw [← ek]; exact e) b g b1 b2, fun x hx B hb => ?_, fr_upd hle hw h2 hs (fun q hq => hn q (by simp at hq ⊢; exact .inr hq)) hμ hμ0 hB f3⟩
    obtain ⟨c, sz, ob, g1, g2, g3, g4⟩ := f2 x (by rw [← ek]; exact hx) B hb
    have hne : H.n ≠ Hi.n := by rw [hb] at n2; simp at n2; omega
    exact ⟨c, sz, ob, hle _ _ _ g1, fun g hg => by rw [hμ _ g hne]; exact g2 g hg, hw _ _ _ _ _ g1 g3, g4.mono hle⟩
theorem ovl_cong {early early' : Early} : ∀ {L : List Item} {ts : Ts}, (∀ k ∈ L, early' k.1 = early k.1) → ovl early' L ts = ovl early L ts
  | [], _, _ => rfl
  | it :: r, ts, h => by simp only [ovl]; rw [h it (by simp), ovl_cong fun k hk => h k (by simp [hk])]
theorem putA_comm {ts : Ts} {d d' : Option Tmp} {v v' : AV} (h : ∀ x, d = some x → d' ≠ some x) : putA (putA ts d v) d' v' = putA (putA ts d' v') d v := by
  cases d with
  | none => rfl
  | some x =>
    cases d' with
    | none => rfl
    | some y =>
      simp only [putA]
      exact Ts.set_comm _ _ _ fun e => h x rfl (by rw [e])
theorem ovl_put {early : Early} {d : Option Tmp} {v : AV} : ∀ {L : List Item} {ts : Ts}, (∀ k ∈ L, early k.1 ≠ none → ∀ x, d = some x → k.2.2.dst ≠ some x) → ovl early L (putA ts d v) = putA (ovl early L ts) d v
  | [], _, _ => rfl
  | it :: r, ts, h => by
    simp only [ovl]
    cases he : early it.1 with
    | none => exact ovl_put fun k hk => h k (by simp [hk])
    | some x =>
      simp only
      rw [putA_comm (h it (by simp) (by simp [he]))]
      exact ovl_put fun k hk => h k (by simp [hk])
theorem ovl_upd {it : Item} {v : AV} : ∀ {L1 L2 : List Item} {early : Early} {ts : Ts}, early it.1 = none → (∀ k ∈ L1 ++ L2, k.1 ≠ it.1) → (∀ k ∈ L2, early k.1 ≠ none → ∀ x, it.2.2.dst = some x → k.2.2.dst ≠ some x) →
    ovl (earlyUpd early it.1 v) (L1 ++ it :: L2) ts = putA (ovl early (L1 ++ it :: L2) ts) it.2.2.dst v
  | [], L2, early, ts, h0, hn, h2 => by
    have e : earlyUpd early it.1 v it.1 = some v := by simp [earlyUpd]
    simp only [List.nil_append, ovl, h0, e]
    rw [ovl_cong (early := early) (early' := earlyUpd early it.1 v) fun k hk => by simp [earlyUpd, hn k (by simpa using hk)], ovl_put h2]
  | k :: r, L2, early, ts, h0, hn, h2 => by
    have e : earlyUpd early it.1 v k.1 = early k.1 := by simp [earlyUpd, hn k (by simp)]
    simp only [List.cons_append, ovl, e]
    exact ovl_upd h0 (fun q hq => hn q (by simp at hq ⊢; exact .inr hq)) h2
end
end Go.AE
