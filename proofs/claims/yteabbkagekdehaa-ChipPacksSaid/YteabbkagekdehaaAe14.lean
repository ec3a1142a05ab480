/- The abstract evaluator, part 14: regions, code, bodies, calls are right. -/
import Derived.Test.YteabbkagekdehaaAe13
set_option linter.unusedVariables false
set_option linter.unusedSectionVars false
set_option linter.unusedSimpArgs false
namespace Go.AE
variable [Val]
theorem planOps_items {ms : List Nat} {ops : List Oper} : ∀ {l : List Nat}, ∀ k ∈ planOps ops ms l, ops[k.1]? = some k.2.2 ∧ k.2.1 = ms.getD k.1 0
  | [], k, h => by simp [planOps] at h
  | i :: is, k, h => by
    simp only [planOps] at h
    split at h
    · rename_i o ho
      rcases List.mem_cons.1 h with rfl | h
      · exact ⟨ho, rfl⟩
      · exact planOps_items k h
    · exact planOps_items k h
section
variable {P : Program} {E : Env} {ops : Array Oper}
theorem orderOK_nodup {ms : List Nat} : ∀ {L : List Item} {done : List Nat}, orderOK ops ms L done = true → (L.map (·.1)).Nodup ∧ (∀ k ∈ L, k.1 ∉ done)
  | [], _, _ => ⟨List.nodup_nil, by simp⟩
  | it :: r, done, h => by
    obtain ⟨h1, h2, h3, h4, h5⟩ := orderOK_cons h
    obtain ⟨k1, k2⟩ := orderOK_nodup h5
    refine ⟨?_, fun k hk => ?_⟩
    · simp only [List.map_cons, List.nodup_cons, List.mem_map, not_exists, not_and]
      refine ⟨fun k hk e => k2 k hk (by simp [e]), k1⟩
    · rcases List.mem_cons.1 hk with rfl | hk
      · exact h1
      · intro hm; exact k2 k hk (by simp [hm])
theorem orderOK_full {ms : List Nat} : ∀ {L : List Item} {done : List Nat}, orderOK ops ms L done = true → ∀ i, i < ops.size → i ∈ done ∨ ∃ k ∈ L, k.1 = i
  | [], done, h, i, hi => by
    simp only [orderOK, List.all_eq_true, List.mem_range, List.elem_eq_mem, decide_eq_true_eq] at h
    exact .inl (h i hi)
  | it :: r, done, h, i, hi => by
    rcases orderOK_full (orderOK_cons h).2.2.2.2 i hi with h1 | ⟨k, hk, h1⟩
    · rcases List.mem_append.1 h1 with h1 | h1
      · exact .inl h1
      · simp at h1; exact .inr ⟨it, by simp, h1.symm⟩
    · exact .inr ⟨k, by simp [hk], h1⟩
theorem ovl_none : ∀ {L : List Item} {ts : Ts}, ovl (fun _ => none) L ts = ts
  | [], _ => rfl
  | it :: r, ts => by simp only [ovl]; exact ovl_none
theorem Rel.drew {A : AHeap} {μ : Mu} {w : World} (R : Rel A μ w) : Rel A μ { w with drawn := w.drawn + 1 } := ⟨R.bound, R.inj, R.blk⟩
theorem orderOK_len {ms : List Nat} {L : List Item} (h : orderOK ops ms L [] = true) : L.length = ops.size := by
  have h1 := (orderOK_nodup h).1
  have h2 := orderOK_full h
  have hlt : ∀ {L : List Item} {done : List Nat}, orderOK ops ms L done = true → ∀ k ∈ L, k.1 < ops.size := by
    intro L
    induction L with
    | nil => intro _ _ k hk; cases hk
    | cons it r ih =>
      intro done h k hk
      obtain ⟨_, q2, _, _, q5⟩ := orderOK_cons h
      rcases List.mem_cons.1 hk with rfl | hk
      · exact q2
      · exact ih q5 k hk
  have e1 : (L.map (·.1)).Perm (List.range ops.size) := by
    refine (List.perm_ext_iff_of_nodup h1 List.nodup_range).2 fun i => ?_
    simp only [List.mem_map, List.mem_range]
    constructor
    · rintro ⟨k, hk, rfl⟩; exact hlt h k hk
    · intro hi
      rcases h2 i hi with h3 | ⟨k, hk, e⟩
      · cases h3
      · exact ⟨k, hk, e⟩
  have := e1.length_eq
  simpa using this
end
section
variable {P : Program} {E : Env} (hE : EnvOK P E) {call : ACall} (hC : CallOK P E call) (hm : P.follows .mixedOrders = true)
include hC in
theorem runRegion_n {ops : Array Oper} {draw : Bool} {ts ts' : Ts} {A A' : AHeap} (h : runRegion E call ops draw ts A = some (ts', A')) : A.n ≤ A'.n := by
  cases draw with
  | false => exact runOps_n hC h
  | true =>
    simp only [runRegion, Option.bind_eq_some_iff] at h
    obtain ⟨p, _, h2⟩ := h
    exact can_n hC (can_of_run h2)
include hE hC hm in
theorem region_sound {id : Nat} {ops : Array Oper} {draw : Bool} {ts ts' : Ts} {A A' : AHeap} (h : runRegion E call ops draw ts A = some (ts', A')) {μ : Mu} {w : World} {a : Act} {Q : Exit → Act → World → Prop} (R : Rel A μ w) (hJ : Val.J μ w) (T : TR μ ts a.tmps) (hfr : Fresh μ A.n A'.n)
    (hQ : ∀ a' w' μ', TR μ' ts' a'.tmps → Rel A' μ' w' → Ext A A' μ μ' w w' → a'.defers = a.defers → Q .normal a' w') : (Code.region id ops draw).wp P Q a w := by
  cases draw with
  | false =>
    refine wp_region ?_
    have := runOps_sound hE hC (ops := ops) (Q := Q) (l := ops.toList) (k := 0) h (by simp) R hJ T hfr hQ
    simpa [List.range_eq_range'] using this
  | true =>
    simp only [runRegion, Option.bind_eq_some_iff] at h
    obtain ⟨p, h1, h2⟩ := h
    unfold plan at h1
    simp only at h1
    generalize hp : planOps ops.toList (masks ops.toList []) (canon ops.toList (masks ops.toList [])) = q at h1
    cases hc : (orderOK ops (masks ops.toList []) q [] && apartOK ops q && ops.toList.all noSel) with
    | false => rw [hc] at h1; cases h1
    | true =>
      simp only [hc, cond_true, Option.some.injEq] at h1
      subst h1
      simp only [Bool.and_eq_true] at hc
      obtain ⟨⟨c1, c2⟩, _⟩ := hc
      have can := can_of_run h2
      have hn := can_n hC can
      refine wp_region_any hm (any_sound hE hC hJ (A0 := A) (fin := (ts', A')) (μ0 := μ) (w0 := w) (ds := a.defers) (L := q) (hist := []) (ts := ts) (H := A) (early := fun _ => none) (μ := μ) (fun a' w' μ' t1 t2 t3 t4 => hQ a' w' μ' t1 t2 t3 t4) ops.size ?_ ?_)
      · exact {
          can := can
          fr := fr_of_fresh hC can hfr
          rel := R.drew
          sub := SubH.refl _
          tr := by rw [ovl_none]; exact T
          size := by simp
          lst := fun i hi => by
            simp only [Array.getD_eq_getD_getElem?, Array.getElem?_replicate, hi, if_true, Option.getD_some, true_iff]
            rcases orderOK_full c1 i hi with h3 | ⟨k, hk, e⟩
            · cases h3
            · exact ⟨k, hk, e, trivial⟩
          items := fun k hk => by
            have := planOps_items (ms := masks ops.toList []) (ops := ops.toList) k (by rw [hp]; exact hk)
            simpa using this
          nodup := (orderOK_nodup c1).1
          apart := c2
          order := ⟨[], c1, by simp⟩
          effs := fun _ _ _ => rfl
          closed := fun i o e ho hi => by
            exfalso
            simp only [Array.getD_eq_getD_getElem?, Array.getElem?_replicate] at hi
            split at hi <;> simp at hi
          ext := by
            have X := Ext.drew A μ w
            exact ⟨X.mono, fun _ _ _ => rfl, fun b g h3 h4 => hfr b g h3 (by simpa using h4), by simpa using hn, X.os, X.tape, X.output, X.size, X.range, fun b hb h0 => by rw [pad_aWr hb hn]; exact h0, X.frame⟩
          n := Nat.le_refl _
          defers := rfl }
      · rw [← orderOK_len c1]
        unfold todo
        rw [List.countP_eq_length]
        simp

def exOf : AEx → Exit
  | .normal => .normal
  | .exit id => .exit id
  | .ret => .ret
def PostOK (Q : Exit → Act → World → Prop) (s : ASt) (A : AHeap) (μ : Mu) (w : World) (a : Act) : Prop :=
  ∀ a' w' μ', TR μ' s.ts a'.tmps → Rel s.H μ' w' → Ext A s.H μ μ' w w' → a'.defers = a.defers → Q (exOf s.ex) a' w'
theorem loopN_n {body : Ts → AHeap → Option ASt} (hb : ∀ ts A s, body ts A = some s → A.n ≤ s.H.n) : ∀ {n : Nat} {ts : Ts} {A : AHeap} {s : ASt}, loopN body n ts A = some s → A.n ≤ s.H.n
  | 0, _, _, _, h => by simp [loopN] at h
  | n + 1, ts, A, s, h => by
    simp only [loopN, Option.bind_eq_some_iff] at h
    obtain ⟨s1, h1, h2⟩ := h
    have n1 := hb _ _ _ h1
    split at h2
    · exact Nat.le_trans n1 (loopN_n hb h2)
    · cases h2; exact n1
include hC in
theorem evCode_n {n : Nat} : ∀ {c : Code} {ts : Ts} {A : AHeap} {s : ASt}, evCode E call n c ts A = some s → A.n ≤ s.H.n := by
  intro c
  induction c with
  | skip => intro ts A s h; simp only [evCode] at h; cases h; exact Nat.le_refl _
  | region id ops draw =>
    intro ts A s h
    simp only [evCode, Option.bind_eq_some_iff] at h
    obtain ⟨⟨ts', A'⟩, h1, h2⟩ := h
    cases h2
    exact runRegion_n hC h1
  | seq a b iha ihb =>
    intro ts A s h
    simp only [evCode, Option.bind_eq_some_iff] at h
    obtain ⟨s1, h1, h2⟩ := h
    split at h2
    · exact Nat.le_trans (iha h1) (ihb h2)
    · cases h2; exact iha h1
  | cond c a b iha ihb =>
    intro ts A s h
    simp only [evCode, Option.bind_eq_some_iff] at h
    obtain ⟨v, _, h2⟩ := h
    split at h2
    · exact iha h2
    · exact ihb h2
    · cases h2
  | block id c ih =>
    intro ts A s h
    simp only [evCode, Option.bind_eq_some_iff] at h
    obtain ⟨s1, h1, h2⟩ := h
    have n1 := ih h1
    split at h2
    · rename_i id' _
      cases hb : Nat.beq id' id <;> simp only [hb, cond_true, cond_false, Option.some.injEq] at h2 <;> (subst h2; exact n1)
    · cases h2; exact n1
  | loop c ih => intro ts A s h; simp only [evCode] at h; exact loopN_n (fun ts A s h => ih h) h
  | exit id => intro ts A s h; simp only [evCode] at h; cases h; exact Nat.le_refl _
  | ret => intro ts A s h; simp only [evCode] at h; cases h; exact Nat.le_refl _
  | _ => intro ts A s h; simp [evCode] at h
theorem PostOK.trans {Q : Exit → Act → World → Prop} {s : ASt} {A A1 : AHeap} {μ μ1 : Mu} {w w1 : World} {a a1 : Act} (h : PostOK Q s A μ w a) (X : Ext A A1 μ μ1 w w1) (hd : a1.defers = a.defers) : PostOK Q s A1 μ1 w1 a1 :=
  fun a' w' μ' t1 t2 t3 t4 => h a' w' μ' t1 t2 (X.trans t3) (t4.trans hd)
theorem Fresh.ext {A A1 : AHeap} {N : Nat} {μ μ1 : Mu} {w w1 : World} (h : Fresh μ A.n N) (X : Ext A A1 μ μ1 w w1) : Fresh μ1 A1.n N := fun b g h1 h2 => by
  have := X.n
  rw [X.above b g h1]; exact h b g (by omega) h2
/-- what is right of one round is right of the loop -/
theorem loop_sound {body : Ts → AHeap → Option ASt} {c : Code} (hbn : ∀ ts A s, body ts A = some s → A.n ≤ s.H.n)
    (hb : ∀ {ts : Ts} {A : AHeap} {s : ASt}, body ts A = some s → ∀ {μ : Mu} {w : World} {a : Act} {Q : Exit → Act → World → Prop}, Rel A μ w → Val.J μ w → TR μ ts a.tmps → Fresh μ A.n s.H.n → PostOK Q s A μ w a → c.wp P Q a w) :
    ∀ (n : Nat) {ts : Ts} {A : AHeap} {s : ASt}, loopN body n ts A = some s → ∀ {μ : Mu} {w : World} {a : Act} {Q : Exit → Act → World → Prop}, Rel A μ w → Val.J μ w → TR μ ts a.tmps → Fresh μ A.n s.H.n → PostOK Q s A μ w a →
      ∀ (b : Frame) (k : List Go.Item) (cs : List Frame), ∃ e a' w', Q e a' w' ∧ Arrives P (lone (b.at a (.code c :: .inLoop c :: k)) cs w) b k cs e a' w' := by
  intro n
  induction n with
  | zero => intro ts A s h; simp [loopN] at h
  | succ n ih =>
    intro ts A s h μ w a Q R hJ T hfr hQ b k cs
    simp only [loopN, Option.bind_eq_some_iff] at h
    obtain ⟨s1, h1, h2⟩ := h
    have n1 := hbn _ _ _ h1
    cases hex : s1.ex with
    | normal =>
      rw [hex] at h2
      simp only at h2
      have n2 := loopN_n hbn h2
      obtain ⟨e, a1, w1, hq, harr⟩ := hb h1 (Q := fun e a' w' => ∃ μ', e = .normal ∧ TR μ' s1.ts a'.tmps ∧ Rel s1.H μ' w' ∧ Ext A s1.H μ μ' w w' ∧ a'.defers = a.defers) R hJ T (hfr.sub (Nat.le_refl _) n2)
        (fun a' w' μ' t1 t2 t3 t4 => ⟨μ', by rw [hex]; rfl, t1, t2, t3, t4⟩) b (.inLoop c :: k) cs
      obtain ⟨μ1, rfl, t1, t2, t3, t4⟩ := hq
      obtain ⟨e2, a2, w2, hq2, harr2⟩ := ih h2 t2 (Val.keep hJ t3) t1 (hfr.ext t3) (hQ.trans t3 t4) b k cs
      exact ⟨e2, a2, w2, hq2, .of_steps (Steps.trans harr (.one step_inLoop)) harr2⟩
    | exit id =>
      rw [hex] at h2
      simp only [Option.some.injEq] at h2
      subst h2
      obtain ⟨e, a1, w1, hq, harr⟩ := hb h1 (Q := fun e a' w' => e = .exit id ∧ Q e a' w') R hJ T hfr (fun a' w' μ' t1 t2 t3 t4 => ⟨by rw [hex]; rfl, hQ a' w' μ' t1 t2 t3 t4⟩) b (.inLoop c :: k) cs
      obtain ⟨rfl, hq⟩ := hq
      exact ⟨_, a1, w1, hq, .pass (x := .inLoop c) rfl (fun _ _ => .inl (by simp)) harr⟩
    | ret =>
      rw [hex] at h2
      simp only [Option.some.injEq] at h2
      subst h2
      obtain ⟨e, a1, w1, hq, harr⟩ := hb h1 (Q := fun e a' w' => e = .ret ∧ Q e a' w') R hJ T hfr (fun a' w' μ' t1 t2 t3 t4 => ⟨by rw [hex]; rfl, hQ a' w' μ' t1 t2 t3 t4⟩) b (.inLoop c :: k) cs
      obtain ⟨rfl, hq⟩ := hq
      exact ⟨_, a1, w1, hq, .pass (x := .inLoop c) rfl (fun _ _ => .inl (by simp)) harr⟩
include hE hC hm in
theorem code_sound {n : Nat} : ∀ {c : Code} {ts : Ts} {A : AHeap} {s : ASt}, evCode E call n c ts A = some s → ∀ {μ : Mu} {w : World} {a : Act} {Q : Exit → Act → World → Prop}, Rel A μ w → Val.J μ w → TR μ ts a.tmps → Fresh μ A.n s.H.n → PostOK Q s A μ w a → c.wp P Q a w := by
  intro c
  induction c with
  | skip =>
    intro ts A s h μ w a Q R hJ T hfr hQ
    simp only [evCode] at h; cases h
    exact wp_skip (hQ a w μ T R (Ext.refl _ _ _) rfl)
  | region id ops draw =>
    intro ts A s h μ w a Q R hJ T hfr hQ
    simp only [evCode, Option.bind_eq_some_iff] at h
    obtain ⟨⟨ts', A'⟩, h1, h2⟩ := h
    cases h2
    exact region_sound hE hC hm h1 R hJ T hfr hQ
  | seq x y iha ihb =>
    intro ts A s h μ w a Q R hJ T hfr hQ
    simp only [evCode, Option.bind_eq_some_iff] at h
    obtain ⟨s1, h1, h2⟩ := h
    refine wp_seq ?_
    cases hex : s1.ex with
    | normal =>
      rw [hex] at h2
      simp only at h2
      have n2 := evCode_n hC h2
      refine iha h1 R hJ T (hfr.sub (Nat.le_refl _) n2) fun a' w' μ' t1 t2 t3 t4 => ?_
      rw [hex]
      simp only [exOf, Exit.then]
      exact ihb h2 t2 (Val.keep hJ t3) t1 (hfr.ext t3) (hQ.trans t3 t4)
    | exit id =>
      rw [hex] at h2
      simp only [Option.some.injEq] at h2
      subst h2
      refine iha h1 R hJ T hfr fun a' w' μ' t1 t2 t3 t4 => ?_
      have := hQ a' w' μ' t1 t2 t3 t4
      rw [hex] at this ⊢
      exact this
    | ret =>
      rw [hex] at h2
      simp only [Option.some.injEq] at h2
      subst h2
      refine iha h1 R hJ T hfr fun a' w' μ' t1 t2 t3 t4 => ?_
      have := hQ a' w' μ' t1 t2 t3 t4
      rw [hex] at this ⊢
      exact this
  | cond c x y iha ihb =>
    intro ts A s h μ w a Q R hJ T hfr hQ
    simp only [evCode, Option.bind_eq_some_iff] at h
    obtain ⟨v, h1, h2⟩ := h
    have hv := evalO_VR hE T h1
    split at h2
    · simp only [VR] at hv
      exact wp_cond_true hv (iha h2 R hJ T hfr hQ)
    · simp only [VR] at hv
      exact wp_cond_false hv (ihb h2 R hJ T hfr hQ)
    · cases h2
  | block id c ih =>
    intro ts A s h μ w a Q R hJ T hfr hQ
    simp only [evCode, Option.bind_eq_some_iff] at h
    obtain ⟨s1, h1, h2⟩ := h
    refine wp_block ?_
    cases hex : s1.ex with
    | normal =>
      rw [hex] at h2
      simp only [Option.some.injEq] at h2
      subst h2
      refine ih h1 R hJ T hfr fun a' w' μ' t1 t2 t3 t4 => ?_
      have := hQ a' w' μ' t1 t2 t3 t4
      rw [hex] at this ⊢
      exact this
    | exit id' =>
      rw [hex] at h2
      simp only at h2
      cases hb : Nat.beq id' id with
      | true =>
        simp only [hb, cond_true, Option.some.injEq] at h2
        subst h2
        have : id' = id := by simpa using hb
        subst this
        refine ih h1 R hJ T hfr fun a' w' μ' t1 t2 t3 t4 => ?_
        rw [hex]
        simp only [exOf, Exit.inBlock, if_true]
        exact hQ a' w' μ' t1 t2 t3 t4
      | false =>
        simp only [hb, cond_false, Option.some.injEq] at h2
        subst h2
        have hne : ¬ id' = id := by intro e; subst e; simp at hb
        refine ih h1 R hJ T hfr fun a' w' μ' t1 t2 t3 t4 => ?_
        have := hQ a' w' μ' t1 t2 t3 t4
        rw [hex] at this ⊢
        simp only [exOf, Exit.inBlock, if_neg hne]
        exact this
    | ret =>
      rw [hex] at h2
      simp only [Option.some.injEq] at h2
      subst h2
      refine ih h1 R hJ T hfr fun a' w' μ' t1 t2 t3 t4 => ?_
      have := hQ a' w' μ' t1 t2 t3 t4
      rw [hex] at this ⊢
      exact this
  | loop c ih =>
    intro ts A s h μ w a Q R hJ T hfr hQ b k cs
    simp only [evCode] at h
    obtain ⟨e, a', w', hq, harr⟩ := loop_sound (fun ts A s h => evCode_n hC h) (fun h => ih h) n h R hJ T hfr hQ b k cs
    exact ⟨e, a', w', hq, .of_steps (.one step_loop) harr⟩
  | exit id =>
    intro ts A s h μ w a Q R hJ T hfr hQ
    simp only [evCode] at h; cases h
    exact wp_exit (hQ a w μ T R (Ext.refl _ _ _) rfl)
  | ret =>
    intro ts A s h μ w a Q R hJ T hfr hQ
    simp only [evCode] at h; cases h
    exact wp_ret (hQ a w μ T R (Ext.refl _ _ _) rfl)
  | _ => intro ts A s h; simp [evCode] at h
def resOne (tmps : Array Value) : ResultVar → Sem Value
  | .tmp t => pure (tmps.getD t undef)
  | .cell a t => do loadVar t (← asAddr (tmps.getD a undef))
include hE in
theorem resVals_sound {ts : Ts} {A : AHeap} {μ : Mu} {w : World} (R : Rel A μ w) {tmps : Array Value} (T : TR μ ts tmps) : ∀ {rs : List ResultVar} {vs : List AV}, resVals E ts A rs = some vs →
    ∃ us, (rs.mapM (resOne tmps)).run P w = .ok us w ∧ VRs μ vs us
  | [], vs, h => by simp only [resVals] at h; cases h; exact ⟨[], by simp, VRs.nil⟩
  | .tmp t :: r, vs, h => by
    simp only [resVals, Option.bind_eq_some_iff] at h
    obtain ⟨v, h1, vs', h2, h3⟩ := h
    cases h3
    obtain ⟨us, e1, e2⟩ := resVals_sound R T h2
    refine ⟨tmps.getD t undef :: us, ?_, VRs.cons (T.get h1) e2⟩
    rw [List.mapM_cons]
    simp only [resOne, Sem.run_bind, Sem.run_pure, Result.andThen_ok, e1]
  | .cell a t :: r, vs, h => by
    simp only [resVals, Option.bind_eq_some_iff] at h
    obtain ⟨p, h0, v, h1, vs', h2, h3⟩ := h
    cases h3
    obtain ⟨us, e1, e2⟩ := resVals_sound R T h2
    have hp := T.get h0
    obtain ⟨x, l1, l2⟩ := load_sound hE R h1 hp
    refine ⟨x :: us, ?_, VRs.cons l2 e2⟩
    rw [List.mapM_cons]
    simp only [resOne]
    unfold aLoad at h1
    split at h1
    · simp only [VR] at hp
      obtain ⟨c, sz, _, hp⟩ := hp
      rw [hp] at l1 ⊢
      simp only [Instr.loadAt, Instr.sureAddr, Sem.run_bind, Sem.run_pure, Result.andThen_ok] at l1
      simp only [Sem.run_bind, asAddr, Sem.run_pure, Result.andThen_ok, l1, e1]
    · simp only [VR] at hp
      obtain ⟨c, sz, _, _, hp⟩ := hp
      rw [hp] at l1 ⊢
      simp only [Instr.loadAt, Instr.sureAddr, Sem.run_bind, Sem.run_pure, Result.andThen_ok] at l1
      simp only [Sem.run_bind, asAddr, Sem.run_pure, Result.andThen_ok, l1, e1]
    · cases h1
theorem resOf_VR {μ : Mu} {vs : List AV} {us : List Value} (h : VRs μ vs us) : VR μ (resOf vs) (if h : us.toArray.size = 1 then us.toArray[0] else .tuple us.toArray) := by
  have hl := h.length
  unfold resOf
  split
  · rename_i v
    simp only [VRs] at h
    obtain ⟨u, us', rfl, h2, rfl⟩ := h
    simpa using h2
  · rename_i hne
    have : ¬ us.toArray.size = 1 := fun e => by
      simp at e
      rw [hl] at e
      match vs, e with
      | [v], _ => exact hne v rfl
    rw [dif_neg this]
    simp only [VR]
    exact ⟨us, h, rfl⟩
include hE in
theorem results_sound {ts : Ts} {A : AHeap} {μ : Mu} {w : World} (R : Rel A μ w) {tmps : Array Value} (T : TR μ ts tmps) {F : Func} {vs : List AV} (h : resVals E ts A F.results.toList = some vs) :
    ∃ u, (results F tmps).run P w = .ok u w ∧ VR μ (resOf vs) u := by
  obtain ⟨us, e1, e2⟩ := resVals_sound hE R T h
  refine ⟨_, ?_, resOf_VR e2⟩
  have e : results F tmps = (do let vs ← F.results.mapM (resOne tmps); pure (if h : vs.size = 1 then vs[0] else .tuple vs)) := rfl
  rw [e, Array.mapM_eq_mapM_toList]
  simp only [Sem.run_bind, Sem.run_map, e1, Result.andThen_ok, Sem.run_pure]
include hC in
theorem evBody_n {n : Nat} {F : Func} {args : List AV} {A A' : AHeap} {v : AV} (h : evBody E call n F args A = some (v, A')) : A.n ≤ A'.n := by
  unfold evBody at h
  split at h
  · simp only [Option.bind_eq_some_iff] at h
    obtain ⟨s, h1, h2⟩ := h
    have n1 := evCode_n hC h1
    split at h2
    · cases h2
    · simp only [Option.bind_eq_some_iff, Option.some.injEq, Prod.mk.injEq] at h2
      obtain ⟨_, _, _, rfl⟩ := h2
      exact n1
  · cases h
theorem TR.args {μ : Mu} {args : List AV} {us : List Value} (hus : VRs μ args us) (n : Nat) : TR μ (Ts.ofArgs args n) (us.toArray ++ Array.replicate (n - us.toArray.size) undef) := by
  have hl := hus.length
  refine ⟨by simp [Ts.ofArgs, hl]; omega, fun t v ht => ?_⟩
  obtain ⟨h3, rfl⟩ := Ts.get_lt ht
  simp only [Ts.ofArgs] at h3 ⊢
  rw [Array.getElem?_append]
  cases hv : args[t]? with
  | some v =>
    obtain ⟨u, h4, h5⟩ := hus.get hv
    have : t < us.length := (List.getElem?_eq_some_iff.1 h4).1
    exact ⟨u, by simpa [this] using h4, h5⟩
  | none =>
    have h4 := List.getElem?_eq_none_iff.1 hv
    refine ⟨undef, ?_, VR_undef μ⟩
    have h5 : ¬ t < us.toArray.size := by simp; omega
    rw [if_neg h5]
    simp only [List.size_toArray, Array.getElem?_replicate]
    rw [if_pos (by omega)]
include hE hC hm in
theorem body_sound {n : Nat} {f : FuncId} {F : Func} (hF : P.funcs[f]? = some F) {args : List AV} {A A' : AHeap} {v : AV} (h : evBody E call n F args A = some (v, A')) {μ : Mu} {w : World} {us : List Value} (R : Rel A μ w) (hJ : Val.J μ w) (hus : VRs μ args us) (hfr : Fresh μ A.n A'.n) :
    Calls P f us.toArray w fun e w' => ∃ u μ', e = .returned u ∧ VR μ' v u ∧ Rel A' μ' w' ∧ Ext A A' μ μ' w w' := by
  unfold evBody at h
  split at h
  · rename_i c hb
    simp only [Option.bind_eq_some_iff] at h
    obtain ⟨s, h1, h2⟩ := h
    refine calls_of_wp hF hb ?_
    have T := TR.args hus F.ntmps
    cases hex : s.ex with
    | exit id => rw [hex] at h2; cases h2
    | normal =>
      rw [hex] at h2
      simp only [Option.bind_eq_some_iff, Option.some.injEq, Prod.mk.injEq] at h2
      obtain ⟨vs, h3, rfl, rfl⟩ := h2
      refine code_sound hE hC hm h1 R hJ T hfr fun a' w' μ' t1 t2 t3 t4 => ?_
      rw [hex]
      obtain ⟨u, e1, e2⟩ := results_sound hE t2 t1 h3
      exact ⟨t4, u, e1, u, μ', rfl, e2, t2, t3⟩
    | ret =>
      rw [hex] at h2
      simp only [Option.bind_eq_some_iff, Option.some.injEq, Prod.mk.injEq] at h2
      obtain ⟨vs, h3, rfl, rfl⟩ := h2
      refine code_sound hE hC hm h1 R hJ T hfr fun a' w' μ' t1 t2 t3 t4 => ?_
      rw [hex]
      obtain ⟨u, e1, e2⟩ := results_sound hE t2 t1 h3
      exact ⟨t4, u, e1, u, μ', rfl, e2, t2, t3⟩
  · cases h
/-- what must be shown of a function that is known otherwise -/
structure ExtOK (P : Program) (E : Env) (ext : FuncId → Option (List AV → AHeap → Option (AV × AHeap))) : Prop where
  fn : ∀ f g, ext f = some g → (E.fn f).isSome = true
  n : ∀ f g, ext f = some g → ∀ args A v A', g args A = some (v, A') → A.n ≤ A'.n
  ok : ∀ f g, ext f = some g → ∀ args A v A', g args A = some (v, A') → ∀ μ w us, Rel A μ w → Val.J μ w → VRs μ args us → Fresh μ A.n A'.n →
    Calls P f us.toArray w fun e w' => ∃ u μ', e = .returned u ∧ VR μ' v u ∧ Rel A' μ' w' ∧ Ext A A' μ μ' w w'
include hE hm in
/-- THE EVALUATOR IS RIGHT -/
theorem evCall_ok {ext : FuncId → Option (List AV → AHeap → Option (AV × AHeap))} (hX : ExtOK P E ext) : ∀ n, CallOK P E (evCall E ext n)
  | 0 => ⟨fun f args A v A' h => by simp [evCall] at h, fun f args A v A' h => by simp [evCall] at h, fun f args A v A' h => by simp [evCall] at h⟩
  | n + 1 => by
    have ih := evCall_ok hX n
    refine ⟨fun f args A v A' h => ?_, fun f args A v A' h => ?_, fun f args A v A' h μ w us R hJ hus hfr => ?_⟩ <;> simp only [evCall] at h <;> split at h
    · rename_i g hg; exact hX.fn f g hg
    · simp only [Option.bind_eq_some_iff] at h
      obtain ⟨F, h1, _⟩ := h
      simp [h1]
    · rename_i g hg; exact hX.n f g hg _ _ _ _ h
    · simp only [Option.bind_eq_some_iff] at h
      obtain ⟨F, _, h2⟩ := h
      exact evBody_n ih h2
    · rename_i g hg; exact hX.ok f g hg _ _ _ _ h μ w us R hJ hus hfr
    · simp only [Option.bind_eq_some_iff] at h
      obtain ⟨F, h1, h2⟩ := h
      exact body_sound hE ih hm (hE.fn f F h1).1 h2 R hJ hus hfr
end
end Go.AE
