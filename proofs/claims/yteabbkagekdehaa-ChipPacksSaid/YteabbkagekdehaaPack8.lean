/- chip.Pack and packFault: the errors; what Pack gives. -/
import Derived.Test.YteabbkagekdehaaPack7
set_option linter.unusedVariables false
set_option linter.unusedSimpArgs false
namespace Go.Proofs.Yteabbkagekdehaa
open Go.AE Go.RowKit Go.IntWalk Go.PackLaw
/-- sizes and pairs lie in memory -/
structure Lie (n m : Nat) (aS : Option Addr) (aP : Option Addr) (S PA PB : Nat → Int) (w : World) : Prop where
  s : ∀ t, t < n → ∃ g, aS = some ⟨g, 0, none⟩ ∧ g < w.heap.size ∧ w.cell? ⟨g, t, none⟩ = some (.int .i64 (S t))
  p : ∀ j, j < m → ∃ g, aP = some ⟨g, 0, none⟩ ∧ g < w.heap.size ∧ w.cell? ⟨g, j * 2, none⟩ = some (.int .i64 (PA j)) ∧ w.cell? ⟨g, j * 2 + 1, none⟩ = some (.int .i64 (PB j))
theorem Lie.below {n m : Nat} {aS aP : Option Addr} {S PA PB : Nat → Int} {w w' : World} (h : Lie n m aS aP S PA PB w) (B : Go.RowKit.Below w.heap.size w w') : Lie n m aS aP S PA PB w' :=
  ⟨fun t ht => by
    obtain ⟨g, h1, h2, h3⟩ := h.s t ht
    exact ⟨g, h1, by have := B.size; omega, by rw [B.cell (by exact h2)]; exact h3⟩, fun j hj => by
    obtain ⟨g, h1, h2, h3, h4⟩ := h.p j hj
    exact ⟨g, h1, by have := B.size; omega, by rw [B.cell (by exact h2)]; exact h3, by rw [B.cell (by exact h2)]; exact h4⟩⟩
def BadS (S : Nat → Int) (t : Nat) : Prop := S t < 1 ∨ 4096 < S t
def BadP (n : Nat) (PA PB : Nat → Int) (j : Nat) : Prop := PA j < 0 ∨ (n : Int) ≤ PA j ∨ PB j < 0 ∨ (n : Int) ≤ PB j ∨ PA j = PB j
/-- the error of what is given; 0: none but that there may be no assignment -/
inductive Cls (n m : Nat) (S PA PB : Nat → Int) (K C : Int) : Int → Prop
  | large (h : 6 < n) : Cls n m S PA PB K C 2
  | range (h : n ≤ 6) (h2 : K < 1 ∨ 8 < K ∨ C < 1 ∨ 4096 < C) : Cls n m S PA PB K C 9
  | size (h : n ≤ 6) (h2 : 1 ≤ K ∧ K ≤ 8 ∧ 1 ≤ C ∧ C ≤ 4096) (t : Nat) (ht : t < n) (hb : BadS S t) : Cls n m S PA PB K C 9
  | arg (h : n ≤ 6) (h2 : 1 ≤ K ∧ K ≤ 8 ∧ 1 ≤ C ∧ C ≤ 4096) (hs : ∀ t, t < n → ¬ BadS S t) (j : Nat) (hj : j < m) (hb : BadP n PA PB j) : Cls n m S PA PB K C 1
  | none (h : n ≤ 6) (h2 : 1 ≤ K ∧ K ≤ 8 ∧ 1 ≤ C ∧ C ≤ 4096) (hs : ∀ t, t < n → ¬ BadS S t) (hp : ∀ j, j < m → ¬ BadP n PA PB j) : Cls n m S PA PB K C 0
theorem Cls.eq {n m : Nat} {S PA PB : Nat → Int} {K C : Int} {e e' : Int} (h : Cls n m S PA PB K C e) (h' : Cls n m S PA PB K C e') : e = e' := by
  cases h <;> cases h' <;> first
    | rfl
    | (exfalso; omega)
    | (rename_i t ht hb _ _ hs _ _; exact absurd hb (hs t ht))
    | (exfalso; rename_i hs t ht hb _ _; exact hs t ht hb)
    | (exfalso; simp_all; done)
    | skip
def PPof (m : Nat) (PA PB : Nat → Int) : List Pr := (List.range m).map fun j => ((PA j).toNat, (PB j).toNat)
theorem PPof_len (m : Nat) (PA PB : Nat → Int) : (PPof m PA PB).length = m := by simp [PPof]
theorem PPof_get {m : Nat} {PA PB : Nat → Int} {j : Nat} (hj : j < m) : (PPof m PA PB).getD j (0, 0) = ((PA j).toNat, (PB j).toNat) := by simp [PPof, List.getD, hj]
theorem giv_of {n m : Nat} {S PA PB : Nat → Int} {K C : Int} (hn : n ≤ 6) (hm : m ≤ 1000) (h2 : 1 ≤ K ∧ K ≤ 8 ∧ 1 ≤ C ∧ C ≤ 4096) (hs : ∀ t, t < n → ¬ BadS S t) (hp : ∀ j, j < m → ¬ BadP n PA PB j) : Giv n K.toNat S C (PPof m PA PB) := by
  refine ⟨hn, by omega, by omega, fun t ht => ?_, ⟨h2.2.2.1, h2.2.2.2⟩, fun x hx => ?_, by rw [PPof_len]; exact hm⟩
  · have h := hs t ht
    unfold BadS at h
    omega
  · simp only [PPof, List.mem_map, List.mem_range] at hx
    obtain ⟨j, hj, rfl⟩ := hx
    have h := hp j hj
    unfold BadP at h
    simp only [PackLaw.hi]
    omega
theorem Lie.pairs {n m : Nat} {aS aP : Option Addr} {S PA PB : Nat → Int} {w : World} (h : Lie n m aS aP S PA PB w) (hp : ∀ j, j < m → ¬ BadP n PA PB j) :
    ∀ j, j < m → ∃ g, aP = some ⟨g, 0, none⟩ ∧ g < w.heap.size ∧ w.cell? ⟨g, j * 2, none⟩ = some (.int .i64 (((PPof m PA PB).getD j (0, 0)).1)) ∧ w.cell? ⟨g, j * 2 + 1, none⟩ = some (.int .i64 (((PPof m PA PB).getD j (0, 0)).2)) := fun j hj => by
  obtain ⟨g, h1, h2, h3, h4⟩ := h.p j hj
  have hb := hp j hj
  unfold BadP at hb
  refine ⟨g, h1, h2, ?_, ?_⟩
  · rw [PPof_get hj, h3]
    simp only
    rw [Int.toNat_of_nonneg (by omega)]
  · rw [PPof_get hj, h4]
    simp only
    rw [Int.toNat_of_nonneg (by omega)]
theorem Res.uniq {PP : List Pr} {S : Nat → Int} {C : Int} {K n : Nat} {U : Nat → Int} {l l' : Int} {b b' : List Nat} (R : Res PP S C K n [] U K (-1) l [] b) (R' : Res PP S C K n [] U K (-1) l' [] b') : l = l' := by
  have key : ∀ {l l' : Int} {b b' : List Nat}, Res PP S C K n [] U K (-1) l [] b → Res PP S C K n [] U K (-1) l' [] b' → 0 ≤ l → 0 ≤ l' ∧ l' ≤ l := by
    intro l l' b b' R R' h0
    rcases R.same with ⟨h, _⟩ | ⟨A, h1, h2, h3, _⟩
    · omega
    · have := R'.low A h1 h2 fun c hc => by
        cases A with
        | nil => cases hc
        | cons d A => simp only [List.head?_cons, Option.some.injEq] at hc; subst hc; exact h2.1
      omega
  have n1 := R.neg
  have n2 := R'.neg
  by_cases h : 0 ≤ l
  · have k1 := key R R' h
    have k2 := key R' R k1.1
    omega
  · by_cases h' : 0 ≤ l'
    · have k2 := key R' R h'
      omega
    · omega
def FPost (n m : Nat) (S PA PB : Nat → Int) (K C : Int) (err : Int) : Prop :=
  (Cls n m S PA PB K C err ∧ err ≠ 0) ∨ (Cls n m S PA PB K C 0 ∧ ∃ (l : Int) (b' : List Nat), Res (PPof m PA PB) S C K.toNat n [] (fun _ => 0) K.toNat (-1) l [] b' ∧ err = if l < 0 then 16 else 0)
set_option maxHeartbeats 2000000 in
set_option maxRecDepth 10000 in
theorem fault_c {n m : Nat} {aS aP : Option Addr} {capS capP : Nat} {S PA PB : Nat → Int} {K C : Int} {w : World} (h : Lie n m aS aP S PA PB w) (hn : n ≤ 1000) (hm : m ≤ 1000) :
    Calls Try.prog 18 #[.slice aS n capS, .slice aP m capP, .int .i64 K, .int .i64 C] w fun e w' => ∃ err, e = .returned (.int .i64 err) ∧ FPost n m S PA PB K C err ∧ Go.RowKit.Below w.heap.size w w' := by
  have H : Hid _ := h
  clear h
  by_cases h6 : 6 < n
  · have h6z : (6 : Int) < (n : Int) := by omega
    go_enter Try.func18, Try.ntmps18
    go_wp2_with fail
    go_ret
    exact ⟨2, rfl, .inl ⟨.large h6, by decide⟩, Below.refl _ _⟩
  have h6z : ¬ (6 : Int) < (n : Int) := by omega
  by_cases hr : K < 1 ∨ 8 < K ∨ C < 1 ∨ 4096 < C
  · have HR : Hid (K < 1 ∨ 8 < K ∨ C < 1 ∨ 4096 < C) := hr
    go_enter Try.func18, Try.ntmps18
    go_wp2_with fail
    all_goals first
      | (go_ret; exact ⟨9, rfl, .inl ⟨.range (by omega) HR.out, by decide⟩, Below.refl _ _⟩)
      | (exfalso; have := HR.out; omega)
  have hr2 : 1 ≤ K ∧ K ≤ 8 ∧ 1 ≤ C ∧ C ≤ 4096 := by omega
  have HR : Hid (1 ≤ K ∧ K ≤ 8 ∧ 1 ≤ C ∧ C ≤ 4096) := hr2
  obtain ⟨r1, r2, r3, r4⟩ := hr2
  have q1 : ¬ K < 1 := by omega
  have q2 : ¬ 8 < K := by omega
  have q3 : ¬ C < 1 := by omega
  have q4 : ¬ 4096 < C := by omega
  clear hr r1 r2 r3 r4
  have hany := any53_c (a := aS) (cap := capS) (m := n) (ord := S) (p := fun t => !(decide (1 ≤ S t) && decide (S t ≤ 4096))) (w := w) (by omega) (fun t ht => by
    obtain ⟨g, h1, h2, h3⟩ := H.out.s t ht
    exact ⟨g, h1, h3⟩) (fun t ht q => (bad53_c (S t) (w.drewN q)).mono fun e w' ⟨h1, h2⟩ => ⟨h1, 0, h2⟩)
  go_enter Try.func18, Try.ntmps18
  go_wp2_with fail
  refine hany.mono ?_
  rintro e w1 ⟨b, rfl, hb, q, rfl⟩
  clear hany
  have B1 : Go.RowKit.Below w.heap.size w (w.drewN q) := ⟨rfl, rfl, rfl, Nat.le_refl _, fun _ _ => rfl⟩
  generalize w.drewN q = w1 at B1 ⊢
  rcases hb with ⟨rfl, hall⟩ | ⟨rfl, t, ht, hbt⟩
  · have hsz : Hid (∀ t, t < n → ¬ BadS S t) := fun t ht hb => by
      have h1 := hall t ht
      simp only [Bool.not_eq_false', Bool.and_eq_true, decide_eq_true_eq] at h1
      unfold BadS at hb
      omega
    clear hall
    go_wp2_with fail
    go_loopw [35] (fun i wr => ∃ k : Nat, i = .int .i64 k ∧ k ≤ m ∧ Hid (∀ j, j < k → ¬ BadP n PA PB j) ∧ Go.RowKit.Below w.heap.size w wr) (fun i _ => m - (intOf i).toNat)
    case atStart => exact ⟨0, rfl, by omega, fun j h => by omega, B1⟩
    case round =>
      clear B1
      obtain ⟨k, rfl, hk, hno, B2⟩ := hrel
      by_cases hlt : k < m
      · have hz : (k : Int) < (m : Int) := by omega
        obtain ⟨g, rfl, hgw, d1, d2⟩ := H.out.p k hlt
        have c1 : wr.cell? ⟨g, k * 2, none⟩ = some (.int .i64 (PA k)) := by rw [B2.cell (by exact hgw)]; exact d1
        have c2 : wr.cell? ⟨g, k * 2 + 1, none⟩ = some (.int .i64 (PB k)) := by rw [B2.cell (by exact hgw)]; exact d2
        have nxt : Hid (∀ cs e, Go.RowKit.Below w.heap.size w (wr.alloc (.cells cs e))) := fun cs e => B2.alloc B2.size _
        clear d1 d2
        by_cases hbp : BadP n PA PB k
        · have HB : Hid (BadP n PA PB k) := hbp
          clear hbp
          go_wp2_with fail
          all_goals first
            | (go_ret; exact ⟨1, rfl, .inl ⟨.arg (by omega) HR.out hsz.out k hlt HB.out, by decide⟩, nxt.out _ _⟩)
            | (exfalso; have := HB.out; unfold BadP at this; omega)
            | (exfalso; have h5 : (0 ≤ min (PA k) (PB k) ∧ max (PA k) (PB k) < (n : Int)) ∧ (PA k == PB k) = false := by assumption
               have h6 := h5.2; simp only [beq_eq_false_iff_ne, ne_eq] at h6; have h7 := HB.out; unfold BadP at h7; omega)
        · have HB : Hid (¬ BadP n PA PB k) := hbp
          unfold BadP at hbp
          have h1 : ¬ min (PA k) (PB k) < 0 := by omega
          have h2 : ¬ (n : Int) ≤ max (PA k) (PB k) := by omega
          have h3 : (PA k == PB k) = false := by simp; omega
          clear hbp
          go_wp2_with fail
          go_roundw
          case rel => exact ⟨k + 1, by go_num, by omega, fun j hj => by
            by_cases e : j = k
            · rw [e]; exact HB.out
            · exact hno.out j (by omega), nxt.out _ _⟩
          case measure => simp [intOf]; omega
      · have hz : ¬ (k : Int) < (m : Int) := by omega
        have hkm : m = k := by omega
        subst hkm
        have hr := HR.out
        have hl2 := H.out.below (B2.mono (Nat.le_refl _))
        have hf := fewest_c (n := n) (K := K.toNat) (m := m) (aS := aS) (capS := capS) (aP := aP) (capP := capP) (S := S) (C := C) (PP := PPof m PA PB) (w := wr) (giv_of (by omega) hm hr hsz.out hno.out) (PPof_len _ _ _) hl2.s (hl2.pairs hno.out)
        have hKn : ((K.toNat : Nat) : Int) = K := Int.toNat_of_nonneg (by omega)
        rw [hKn] at hf
        clear hr hl2 hKn
        go_wp2_with fail
        refine hf.mono ?_
        rintro e w5 ⟨l, b', rfl, hres, B5⟩
        have B6 : Hid (Go.RowKit.Below w.heap.size w w5) := B2.trans (B5.mono B2.size)
        have HRES : Hid _ := hres
        clear hf hres B5 B2
        by_cases hl : l < 0
        · go_wp2_with fail
          go_ret
          exact ⟨16, rfl, .inr ⟨.none (by omega) HR.out hsz.out hno.out, l, b', HRES.out, by rw [if_pos hl]⟩, B6.out⟩
        · go_wp2_with fail
          go_ret
          exact ⟨0, rfl, .inr ⟨.none (by omega) HR.out hsz.out hno.out, l, b', HRES.out, by rw [if_neg (by omega)]⟩, B6.out⟩
  · go_wp2_with fail
    go_ret
    refine ⟨9, rfl, .inl ⟨.size (by omega) HR.out t ht ?_, by decide⟩, B1⟩
    simp only [Bool.not_eq_true', Bool.and_eq_false_iff, decide_eq_false_iff_not] at hbt
    unfold BadS
    omega
end Go.Proofs.Yteabbkagekdehaa
