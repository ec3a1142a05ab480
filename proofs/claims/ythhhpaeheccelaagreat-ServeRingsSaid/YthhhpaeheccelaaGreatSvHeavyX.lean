/- The contracts over rows of known words for the abstract evaluator. -/
import Derived.Test.YthhhpaeheccelaaGreatSvHeavy
set_option linter.unusedVariables false
set_option linter.unusedSimpArgs false
set_option maxRecDepth 100000
namespace Go.Proofs.YthhhpaeheccelaaGreat
noncomputable section
open Go.AE Go.RowKit Go.IntWalk
theorem hidI {p : Prop} (h : p) : Hid p := h
def ints64 : List AV → Option (List Int)
  | [] => some []
  | .int .i64 n :: r => (ints64 r).bind fun l => some (n :: l)
  | _ => none
theorem ints64_get [Val] {μ : Mu} : ∀ {vs : List AV} {l : List Int} {us : List Value}, ints64 vs = some l → VRs μ vs us → l.length = vs.length ∧ ∀ i, i < l.length → us[i]? = some (.int .i64 (l.getD i 0))
  | [], l, us, h, _ => by simp only [ints64] at h; cases h; exact ⟨rfl, fun i hi => by simp at hi⟩
  | v :: vs, l, us, h, k => by
    unfold ints64 at h
    split at h
    case h_1 => rename_i e; cases e
    case h_3 => cases h
    rename_i n r e
    cases e
    simp only [Option.bind_eq_some_iff, Option.some.injEq] at h
    obtain ⟨l', h1, rfl⟩ := h
    simp only [VRs, VR] at k
    obtain ⟨u, us', rfl, rfl, k3⟩ := k
    obtain ⟨q1, q2⟩ := ints64_get h1 k3
    refine ⟨by simp [q1], fun i hi => ?_⟩
    cases i with
    | zero => simp
    | succ i => simpa using q2 i (by simpa using hi)
/-- the known numbers of a slice -/
def rowOf (H : AHeap) : AV → Option (List Int)
  | .sl b g off len lo ex es => bif Nat.beq es 1 && Nat.blt 0 len && Nat.ble len 1000000 then (aRead H b g off len).bind ints64 else none
  | _ => none
theorem rowOf_ok [Val] {A : AHeap} {x : AV} {l : List Int} (h : rowOf A x = some l) {μ : Mu} {w : World} {u : Value} (R : Rel A μ w) (hu : VR μ x u) :
    l.length ≤ 1000000 ∧ ∃ c off cap, u = .slice (some ⟨c, off, none⟩) l.length cap ∧ ∀ j, j < l.length → w.cell? ⟨c, off + j, none⟩ = some (.int .i64 (l.getD j 0)) := by
  unfold rowOf at h
  split at h
  · rename_i b g off len lo ex es
    cases hb : (Nat.beq es 1 && Nat.blt 0 len && Nat.ble len 1000000) with
    | false => rw [hb] at h; cases h
    | true =>
      rw [hb] at h
      simp only [Bool.and_eq_true, Nat.beq_eq, Nat.blt_eq, Nat.ble_eq] at hb
      obtain ⟨⟨rfl, h1⟩, h2⟩ := hb
      simp only [cond_true, Option.bind_eq_some_iff] at h
      obtain ⟨vs, h3, h4⟩ := h
      simp only [VR] at hu
      obtain ⟨c, sz, cap, off', hm, rfl, q1, q2, q3, q4, q5⟩ := hu
      obtain ⟨rfl, _⟩ := q4 (by omega)
      obtain ⟨ws, r1, r2, r3, r4⟩ := aRead_sound R h3 hm
      obtain ⟨i1, i2⟩ := ints64_get h4 r1
      have hlen : l.length = len := by rw [i1, ← r1.length, r2]
      refine ⟨by omega, c, off', cap, by rw [hlen], fun j hj => ?_⟩
      have := r4 j _ (i2 j hj)
      rwa [Addr.add_lit] at this
  · cases h
theorem drew_rel [Val] {A : AHeap} {μ : Mu} {w : World} (R : Rel A μ w) (q : Nat) : Rel A μ (w.drewN q) := SameBut.rel R ⟨rfl, rfl, rfl, rfl⟩
theorem drew_ext {A : AHeap} {μ : Mu} {w : World} (q : Nat) : Ext A A μ μ w (w.drewN q) := SameBut.ext (letI := Val.plain; Ext.refl A μ w) ⟨rfl, rfl, rfl, rfl⟩
def eqInts : List Int → List Int → Bool
  | [], [] => true
  | a :: x, b :: y => decide (a = b) && eqInts x y
  | _, _ => false
theorem eqInts_ok : ∀ {a b : List Int}, eqInts a b = true → a = b
  | [], [], _ => rfl
  | [], _ :: _, h => by cases h
  | _ :: _, [], h => by cases h
  | a :: x, b :: y, h => by
    simp only [eqInts, Bool.and_eq_true, decide_eq_true_eq] at h
    rw [h.1, eqInts_ok h.2]
def extEq (args : List AV) (H : AHeap) : Option (AV × AHeap) :=
  match args with
  | [x, y] => (rowOf H x).bind fun a => (rowOf H y).bind fun b => bif eqInts a b then some (.bool true, H) else none
  | _ => none
theorem extEq_inv {args : List AV} {A : AHeap} {v : AV} {A' : AHeap} (h : extEq args A = some (v, A')) : ∃ x y a, args = [x, y] ∧ rowOf A x = some a ∧ rowOf A y = some a ∧ v = .bool true ∧ A' = A := by
  unfold extEq at h
  split at h
  · rename_i x y
    simp only [Option.bind_eq_some_iff] at h
    obtain ⟨a, h1, b, h2, h⟩ := h
    cases he : eqInts a b with
    | false => rw [he] at h; cases h
    | true =>
      rw [he] at h
      simp only [cond_true, Option.some.injEq, Prod.mk.injEq] at h
      obtain ⟨rfl, rfl⟩ := h
      obtain rfl := eqInts_ok he
      exact ⟨x, y, a, rfl, h1, h2, rfl, rfl⟩
  · cases h
theorem extEq_ok [Val] {args : List AV} {A : AHeap} {v : AV} {A' : AHeap} (h : extEq args A = some (v, A')) {μ : Mu} {w : World} {us : List Value} (R : Rel A μ w) (hus : VRs μ args us) :
    Calls Tryz.prog 8 us.toArray w fun e w' => ∃ u μ', e = .returned u ∧ VR μ' v u ∧ Rel A' μ' w' ∧ Ext A A' μ μ' w w' := by
  obtain ⟨x, y, a, rfl, h1, h2, rfl, rfl⟩ := extEq_inv h
  simp only [VRs] at hus
  obtain ⟨u1, us1, rfl, hu1, u2, us2, rfl, hu2, rfl⟩ := hus
  obtain ⟨hn, c1, o1, cap1, rfl, k1⟩ := rowOf_ok h1 R hu1
  obtain ⟨_, c2, o2, cap2, rfl, k2⟩ := rowOf_ok h2 R hu2
  refine (eq8_c (f := fun j => a.getD j 0) (hidI k1) (hidI k2) hn).mono ?_
  rintro e w' ⟨rfl, q, rfl⟩
  exact ⟨_, μ, rfl, by simp only [VR], drew_rel R q, drew_ext q⟩
def allWords : List Int → Bool
  | [] => true
  | x :: l => decide (-2147483648 ≤ x) && decide (x ≤ 2147483647) && allWords l
theorem allWords_ok : ∀ {l : List Int}, allWords l = true → ∀ j, j < l.length → -2147483648 ≤ l.getD j 0 ∧ l.getD j 0 ≤ 2147483647
  | [], _, j, hj => by simp at hj
  | x :: l, h, j, hj => by
    simp only [allWords, Bool.and_eq_true, decide_eq_true_eq] at h
    cases j with
    | zero => simpa using h.1
    | succ j => simpa using allWords_ok h.2 j (by simpa using hj)
def extAll (args : List AV) (H : AHeap) : Option (AV × AHeap) :=
  match args with
  | [x, .fn 54 [] []] => (rowOf H x).bind fun a => bif allWords a then some (.bool false, H) else none
  | _ => none
theorem extAll_inv {args : List AV} {A : AHeap} {v : AV} {A' : AHeap} (h : extAll args A = some (v, A')) : ∃ x a, args = [x, .fn 54 [] []] ∧ rowOf A x = some a ∧ allWords a = true ∧ v = .bool false ∧ A' = A := by
  unfold extAll at h
  split at h
  · rename_i x
    simp only [Option.bind_eq_some_iff] at h
    obtain ⟨a, h1, h⟩ := h
    cases he : allWords a with
    | false => rw [he] at h; cases h
    | true =>
      rw [he] at h
      simp only [cond_true, Option.some.injEq, Prod.mk.injEq] at h
      obtain ⟨rfl, rfl⟩ := h
      exact ⟨x, a, rfl, h1, he, rfl, rfl⟩
  · cases h
theorem extAll_ok [Val] {args : List AV} {A : AHeap} {v : AV} {A' : AHeap} (h : extAll args A = some (v, A')) {μ : Mu} {w : World} {us : List Value} (R : Rel A μ w) (hus : VRs μ args us) :
    Calls Tryz.prog 53 us.toArray w fun e w' => ∃ u μ', e = .returned u ∧ VR μ' v u ∧ Rel A' μ' w' ∧ Ext A A' μ μ' w w' := by
  obtain ⟨x, a, rfl, h1, h2, rfl, rfl⟩ := extAll_inv h
  simp only [VRs, VR] at hus
  obtain ⟨u1, us1, rfl, hu1, u2, us2, rfl, ⟨fs, cs, rfl, rfl, rfl⟩, rfl⟩ := hus
  obtain ⟨hn, c1, o1, cap1, rfl, k1⟩ := rowOf_ok h1 R hu1
  refine (all53_c (f := fun j => a.getD j 0) (hidI k1) (hidI (allWords_ok h2)) hn).mono ?_
  rintro e w' ⟨rfl, q, rfl⟩
  exact ⟨_, μ, rfl, by simp only [VR], drew_rel R q, drew_ext q⟩
def extWrap (args : List AV) (H : AHeap) : Option (AV × AHeap) :=
  match args with
  | [.int .i64 n] => some (.int .i64 (IntKind.i64.wrap (IntKind.i32.wrap n)), H)
  | _ => none
def extIsWord (args : List AV) (H : AHeap) : Option (AV × AHeap) :=
  match args with
  | [.int .i64 n] => bif decide (-2147483648 ≤ n) && decide (n ≤ 2147483647) then some (.bool true, H) else none
  | _ => none
theorem extWrap_inv {args : List AV} {A : AHeap} {v : AV} {A' : AHeap} (h : extWrap args A = some (v, A')) : ∃ n, args = [.int .i64 n] ∧ v = .int .i64 (IntKind.i64.wrap (IntKind.i32.wrap n)) ∧ A' = A := by
  unfold extWrap at h
  split at h
  · rename_i n; cases h; exact ⟨n, rfl, rfl, rfl⟩
  · cases h
theorem extIsWord_inv {args : List AV} {A : AHeap} {v : AV} {A' : AHeap} (h : extIsWord args A = some (v, A')) : ∃ n, args = [.int .i64 n] ∧ (-2147483648 ≤ n ∧ n ≤ 2147483647) ∧ v = .bool true ∧ A' = A := by
  unfold extIsWord at h
  split at h
  · rename_i n
    cases hb : (decide (-2147483648 ≤ n) && decide (n ≤ 2147483647)) with
    | false => rw [hb] at h; cases h
    | true =>
      rw [hb] at h
      cases h
      simp only [Bool.and_eq_true, decide_eq_true_eq] at hb
      exact ⟨n, rfl, hb, rfl, rfl⟩
  · cases h
def extH (W : Nat) : FuncId → Option (List AV → AHeap → Option (AV × AHeap))
  | 7 => some extServes
  | 13 => some (extNext W)
  | 46 => some (extWord W)
  | 8 => some extEq
  | 53 => some extAll
  | 50 => some extWrap
  | 25 => some extWrap
  | 49 => some extIsWord
  | _ => none
theorem extH_ok (r : Raw) (W : Nat) (F : List Fact) : letI := r.val W
    ExtOK Tryz.prog ((envOf Tryz.prog).know F) (extH W) := by
  letI := r.val W
  have hf : ∀ f g, extH W f = some g → (f = 7 ∧ g = extServes) ∨ (f = 13 ∧ g = extNext W) ∨ (f = 46 ∧ g = extWord W) ∨ (f = 8 ∧ g = extEq) ∨ (f = 53 ∧ g = extAll) ∨ (f = 50 ∧ g = extWrap) ∨ (f = 25 ∧ g = extWrap) ∨ (f = 49 ∧ g = extIsWord) := by
    intro f g h
    unfold extH at h
    split at h <;> first | (cases h; simp; done) | (cases h; done)
  refine ⟨fun f g h => ?_, fun f g h args A v A' h2 => ?_, fun f g h args A v A' h2 μ w us R hJ hus hfr => ?_⟩
  · rcases hf f g h with ⟨rfl, _⟩ | ⟨rfl, _⟩ | ⟨rfl, _⟩ | ⟨rfl, _⟩ | ⟨rfl, _⟩ | ⟨rfl, _⟩ | ⟨rfl, _⟩ | ⟨rfl, _⟩ <;> kernel_rfl
  · rcases hf f g h with ⟨rfl, rfl⟩ | ⟨rfl, rfl⟩ | ⟨rfl, rfl⟩ | ⟨rfl, rfl⟩ | ⟨rfl, rfl⟩ | ⟨rfl, rfl⟩ | ⟨rfl, rfl⟩ | ⟨rfl, rfl⟩
    · exact extServes_n h2
    · exact extNext_n h2
    · exact extWord_n h2
    · obtain ⟨_, _, _, _, _, _, _, rfl⟩ := extEq_inv h2; exact Nat.le_refl _
    · obtain ⟨_, _, _, _, _, _, rfl⟩ := extAll_inv h2; exact Nat.le_refl _
    · obtain ⟨_, _, _, rfl⟩ := extWrap_inv h2; exact Nat.le_refl _
    · obtain ⟨_, _, _, rfl⟩ := extWrap_inv h2; exact Nat.le_refl _
    · obtain ⟨_, _, _, _, rfl⟩ := extIsWord_inv h2; exact Nat.le_refl _
  · rcases hf f g h with ⟨rfl, rfl⟩ | ⟨rfl, rfl⟩ | ⟨rfl, rfl⟩ | ⟨rfl, rfl⟩ | ⟨rfl, rfl⟩ | ⟨rfl, rfl⟩ | ⟨rfl, rfl⟩ | ⟨rfl, rfl⟩
    · exact ext_closed serves_calls h2 R hus
    · exact extNext_ok r W h2 μ w us R hJ hus
    · exact extWord_ok r W h2 μ w us R hJ hus
    · exact extEq_ok h2 R hus
    · exact extAll_ok h2 R hus
    · obtain ⟨n, rfl, rfl, rfl⟩ := extWrap_inv h2
      simp only [VRs, VR] at hus
      obtain ⟨u1, us1, rfl, rfl, rfl⟩ := hus
      refine (wrap50_c n w).mono ?_
      rintro e w' ⟨rfl, B⟩
      exact ⟨_, μ, rfl, by simp only [VR], R.grow B, Ext.grow B⟩
    · obtain ⟨n, rfl, rfl, rfl⟩ := extWrap_inv h2
      simp only [VRs, VR] at hus
      obtain ⟨u1, us1, rfl, rfl, rfl⟩ := hus
      refine (wrapped25_c n w).mono ?_
      rintro e w' ⟨rfl, B⟩
      exact ⟨_, μ, rfl, by simp only [VR], R.grow B, Ext.grow B⟩
    · obtain ⟨n, rfl, ⟨q1, q2⟩, rfl, rfl⟩ := extIsWord_inv h2
      simp only [VRs, VR] at hus
      obtain ⟨u1, us1, rfl, rfl, rfl⟩ := hus
      refine (word49_c n w q1 q2).mono ?_
      rintro e w' ⟨rfl, B⟩
      exact ⟨_, μ, rfl, by simp only [VR], R.grow B, Ext.grow B⟩
/-! ### one list -/
/-- a list of 1024 zeros is put in -/
def heavy : List Fact → Bool
  | .eq (.md _ 2) (.lit 0) true :: .eq (.md _ 3) (.lit 0) true :: _ => true
  | _ => false
noncomputable def ringEv1 (W : Nat) (F : List Fact) : Bool := okT (evCall ((envOf Tryz.prog).know F) (bif heavy F then extH W else extR W) 1200 5 [.opq 0] A0)
theorem ring_leaf1 (r : Raw) {w : World} (hJ : r.J μ0 w) {W : Nat} {F : List Fact} (hF : ∀ f ∈ F, f.holds (rhoW r W)) (h : ringEv1 W F = true) :
    Calls Tryz.prog 5 #[.slice r.a r.len r.cap] w fun e w' => e = .returned (.bool true) ∧ Below w.heap.size w w' := by
  letI := r.val W
  unfold ringEv1 at h
  cases hh : heavy F with
  | false => rw [hh] at h; exact ring_leaf r hJ hF h
  | true =>
    rw [hh] at h
    obtain ⟨A', h⟩ := okT_some h
    exact opaque_run hmixed hF (extH_ok r W F) h w hJ rfl
theorem ring_pair1 (r : Raw) {w : World} (hJ : r.J μ0 w) {n m : Nat} (h0 : r.at 0 % 6 = (n : Int)) (h1 : r.at 1 % 6 = (m : Int)) (hn : n ≤ 5) (hm : m ≤ 5) (h : (ringTree n m).ok (ringEv1 (n * m)) (baseFacts n m) = true) :
    Calls Tryz.prog 5 #[.slice r.a r.len r.cap] w fun e w' => e = .returned (.bool true) ∧ Below w.heap.size w w' :=
  Dec.sound (ρ := rhoW r (n * m)) (fun F hF h => ring_leaf1 r hJ hF h) (ringTree n m) (baseFacts n m) (ring_base r h0 h1 hn hm) h
end
end Go.Proofs.YthhhpaeheccelaaGreat
