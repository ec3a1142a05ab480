/- The document's counted and Executions. -/
import Derived.Test.YteabbkagekdehaaCp8
set_option linter.unusedVariables false
set_option linter.unusedSimpArgs false
set_option maxRecDepth 100000
namespace Go.Proofs.Yteabbkagekdehaa
open Go.AE Go.RowKit Go.IntWalk
theorem ctr_le {n : Nat} {op M : Nat → Int} {p e : Nat} {t : CT} (b : BT n op M p t e) : ∀ (T k : Nat), ctr op t T k ≤ T * t.cnt := by
  induction b with
  | stop h => intro T k; simp [ctr]
  | plain h h4 h3 b ih =>
    intro T k
    have := ih T k
    simp only [ctr, CT.cnt]
    rw [Nat.mul_add, Nat.mul_one]
    split <;> omega
  | @loop p e1 e m tb t h h3 hm h1 hb he h4 hc ih1 ih2 =>
    intro T k
    have a1 := ih1 (T * m) k
    have a2 := ih2 T k
    simp only [ctr, CT.cnt]
    rw [show T * (1 + m * (tb.cnt + 1) + t.cnt) = T + T * m * tb.cnt + T * m + T * t.cnt by rw [Nat.mul_add, Nat.mul_add, Nat.mul_one, ← Nat.mul_assoc, Nat.mul_add, Nat.mul_one]; omega]
    split <;> split <;> omega
theorem BT.inv9 {n : Nat} {op M : Nat → Int} {q e : Nat} {t : CT} (b : BT n op M q t e) : (t = .stop ∧ q = e ∧ (q = n ∨ q < n ∧ op q = 4)) ∨ (∃ t2, t = .plain q t2 ∧ q < n ∧ op q ≠ 4 ∧ op q ≠ 3 ∧ BT n op M (q + 1) t2 e) ∨
    (∃ m e1 tb t2, t = .loop q m e1 tb t2 ∧ q < n ∧ op q = 3 ∧ M q = m ∧ m ≤ 1000000 ∧ BT n op M (q + 1) tb e1 ∧ e1 < n ∧ op e1 = 4 ∧ BT n op M (e1 + 1) t2 e) := by
  cases b with
  | stop h => exact .inl ⟨rfl, rfl, h⟩
  | plain h h4 h3 b => exact .inr (.inl ⟨_, rfl, h, h4, h3, b⟩)
  | loop h h3 hm h1 hb he h4 hc => exact .inr (.inr ⟨_, _, _, _, rfl, h, h3, hm, h1, hb, he, h4, hc⟩)
/-- the code lies apart from the counts -/
def Apart (w : World) (a : Option Addr) (n : Nat) (zs : List Int) (bo : Nat) : Prop := n = 0 ∨ ∃ g, a = some ⟨g, 0, none⟩ ∧ g < w.heap.size ∧ g ≠ bo ∧ ∀ j, j < n * 9 → w.cell? ⟨g, j, none⟩ = some (.int .i64 (zs.getD j 0))
theorem Apart.oth {w w' : World} {a : Option Addr} {n : Nat} {zs : List Int} {bo : Nat} (h : Apart w a n zs bo) (O : Oth bo w w') : Apart w' a n zs bo := by
  rcases h with h | ⟨g, g1, g2, g3, g4⟩
  · exact .inl h
  · exact .inr ⟨g, g1, Nat.lt_of_lt_of_le g2 O.size, g3, fun j hj => by rw [O.cell (by exact g2) (by exact g3)]; exact g4 j hj⟩
set_option maxHeartbeats 4000000 in
theorem counted_c {a : Option Addr} {n cap : Nat} {zs : List Int} (hn : n ≤ 100000) (hop : ∀ i, i < n → 1 ≤ opZ zs i ∧ opZ zs i ≤ 19) {bo : Nat} : ∀ (k p e : Nat) (t : CT) (w : World) (T : Nat) (F : Nat → Nat),
    n - p ≤ k → BT n (opZ zs) (mZ zs) p t e → (∀ k, F k + T * t.cnt ≤ 40000000) → Apart w a n zs bo → RowAt bo 20 (fun k => (F k : Nat)) w → bo < w.heap.size →
    Calls Try.prog 71 #[.slice a n cap, .int .i64 p, .int .i64 T, .slice (some ⟨bo, 0, none⟩) 20 20] w fun en w' => en = .returned (zI e) ∧ RowAt bo 20 (fun k => (F k + ctr (opZ zs) t T k : Nat)) w' ∧ Oth bo w w' := by
  intro k
  induction k using Nat.strongRecOn with
  | ind k ih =>
    intro p e t w T F hk B0 hF hA hR hbo
    have hge := B0.ge
    have HI : Hid _ := ih
    have HOP : Hid _ := hop
    clear ih hop
    obtain ⟨G, hG⟩ : ∃ G : Nat → Nat, (fun k => F k + ctr (opZ zs) t T k) = G := ⟨_, rfl⟩
    have hG' : ∀ k, F k + ctr (opZ zs) t T k = G k := fun k => congrFun hG k
    have hpost : Hid (∀ w', RowAt bo 20 (fun k => (G k : Nat)) w' → RowAt bo 20 (fun k => (F k + ctr (opZ zs) t T k : Nat)) w') := fun w' h => h.congr (fun k _ => by rw [← hG' k])
    go_enter Try.func71, Try.ntmps71
    go_wp2_with fail
    go_loopw [1] (fun v1 wr => ∃ (q : Nat) (t1 : CT) (F1 : Nat → Nat), v1 = zI q ∧ BT n (opZ zs) (mZ zs) q t1 e ∧ (∀ k, F1 k + ctr (opZ zs) t1 T k = G k) ∧ (∀ k, F1 k + T * t1.cnt ≤ 40000000) ∧ RowAt bo 20 (fun k => (F1 k : Nat)) wr ∧ Oth bo w wr ∧ p ≤ q)
      (fun v1 _ => n - (intOf v1).toNat)
    case atStart => exact ⟨p, t, F, rfl, B0, hG', hF, hR, Oth.refl _ _, Nat.le_refl _⟩
    case round =>
      clear B0 hG hG' hF hR
      obtain ⟨q, t1, F1, rfl, B, hG, hF, hR, O, hpq⟩ := hrel
      have hA1 := hA.oth O
      have hB' := B.ge
      rcases B.inv9 with ⟨rfl, rfl, h⟩ | ⟨t2, rfl, hqn, h4, h3, B2⟩ | ⟨m, e1, tb, t2, rfl, hqn, h3, hm, hm1, hb, he, h4, hc⟩
      · have FIN : Hid (RowAt bo 20 (fun k => (F k + ctr (opZ zs) t T k : Nat)) wr ∧ Oth bo w wr) := ⟨hpost.out wr (hR.congr (fun k _ => by rw [← hG k]; simp [ctr])), O⟩
        by_cases hq : q = n
        · have hlt : ¬ (q : Int) < (n : Int) := by omega
          clear h hR O hA1 hG hF
          go_wp2_with fail
          go_ret
          exact ⟨rfl, FIN.out⟩
        · obtain ⟨hqn, h4⟩ : q < n ∧ opZ zs q = 4 := by omega
          have hlt : (q : Int) < (n : Int) := by omega
          rcases hA1 with h0 | ⟨g, rfl, hg, hgb, hcell⟩
          · omega
          · have hc0 : wr.cell? ⟨g, q * 9, none⟩ = some (.int .i64 4) := by rw [hcell _ (by omega)]; exact congrArg _ (congrArg _ h4)
            clear h h4 hcell hR O hG hF
            go_wp2_with fail
            go_ret
            exact ⟨rfl, FIN.out⟩
      · have hlt : (q : Int) < (n : Int) := by omega
        rcases hA1 with h0 | ⟨g, rfl, hg, hgb, hcell⟩
        · omega
        obtain ⟨o1, o2⟩ := HOP.out q hqn
        obtain ⟨o, ho⟩ : ∃ o : Nat, opZ zs q = o := ⟨(opZ zs q).toNat, by omega⟩
        have hc0 : wr.cell? ⟨g, q * 9, none⟩ = some (.int .i64 o) := by rw [hcell _ (by omega)]; exact congrArg _ (congrArg _ ho)
        have ho20 : o < 20 := by omega
        have hoI : (o : Int) < 20 := by omega
        have ho3 : ¬ (o : Int) = 3 := by rw [← ho]; exact h3
        have ho4 : ¬ (o : Int) = 4 := by rw [← ho]; exact h4
        have ho3b : ((o : Int) == 3) = false := by simp; omega
        have ho4b : ((o : Int) == 4) = false := by simp; omega
        obtain ⟨u, hu⟩ : ∃ u, F1 o = u := ⟨_, rfl⟩
        have xo : wr.cell? ⟨bo, o, none⟩ = some (zI (u : Int)) := by rw [← hu]; exact (hR o ho20).1
        have fo : wr.frozen? ⟨bo, o, none⟩ = false := (hR o ho20).2
        have hFo := hF o
        simp only [CT.cnt] at hFo hF
        rw [Nat.mul_add, Nat.mul_one] at hFo
        have hub : u + T ≤ 40000000 := by omega
        have NR := (hR.set ho20 ((u + T : Nat) : Int)).congr (f' := fun k => (((fun k => if k = o then u + T else F1 k) k : Nat) : Int)) (fun k _ => by
          by_cases e : k = o
          · simp [e]
          · simp [e])
        have NO : Oth bo w (wr.setCell ⟨bo, o, none⟩ (zI ((u + T : Nat) : Int))) := O.trans (oth_setCell _ _ _ _)
        have hadd : ((u + T : Nat) : Int) = (u : Int) + (T : Int) := by omega
        rw [hadd] at NR NO
        have hG2 : Hid (∀ k, (if k = o then u + T else F1 k) + ctr (opZ zs) t2 T k = G k) := fun k => by
          rw [← hG k]
          simp only [ctr]
          rw [ho]
          by_cases e : k = o
          · subst e; rw [if_pos rfl, if_pos rfl, hu]; omega
          · rw [if_neg e, if_neg (by omega)]; omega
        have hF2 : Hid (∀ k, (if k = o then u + T else F1 k) + T * t2.cnt ≤ 40000000) := fun k => by
          have h1 := hF k
          rw [Nat.mul_add, Nat.mul_one] at h1
          by_cases e : k = o
          · subst e; rw [if_pos rfl, ← hu]; omega
          · rw [if_neg e]; omega
        replace NR := hidI NR
        replace NO := hidI NO
        replace B2 := hidI B2
        clear hcell hR O hG hF hFo hadd ho h3 h4 hu B
        go_wp2_with fail
        go_roundw
        case rel => exact ⟨q + 1, t2, _, by go_num, B2.out, hG2.out, hF2.out, NR.out, NO.out, by omega⟩
        case measure => simp [intOf]; omega
      · have hlt : (q : Int) < (n : Int) := by omega
        rcases hA1 with h0 | ⟨g, rfl, hg, hgb, hcell⟩
        · omega
        have hA1' : Apart wr (some ⟨g, 0, none⟩) n zs bo := .inr ⟨g, rfl, hg, hgb, hcell⟩
        have hc0 : wr.cell? ⟨g, q * 9, none⟩ = some (.int .i64 3) := by rw [hcell _ (by omega)]; exact congrArg _ (congrArg _ h3)
        have hc8 : wr.cell? ⟨g, q * 9 + 8, none⟩ = some (.int .i64 m) := by rw [hcell _ (by omega)]; exact congrArg _ (congrArg _ hm)
        have hb9 := hb.ge
        have hc9 := hc.ge
        obtain ⟨A, hAe⟩ : ∃ A, T * m = A := ⟨_, rfl⟩
        have hid : T * (CT.loop q m e1 tb t2).cnt = T + A * tb.cnt + A + T * t2.cnt := by
          simp only [CT.cnt]
          rw [← hAe, Nat.mul_add, Nat.mul_add, Nat.mul_one, ← Nat.mul_assoc, Nat.mul_add, Nat.mul_one]; omega
        rw [hid] at hF
        have hAI : (T : Int) * (m : Int) = (A : Int) := by rw [← hAe]; simp
        have hAb : A ≤ 40000000 := by have := hF 0; omega
        obtain ⟨u, hu⟩ : ∃ u, F1 3 = u := ⟨_, rfl⟩
        have xo : wr.cell? ⟨bo, 3, none⟩ = some (zI (u : Int)) := by rw [← hu]; exact (hR 3 (by omega)).1
        have fo : wr.frozen? ⟨bo, 3, none⟩ = false := (hR 3 (by omega)).2
        have hub : u + T ≤ 40000000 := by have := hF 3; omega
        have NR := (hR.set (show 3 < 20 by omega) ((u + T : Nat) : Int)).congr (f' := fun k => (((fun k => if k = 3 then u + T else F1 k) k : Nat) : Int)) (fun k _ => by
          by_cases e : k = 3
          · simp [e]
          · simp [e])
        have NO : Oth bo w (wr.setCell ⟨bo, 3, none⟩ (zI ((u + T : Nat) : Int))) := O.trans (oth_setCell _ _ _ _)
        have NA : Apart (wr.setCell ⟨bo, 3, none⟩ (zI ((u + T : Nat) : Int))) (some ⟨g, 0, none⟩) n zs bo := hA1'.oth (oth_setCell _ _ _ _)
        have Nc8 : (wr.setCell ⟨bo, 3, none⟩ (zI ((u + T : Nat) : Int))).cell? ⟨g, q * 9 + 8, none⟩ = some (.int .i64 m) := by rw [(oth_setCell wr bo 3 _).cell (by exact hg) (by exact hgb)]; exact hc8
        have Nc0 : (wr.setCell ⟨bo, 3, none⟩ (zI ((u + T : Nat) : Int))).cell? ⟨g, q * 9, none⟩ = some (.int .i64 3) := by rw [(oth_setCell wr bo 3 _).cell (by exact hg) (by exact hgb)]; exact hc0
        have hF2 : ∀ k, (if k = 3 then u + T else F1 k) + A * tb.cnt ≤ 40000000 := fun k => by
          have h1 := hF k
          by_cases e : k = 3
          · subst e; rw [if_pos rfl, ← hu]; omega
          · rw [if_neg e]; omega
        have hrec := HI.out (n - (q + 1)) (by omega) (q + 1) e1 tb _ A _ (Nat.le_refl _) hb hF2 NA NR (by rw [csize_set]; have := O.size; omega)
        have hadd : ((u + T : Nat) : Int) = (u : Int) + (T : Int) := by omega
        have eqq : ((q + 1 : Nat) : Int) = (q : Int) + 1 := by omega
        rw [hadd] at NO Nc8 Nc0
        rw [hadd, eqq] at hrec
        have hG3 : Hid (∀ k, (if k = 4 then ((if k = 3 then u + T else F1 k) + ctr (opZ zs) tb A k) + A else ((if k = 3 then u + T else F1 k) + ctr (opZ zs) tb A k)) + ctr (opZ zs) t2 T k = G k) := fun k => by
          rw [← hG k]
          simp only [ctr]
          rw [h3, hAe]
          by_cases e3 : k = 3
          · subst e3
            rw [if_neg (by decide), if_pos rfl, if_pos (by decide), if_neg (by decide), hu]; omega
          · rw [if_neg e3, if_neg (by omega : ¬ (3 : Int) = (k : Int))]
            by_cases e4 : k = 4
            · rw [if_pos e4, if_pos e4]; omega
            · rw [if_neg e4, if_neg e4]; omega
        have hF3 : Hid (∀ k, (if k = 4 then ((if k = 3 then u + T else F1 k) + ctr (opZ zs) tb A k) + A else ((if k = 3 then u + T else F1 k) + ctr (opZ zs) tb A k)) + T * t2.cnt ≤ 40000000) := fun k => by
          have h1 := hF k
          have h2 := ctr_le hb A k
          by_cases e3 : k = 3
          · subst e3
            rw [if_neg (by decide), if_pos rfl, ← hu]; omega
          · rw [if_neg e3]
            by_cases e4 : k = 4
            · rw [if_pos e4]; omega
            · rw [if_neg e4]; omega
        have hv4 : (if (4 : Nat) = 3 then u + T else F1 4) + ctr (opZ zs) tb A 4 + A ≤ 40000000 := by
          have h1 := hF 4
          have h2 := ctr_le hb A 4
          rw [if_neg (by decide)]; omega
        obtain ⟨FF, hFF⟩ : ∃ FF : Nat → Nat, (fun k => (if k = 3 then u + T else F1 k) + ctr (opZ zs) tb A k) = FF := ⟨_, rfl⟩
        have hFF' : ∀ k, (if k = 3 then u + T else F1 k) + ctr (opZ zs) tb A k = FF k := fun k => congrFun hFF k
        simp only [hFF'] at hG3 hF3 hv4 hrec
        replace NO := hidI NO
        replace hc := hidI hc
        clear hcell hR O hG hF hadd h4 hu B hm h3 hA1' NA NR Nc8 Nc0 hF2 hid hAe hFF hFF' eqq
        go_wp2_with fail
        refine hrec.mono ?_
        rintro en w3 ⟨rfl, hR3, hO3⟩
        obtain ⟨v4, hv⟩ : ∃ v4, FF 4 = v4 := ⟨_, rfl⟩
        have xo4 : w3.cell? ⟨bo, 4, none⟩ = some (zI (v4 : Int)) := by rw [← hv]; exact (hR3 4 (by omega)).1
        have fo4 : w3.frozen? ⟨bo, 4, none⟩ = false := (hR3 4 (by omega)).2
        rw [hv] at hv4
        have NR := (hR3.set (show 4 < 20 by omega) ((v4 + A : Nat) : Int)).congr (f' := fun k => (((fun k => if k = 4 then FF k + A else FF k) k : Nat) : Int)) (fun k _ => by
          by_cases e : k = 4
          · subst e; simp [hv]
          · simp [e])
        have NO4 := (NO.out.trans hO3).trans (oth_setCell w3 bo 4 (zI ((v4 + A : Nat) : Int)))
        have hadd : ((v4 + A : Nat) : Int) = (v4 : Int) + (A : Int) := by omega
        rw [hadd] at NR NO4
        replace NR := hidI NR
        replace NO4 := hidI NO4
        clear hrec hR3 hO3 NO hadd hv xo fo hc0 hc8
        go_wp2_with fail
        go_roundw
        case rel => exact ⟨e1 + 1, t2, _, by go_num, hc.out, hG3.out, hF3.out, NR.out, NO4.out, by omega⟩
        case measure => simp [intOf]; omega
/-- Executions -/
theorem execs_c {a : Option Addr} {n cap : Nat} {zs : List Int} {w : World} (hr : RowZ w a n zs) (hn : n ≤ 100000) (hop : ∀ i, i < n → 1 ≤ opZ zs i ∧ opZ zs i ≤ 19) {t : CT} (b : BT n (opZ zs) (mZ zs) 0 t n) (hc : t.cnt ≤ 40000000) :
    Calls Try.prog 41 #[.slice a n cap] w fun en w' => ∃ g, en = .returned (.slice (some ⟨g, 0, none⟩) 20 20) ∧ g < w'.heap.size ∧ RowAt g 20 (fun k => (ctr (opZ zs) t 1 k : Nat)) w' ∧ Below w.heap.size w w' := by
  have hm20 : ∀ w, (Instr.makeSlice 22 (.int .i64 20) (.int .i64 20)).run Try.prog w = .ok (.slice (some ⟨w.heap.size, 0, none⟩) 20 20) (w.alloc (.cells (madeCells #[.int .i64 0] 20) 3)) := make_int2 20 (by omega)
  have hB := below_alloc w (.cells (madeCells #[.int .i64 0] 20) 3)
  have hR := made_row2 (heap_alloc_new w (.cells (madeCells #[.int .i64 0] 20) 3))
  have hA : Apart (w.alloc (.cells (madeCells #[.int .i64 0] 20) 3)) a n zs w.heap.size := by
    rcases hr with h | ⟨g, h1, h2, h3⟩
    · exact .inl h
    · exact .inr ⟨g, h1, by simp only [World.alloc, Array.size_push]; omega, by omega, fun j hj => by rw [hB.cell (by exact h2)]; exact h3 j hj⟩
  have hrec := counted_c (cap := cap) hn hop (bo := w.heap.size) n 0 n t _ 1 (fun _ => 0) (by omega) b (fun k => by omega) hA (hR.congr (fun _ _ => rfl)) (by simp only [World.alloc, Array.size_push]; omega)
  replace hA := hidI hA
  replace hR := hidI hR
  replace hB := hidI hB
  clear hr b
  go_enter Try.func41, Try.ntmps41
  go_wp2_with fail
  refine hrec.mono ?_
  rintro en w2 ⟨rfl, hR2, hO⟩
  have FIN : Hid (w.heap.size < w2.heap.size ∧ RowAt w.heap.size 20 (fun k => (ctr (opZ zs) t 1 k : Nat)) w2 ∧ Below w.heap.size w w2) := ⟨by have := hO.size; simp only [World.alloc, Array.size_push] at this; omega, hR2.congr (fun k _ => by simp), hB.out.trans (hO.below (Nat.le_refl _) (by simp only [World.alloc, Array.size_push]; omega))⟩
  clear hrec hR2 hO hm20
  go_wp2_with fail
  go_ret
  exact ⟨_, rfl, FIN.out⟩
end Go.Proofs.Yteabbkagekdehaa
