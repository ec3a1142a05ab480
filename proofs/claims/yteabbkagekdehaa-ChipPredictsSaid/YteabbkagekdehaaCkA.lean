/- The document's CodeFault: the errors one by one, then the loops, then the number of executed instructions. -/
import Derived.Test.YteabbkagekdehaaCk3
import Derived.Test.YteabbkagekdehaaCi6
import Derived.Deep.Cut
section
set_option linter.unusedVariables false
set_option linter.unusedSimpArgs false
set_option maxRecDepth 100000
namespace Go.Proofs.Yteabbkagekdehaa
open Go.AE Go.RowKit Go.IntWalk
abbrev zI (n : Int) : Value := .int .i64 n
def mV (m0 m1 m2 m3 m4 : Int) : Value := .agg #[zI m0, zI m1, zI m2, zI m3, zI m4]
def rowV (zs : List Int) (i : Nat) : Value := .agg #[zI (zs.getD (i * 9) 0), zI (zs.getD (i * 9 + 1) 0), zI (zs.getD (i * 9 + 2) 0), zI (zs.getD (i * 9 + 3) 0), zI (zs.getD (i * 9 + 4) 0), zI (zs.getD (i * 9 + 5) 0), zI (zs.getD (i * 9 + 6) 0), zI (zs.getD (i * 9 + 7) 0), zI (zs.getD (i * 9 + 8) 0)]
def rhoI (m0 m1 m2 m3 m4 : Int) (zs : List Int) (i : Nat) (k : Nat) : Int :=
  [m0, m1, m2, m3, m4, zs.getD (i * 9) 0, zs.getD (i * 9 + 1) 0, zs.getD (i * 9 + 2) 0, zs.getD (i * 9 + 3) 0, zs.getD (i * 9 + 4) 0, zs.getD (i * 9 + 5) 0, zs.getD (i * 9 + 6) 0, zs.getD (i * 9 + 7) 0, zs.getD (i * 9 + 8) 0].getD k 0
theorem rhoI_m (m0 m1 m2 m3 m4 : Int) (zs : List Int) (i : Nat) : flatV (rhoI m0 m1 m2 m3 m4 zs i) mAV = mV m0 m1 m2 m3 m4 := by
  simp only [flatV, mAV, v, List.map_cons, List.map_nil, scV, Sy.ev]
  rfl
theorem rhoI_x (m0 m1 m2 m3 m4 : Int) (zs : List Int) (i : Nat) : flatV (rhoI m0 m1 m2 m3 m4 zs i) xAll = rowV zs i := by
  simp only [flatV, xAll, xAV, v, List.map_cons, List.map_nil, scV, Sy.ev]
  rfl
/-- what is said of every instruction -/
def ErrAt (m : Value) (zs : List Int) (n : Nat) (err : Nat → Int) : Prop := ∀ i, i < n → CodeOK m (rowV zs i) (err i) ∧ Says 78 [m, rowV zs i] (zI (err i)) ∧ (opZ zs i = 3 → err i = 0 → 0 ≤ mZ zs i ∧ mZ zs i ≤ 1000000)
theorem errs_all {m0 m1 m2 m3 m4 : Int} (zs : List Int) (n : Nat) (hb : ∀ i, MachB (rhoI m0 m1 m2 m3 m4 zs i)) : ∃ err, ErrAt (mV m0 m1 m2 m3 m4) zs n err := by
  have h : ∀ i, ∃ e : Int, CodeOK (mV m0 m1 m2 m3 m4) (rowV zs i) e ∧ Says 78 [mV m0 m1 m2 m3 m4, rowV zs i] (zI e) ∧ (opZ zs i = 3 → e = 0 → 0 ≤ mZ zs i ∧ mZ zs i ≤ 1000000) := fun i => by
    obtain ⟨e, h1, h2, h3⟩ := instr_all (hb i)
    rw [rhoI_m, rhoI_x] at h1 h2
    exact ⟨e, h1, h2, h3⟩
  exact ⟨fun i => (h i).choose, fun i _ => (h i).choose_spec⟩
/-- what Check and CodeFault answer -/
def ansZ (zs : List Int) (n : Nat) (err : Nat → Int) : Int := match scan (opZ zs) err n 0 0 with
  | .inl e => e
  | .inr o => if 0 < o then 7 else if 40000000 < (tl (opZ zs) (mZ zs) n 0 [1]).sum then 2 else 0
theorem ans_inl {zs : List Int} {n : Nat} {err : Nat → Int} {e : Int} (h : .inl e = scan (fun i => zs.getD (i * 9) 0) err n 0 0) : Hid (ansZ zs n err = e) := by
  show _ = _
  unfold ansZ
  rw [show opZ zs = fun i => zs.getD (i * 9) 0 from rfl, ← h]
theorem scan_step {op : Nat → Int} {err : Nat → Int} {n i o : Nat} (h : i < n) : scan op err (n - i) i o = if err i ≠ 0 then .inl (err i) else if op i = 4 then (if o = 0 then .inl 7 else scan op err (n - (i + 1)) (i + 1) (o - 1)) else if op i = 3 then (if 16 ≤ o then .inl 2 else scan op err (n - (i + 1)) (i + 1) (o + 1)) else scan op err (n - (i + 1)) (i + 1) o := by
  rw [show n - i = (n - (i + 1)) + 1 by omega]
  rfl
theorem tl_facts {n : Nat} {op M : Nat → Int} {c : Nat} (b : Blk n op M 0 c n) : min (tl op M n 0 [1]).sum SX = min c SX ∧ (tl op M n 0 [1]).length = n := by
  obtain ⟨pre, h1, h2, h3⟩ := tl_blk b 1 []
  rw [Nat.sub_self, Nat.sub_zero] at h1
  simp only [tl, List.append_nil] at h1
  rw [h1]
  refine ⟨by rw [h2, Nat.one_mul], by omega⟩
theorem below_row {w : World} {bm : Nat} (cs : Array Value) (e : TypeId) (h : w.heap.size = bm) : ∀ j, (w.alloc (.cells cs e)).cell? ⟨bm, j, none⟩ = cs[j]? := fun j => by
  subst h
  exact cell_of_row _ _ j _ e (0, 0) (heap_alloc_new w _)
set_option maxHeartbeats 2000000 in
theorem codeFault_c {w : World} {a : Option Addr} {n cap : Nat} {zs : List Int} (hr : RowZ w a n zs) (hn : n ≤ 100000) {m0 m1 m2 m3 m4 : Int} {err : Nat → Int} (hE : ErrAt (mV m0 m1 m2 m3 m4) zs n err) :
    Calls Try.prog 48 #[mV m0 m1 m2 m3 m4, .slice a n cap] w fun en w' => en = .returned (zI (ansZ zs n err)) ∧ Below w.heap.size w w' := by
  unfold mV at *
  obtain ⟨bm, hbm⟩ : ∃ bm, w.heap.size = bm := ⟨_, rfl⟩
  have hnL : ¬ (400000 : Int) < (n : Int) := by omega
  have HE : Hid _ := hE
  clear hE
  go_enter Try.func48, Try.ntmps48
  go_wp2_with fail
  have b1 := below_row (w := w) #[zI m0, zI m1, zI m2, zI m3, zI m4] 36 hbm
  have B1 := below_alloc w (.cells #[zI m0, zI m1, zI m2, zI m3, zI m4] 36)
  obtain ⟨w1, hw1⟩ : ∃ w1, w.alloc (.cells #[zI m0, zI m1, zI m2, zI m3, zI m4] 36) = w1 := ⟨_, rfl⟩
  have hz1 : bm < w1.heap.size := by rw [← hw1, ← hbm]; simp
  rw [hw1] at b1 B1
  rw [hw1]
  clear hw1
  go_loopw [5, 16] (fun v5 v16 wr => ∃ (i o : Nat), v5 = zI o ∧ v16 = zI i ∧ i ≤ n ∧ scan (opZ zs) err (n - i) i o = scan (opZ zs) err n 0 0 ∧ (∀ j, wr.cell? ⟨bm, j, none⟩ = #[zI m0, zI m1, zI m2, zI m3, zI m4][j]?) ∧ Below bm w wr ∧ bm < wr.heap.size ∧ o ≤ 16)
    (fun _ v16 _ => n - (intOf v16).toNat)
  case atStart => exact ⟨0, 0, rfl, rfl, Nat.zero_le _, rfl, b1, by rw [← hbm]; exact B1, hz1, Nat.zero_le _⟩
  case round =>
    clear b1 B1 hz1
    obtain ⟨i, o, rfl, rfl, hin, hsc, hcm, B, hsz, ho16⟩ := hrel
    by_cases hlt : i < n
    · have hltI : (i : Int) < (n : Int) := by omega
      obtain ⟨_, k2, _⟩ := HE.out i hlt
      rw [scan_step hlt] at hsc
      rcases (hr.below (by rw [hbm]; exact B)) with h0 | ⟨g, rfl, hg, hcell⟩
      · omega
      · obtain ⟨z0, h0⟩ : ∃ z, zs.getD (i * 9) 0 = z := ⟨_, rfl⟩
        have x0 : wr.cell? ⟨g, i * 9, none⟩ = some (zI z0) := by rw [hcell _ (by omega)]; exact congrArg _ (congrArg _ h0)
        obtain ⟨z1, h1⟩ : ∃ z, zs.getD (i * 9 + 1) 0 = z := ⟨_, rfl⟩
        have x1 : wr.cell? ⟨g, i * 9 + 1, none⟩ = some (zI z1) := by rw [hcell _ (by omega)]; exact congrArg _ (congrArg _ h1)
        obtain ⟨z2, h2⟩ : ∃ z, zs.getD (i * 9 + 2) 0 = z := ⟨_, rfl⟩
        have x2 : wr.cell? ⟨g, i * 9 + 2, none⟩ = some (zI z2) := by rw [hcell _ (by omega)]; exact congrArg _ (congrArg _ h2)
        obtain ⟨z3, h3⟩ : ∃ z, zs.getD (i * 9 + 3) 0 = z := ⟨_, rfl⟩
        have x3 : wr.cell? ⟨g, i * 9 + 3, none⟩ = some (zI z3) := by rw [hcell _ (by omega)]; exact congrArg _ (congrArg _ h3)
        obtain ⟨z4, h4⟩ : ∃ z, zs.getD (i * 9 + 4) 0 = z := ⟨_, rfl⟩
        have x4 : wr.cell? ⟨g, i * 9 + 4, none⟩ = some (zI z4) := by rw [hcell _ (by omega)]; exact congrArg _ (congrArg _ h4)
        obtain ⟨z5, h5⟩ : ∃ z, zs.getD (i * 9 + 5) 0 = z := ⟨_, rfl⟩
        have x5 : wr.cell? ⟨g, i * 9 + 5, none⟩ = some (zI z5) := by rw [hcell _ (by omega)]; exact congrArg _ (congrArg _ h5)
        obtain ⟨z6, h6⟩ : ∃ z, zs.getD (i * 9 + 6) 0 = z := ⟨_, rfl⟩
        have x6 : wr.cell? ⟨g, i * 9 + 6, none⟩ = some (zI z6) := by rw [hcell _ (by omega)]; exact congrArg _ (congrArg _ h6)
        obtain ⟨z7, h7⟩ : ∃ z, zs.getD (i * 9 + 7) 0 = z := ⟨_, rfl⟩
        have x7 : wr.cell? ⟨g, i * 9 + 7, none⟩ = some (zI z7) := by rw [hcell _ (by omega)]; exact congrArg _ (congrArg _ h7)
        obtain ⟨z8, h8⟩ : ∃ z, zs.getD (i * 9 + 8) 0 = z := ⟨_, rfl⟩
        have x8 : wr.cell? ⟨g, i * 9 + 8, none⟩ = some (zI z8) := by rw [hcell _ (by omega)]; exact congrArg _ (congrArg _ h8)
        unfold rowV at k2
        rw [h0, h1, h2, h3, h4, h5, h6, h7, h8] at k2
        unfold opZ at hsc
        rw [h0] at hsc
        obtain ⟨e, he⟩ : ∃ e, err i = e := ⟨_, rfl⟩
        rw [he] at k2 hsc
        obtain ⟨X, hX⟩ : ∃ X, wr.heap.size = X := ⟨_, rfl⟩
        have K2 : Hid _ := k2
        replace hsc := hidI hsc
        replace B := hidI B
        clear hcell h0 h1 h2 h3 h4 h5 h6 h7 h8 he k2
        have dm : ∀ cs e, ∀ j, (wr.alloc (.cells cs e)).cell? ⟨bm, j, none⟩ = #[zI m0, zI m1, zI m2, zI m3, zI m4][j]? := fun cs e j => by rw [(below_alloc wr _).cell (by exact hsz)]; exact hcm j
        go_wp2_with fail
        have y0 : ∀ cs, cs = #[zI z0, zI z1, zI z2, zI z3, zI z4, zI z5, zI z6, zI z7, zI z8] → (wr.alloc (.cells cs 29)).cell? ⟨X, 0, none⟩ = some (zI z0) := fun cs h => by
          rw [below_row cs 29 hX, h]; rfl
        refine (K2.out _).mono ?_
        rintro en w2 ⟨rfl, B2⟩
        have hX2 : X + 1 ≤ w2.heap.size := by have := B2.size; simp only [World.alloc, Array.size_push] at this; omega
        have BB := B.out.trans (((below_alloc wr _).mono (by omega)).trans (B2.mono (by simp only [World.alloc, Array.size_push]; omega)))
        have y2 : w2.cell? ⟨X, 0, none⟩ = some (zI z0) := by rw [B2.cell (by show X < _; simp only [World.alloc, Array.size_push]; omega)]; exact y0 _ rfl
        have m2 : ∀ j, w2.cell? ⟨bm, j, none⟩ = #[zI m0, zI m1, zI m2, zI m3, zI m4][j]? := fun j => by rw [B2.cell (by show bm < _; simp only [World.alloc, Array.size_push]; omega)]; exact dm _ _ j
        replace BB := hidI BB
        clear B2 y0 dm x0 x1 x2 x3 x4 x5 x6 x7 x8 hcm K2
        by_cases he : e = 0
        · have heb : (e == 0) = false ∨ e = 0 := .inr he
          subst he
          replace hsc := hsc.out
          simp only [ne_eq, not_true_eq_false, if_false] at hsc
          by_cases h4 : z0 = 4
          · subst h4
            simp only [if_true] at hsc
            by_cases ho : o = 0
            · subst ho
              simp only [if_true] at hsc
              have FIN := ans_inl hsc
              clear hsc
              go_wp2_with fail
              go_ret
              exact ⟨by rw [FIN.out]; rfl, by rw [hbm]; exact BB.out⟩
            · have hob : ((o : Int) == 0) = false := by simp [ho]
              have hoI : ¬ (o : Int) = 0 := by omega
              rw [if_neg ho] at hsc
              replace hsc := hidI hsc
              go_wp2_with fail
              go_roundw
              case rel => exact ⟨i + 1, o - 1, by go_num, by go_num, by omega, hsc.out, m2, BB.out, by omega, by omega⟩
              case measure => simp [intOf]; omega
          · have h4b : (z0 == 4) = false := by simp [h4]
            rw [if_neg h4] at hsc
            by_cases h3 : z0 = 3
            · subst h3
              simp only [if_true] at hsc
              by_cases ho : o = 16
              · subst ho
                simp only [Nat.le_refl, if_true] at hsc
                have FIN := ans_inl hsc
                clear hsc
                go_wp2_with fail
                go_ret
                exact ⟨by rw [FIN.out]; rfl, by rw [hbm]; exact BB.out⟩
              · have hob : ((o : Int) == 16) = false := by simp; omega
                have hoI : ¬ (o : Int) = 16 := by omega
                rw [if_neg (by omega : ¬ 16 ≤ o)] at hsc
                replace hsc := hidI hsc
                go_wp2_with fail
                go_roundw
                case rel => exact ⟨i + 1, o + 1, by go_num, by go_num, by omega, hsc.out, m2, BB.out, by omega, by omega⟩
                case measure => simp [intOf]; omega
            · have h3b : (z0 == 3) = false := by simp [h3]
              rw [if_neg h3] at hsc
              replace hsc := hidI hsc
              go_wp2_with fail
              go_roundw
              case rel => exact ⟨i + 1, o, by go_num, by go_num, by omega, hsc.out, m2, BB.out, by omega, by omega⟩
              case measure => simp [intOf]; omega
        · have heb : (e == 0) = false := by simp [he]
          have FIN : Hid (ansZ zs n err = e) := by
            have h := hsc.out
            rw [if_pos he] at h
            exact ans_inl h
          clear hsc
          go_wp2_with fail
          go_ret
          exact ⟨by rw [FIN.out]; rfl, by rw [hbm]; exact BB.out⟩
    · obtain rfl : i = n := by omega
      have hltI : ¬ (i : Int) < (i : Int) := by omega
      rw [Nat.sub_self] at hsc
      simp only [scan] at hsc
      have hop : opZ zs = fun i => zs.getD (i * 9) 0 := rfl
      by_cases ho : 0 < o
      · have hoI : 0 < (o : Int) := by omega
        have FIN : Hid (ansZ zs i err = 7) := by show _ = _; unfold ansZ; rw [← hsc]; simp [ho]
        replace B := hidI B
        clear hsc hcm
        go_wp2_with fail
        go_ret
        exact ⟨by rw [FIN.out]; rfl, by first | exact B.out | (rw [hbm]; exact B.out)⟩
      · obtain rfl : o = 0 := by omega
        obtain ⟨c, e, Bk, he, _⟩ := scan_blk (n := i) (op := opZ zs) (M := mZ zs) (err := err) (fun j hj h0 h3 => (HE.out j hj).2.2 h3 h0) i 0 0 (by omega) hsc.symm
        obtain rfl := he rfl
        have hex := executed_c (w := wr) (cap := cap) (hr.below (by rw [hbm]; exact B)) hn e 0 c e (by omega) Bk
        obtain ⟨t1, t2⟩ := tl_facts Bk
        obtain ⟨y, hy⟩ : ∃ y, min c SX = y := ⟨_, rfl⟩
        rw [hy] at hex t1
        have FIN : Hid (ansZ zs e err = if 40000000 < y then 2 else 0) := by
          show _ = _
          unfold ansZ
          rw [← hsc]
          simp only [Nat.lt_irrefl, if_false]
          rw [← t1]
          unfold SX
          by_cases g : 40000000 < (tl (opZ zs) (mZ zs) e 0 [1]).sum
          · rw [if_pos g, if_pos (by omega)]
          · rw [if_neg g, if_neg (by omega)]
        replace B := hidI B
        clear hsc hcm t1 t2 Bk hy
        go_wp2_with fail
        refine hex.mono ?_
        rintro en w2 ⟨rfl, rfl⟩
        clear hex
        by_cases hy : 40000000 < y
        · have hyI : (40000000 : Int) < (y : Int) := by omega
          rw [if_pos hy] at FIN
          go_wp2_with fail
          go_ret
          exact ⟨by rw [FIN.out]; rfl, by first | exact B.out | (rw [hbm]; exact B.out)⟩
        · have hyI : ¬ (40000000 : Int) < (y : Int) := by omega
          rw [if_neg hy] at FIN
          go_wp2_with fail
          go_ret
          exact ⟨by rw [FIN.out]; rfl, by first | exact B.out | (rw [hbm]; exact B.out)⟩
end Go.Proofs.Yteabbkagekdehaa
end
section
/- The program's Check: the errors one by one, then the loops, then the number of executed instructions. -/
set_option linter.unusedVariables false
set_option linter.unusedSimpArgs false
set_option maxRecDepth 100000
namespace Go.Proofs.Yteabbkagekdehaa
open Go.AE Go.RowKit Go.IntWalk
theorem rowis_below {w w' : World} {B b : Nat} {cs : Array Value} (h : ∀ j, w.cell? ⟨b, j, none⟩ = cs[j]?) (H : Below B w w') (hb : b < B) : ∀ j, w'.cell? ⟨b, j, none⟩ = cs[j]? := fun j => by
  rw [H.cell (by exact hb)]; exact h j
theorem tl_le {op M : Nat → Int} : ∀ (r i : Nat) (st : List Nat), (∀ t ∈ st, t ≤ SX) → ∀ x ∈ tl op M r i st, x ≤ SX := by
  intro r
  induction r with
  | zero => intro i st h x hx; simp [tl] at hx
  | succ r ih =>
    intro i st h x hx
    cases st with
    | nil => simp [tl] at hx
    | cons t st =>
      simp only [tl] at hx
      rcases List.mem_cons.1 hx with rfl | hx
      · exact h _ (by simp)
      · split at hx
        · exact ih _ _ (fun u hu => by
            rcases List.mem_cons.1 hu with rfl | hu
            · exact Nat.min_le_right _ _
            · exact h u hu) x hx
        · split at hx
          · exact ih _ _ (fun u hu => h u (by simp [hu])) x hx
          · exact ih _ _ h x hx
theorem take_sum_le : ∀ (l : List Nat) (j : Nat), (l.take j).sum ≤ l.sum
  | [], j => by simp
  | x :: l, 0 => by simp
  | x :: l, j + 1 => by
    simp only [List.take_succ_cons, List.sum_cons]
    have := take_sum_le l j
    omega
theorem take_succ_sum (l : List Nat) (j : Nat) (h : j < l.length) : (l.take (j + 1)).sum = (l.take j).sum + l.getD j 0 := by
  rw [List.take_add_one, List.getElem?_eq_getElem h, List.getD_eq_getElem?_getD, List.getElem?_eq_getElem h, List.sum_append]
  simp
/-- every instruction is right -/
theorem scan_ok {op : Nat → Int} {err : Nat → Int} {n : Nat} : ∀ (r i o : Nat) {o' : Nat}, i + r = n → scan op err r i o = .inr o' → ∀ j, i ≤ j → j < n → err j = 0
  | 0, i, o, o', hi, h, j, h1, h2 => by omega
  | r + 1, i, o, o', hi, h, j, h1, h2 => by
    simp only [scan] at h
    by_cases he : err i = 0
    · simp only [he, ne_eq, not_true_eq_false, if_false] at h
      by_cases hj : j = i
      · rw [hj]; exact he
      · split at h
        · split at h
          · cases h
          · exact scan_ok r (i + 1) _ (by omega) h j (by omega) h2
        · split at h
          · split at h
            · cases h
            · exact scan_ok r (i + 1) _ (by omega) h j (by omega) h2
          · exact scan_ok r (i + 1) _ (by omega) h j (by omega) h2
    · simp [he] at h
theorem scan_M {op M : Nat → Int} {err : Nat → Int} {n o' : Nat} (h : scan op err n 0 0 = .inr o') (hM : ∀ j, j < n → err j = 0 → op j = 3 → 0 ≤ M j ∧ M j ≤ 1000000) : ∀ j, j < n → op j = 3 → 0 ≤ M j ∧ M j ≤ 1000000 :=
  fun j hj h3 => hM j hj (scan_ok n 0 0 (by omega) h j (Nat.zero_le _) hj) h3
set_option maxHeartbeats 4000000 in
theorem check_c {w : World} {a : Option Addr} {n cap : Nat} {zs : List Int} (hr : RowZ w a n zs) (hn : n ≤ 100000) {m0 m1 m2 m3 m4 : Int} {err : Nat → Int} (h25 : Says 25 [mV m0 m1 m2 m3 m4] (zI 0)) (hE : ErrAt (mV m0 m1 m2 m3 m4) zs n err) :
    Calls Try.prog 13 #[mV m0 m1 m2 m3 m4, .slice a n cap] w fun en w' => en = .returned (zI (ansZ zs n err)) ∧ Below w.heap.size w w' := by
  unfold mV at *
  obtain ⟨bm, hbm⟩ : ∃ bm, w.heap.size = bm := ⟨_, rfl⟩
  have hnL : ¬ (400000 : Int) < (n : Int) := by omega
  have HE : Hid _ := hE
  have H25 : Hid _ := h25
  clear hE h25
  go_enter Try.func13, Try.ntmps13
  go_wp2_with fail
  have b1 := below_row (w := w) #[zI m0, zI m1, zI m2, zI m3, zI m4] 36 hbm
  refine (H25.out _).mono ?_
  rintro en w1 ⟨rfl, B1⟩
  have hz0 : (w.alloc (.cells #[zI m0, zI m1, zI m2, zI m3, zI m4] 36)).heap.size = bm + 1 := by simp only [World.alloc, Array.size_push]; omega
  have hz1 : bm < w1.heap.size := by have := B1.size; omega
  have c1 := rowis_below b1 B1 (by omega)
  have B01 := (below_alloc w _).trans (B1.mono (by omega))
  clear hz0 b1 B1
  obtain ⟨bc, hbc⟩ : ∃ bc, w1.heap.size = bc := ⟨_, rfl⟩
  replace B01 := hidI B01
  go_wp2_with fail
  have b2 := below_row (w := w1) #[zI m0, zI m1, zI m2, zI m3, zI m4] 75 hbc
  have B2 := B01.out.trans ((below_alloc w1 (.cells #[zI m0, zI m1, zI m2, zI m3, zI m4] 75)).mono (by omega))
  have hz2 : bc < (w1.alloc (.cells #[zI m0, zI m1, zI m2, zI m3, zI m4] 75)).heap.size := by simp only [World.alloc, Array.size_push]; omega
  rw [hbm] at B2
  rw [hbc] at hz1
  try rw [hbc]
  obtain ⟨w2, hw2⟩ : ∃ w2, w1.alloc (.cells #[zI m0, zI m1, zI m2, zI m3, zI m4] 75) = w2 := ⟨_, rfl⟩
  rw [hw2] at b2 B2 hz2
  try rw [hw2]
  clear hw2 c1 B01 H25
  go_loopw [7, 27] (fun v7 v27 wr => ∃ (i o : Nat), v7 = zI o ∧ v27 = zI i ∧ i ≤ n ∧ scan (opZ zs) err (n - i) i o = scan (opZ zs) err n 0 0 ∧ (∀ j, wr.cell? ⟨bc, j, none⟩ = #[zI m0, zI m1, zI m2, zI m3, zI m4][j]?) ∧ Below bm w wr ∧ bc < wr.heap.size ∧ o ≤ 16)
    (fun _ v27 _ => n - (intOf v27).toNat)
  case atStart => exact ⟨0, 0, rfl, rfl, Nat.zero_le _, rfl, b2, B2, hz2, Nat.zero_le _⟩
  case round =>
    clear b2 B2 hz2 hbc
    obtain ⟨i, o, rfl, rfl, hin, hsc, hcm, B, hsz, ho16⟩ := hrel
    by_cases hlt : i < n
    · have hltI : (i : Int) < (n : Int) := by omega
      obtain ⟨⟨fv, b1, ⟨s, k, fd, fa, fb, fc, fn, fm, fp, rfl⟩, s44, hcase⟩, _, _⟩ := HE.out i hlt
      rw [scan_step hlt] at hsc
      rcases (hr.below (by rw [hbm]; exact B)) with h0 | ⟨g, rfl, hg, hcell⟩
      · omega
      · obtain ⟨z0, h0⟩ : ∃ z, zs.getD (i * 9) 0 = z := ⟨_, rfl⟩
        have x0 : wr.cell? ⟨g, i * 9, none⟩ = some (zI z0) := by rw [hcell _ (by omega)]; exact congrArg _ (congrArg _ h0)
        obtain ⟨z1, h1⟩ : ∃ z, zs.getD (i * 9 + 1) 0 = z := ⟨_, rfl⟩
        have x1 : wr.cell? ⟨g, i * 9 + 1, none⟩ = some (zI z1) := by rw [hcell _ (by omega)]; exact congrArg _ (congrArg _ h1)
        obtain ⟨z2, h2⟩ : ∃ z, zs.getD (i * 9 + 2) 0 = z := ⟨_, rfl⟩
        have x2 : wr.cell? ⟨g, i * 9 + 2, none⟩ = some (zI z2) := by rw [hcell _ (by omega)]; exact congrArg _ (congrArg _ h2)
        obtain ⟨z3, h3⟩ : ∃ z, zs.getD (i * 9 + 3) 0 = z := ⟨_, rfl⟩
        have x3 : wr.cell? ⟨g, i * 9 + 3, none⟩ = some (zI z3) := by rw [hcell _ (by omega)]; exact congrArg _ (congrArg _ h3)
        obtain ⟨z4, h4⟩ : ∃ z, zs.getD (i * 9 + 4) 0 = z := ⟨_, rfl⟩
        have x4 : wr.cell? ⟨g, i * 9 + 4, none⟩ = some (zI z4) := by rw [hcell _ (by omega)]; exact congrArg _ (congrArg _ h4)
        obtain ⟨z5, h5⟩ : ∃ z, zs.getD (i * 9 + 5) 0 = z := ⟨_, rfl⟩
        have x5 : wr.cell? ⟨g, i * 9 + 5, none⟩ = some (zI z5) := by rw [hcell _ (by omega)]; exact congrArg _ (congrArg _ h5)
        obtain ⟨z6, h6⟩ : ∃ z, zs.getD (i * 9 + 6) 0 = z := ⟨_, rfl⟩
        have x6 : wr.cell? ⟨g, i * 9 + 6, none⟩ = some (zI z6) := by rw [hcell _ (by omega)]; exact congrArg _ (congrArg _ h6)
        obtain ⟨z7, h7⟩ : ∃ z, zs.getD (i * 9 + 7) 0 = z := ⟨_, rfl⟩
        have x7 : wr.cell? ⟨g, i * 9 + 7, none⟩ = some (zI z7) := by rw [hcell _ (by omega)]; exact congrArg _ (congrArg _ h7)
        obtain ⟨z8, h8⟩ : ∃ z, zs.getD (i * 9 + 8) 0 = z := ⟨_, rfl⟩
        have x8 : wr.cell? ⟨g, i * 9 + 8, none⟩ = some (zI z8) := by rw [hcell _ (by omega)]; exact congrArg _ (congrArg _ h8)
        unfold rowV at s44 hcase
        rw [h0, h1, h2, h3, h4, h5, h6, h7, h8] at s44 hcase
        unfold opZ at hsc
        rw [h0] at hsc
        obtain ⟨e, he⟩ : ∃ e, err i = e := ⟨_, rfl⟩
        rw [he] at hcase hsc
        obtain ⟨X, hX⟩ : ∃ X, wr.heap.size = X := ⟨_, rfl⟩
        have hbX : bc < X := by omega
        replace s44 := hidI s44
        replace hcase := hidI hcase
        replace hsc := hidI hsc
        replace B := hidI B
        clear hcell h0 h1 h2 h3 h4 h5 h6 h7 h8 he
        go_wp2_with fail
        have y1 := below_row (w := wr) #[zI z0, zI z1, zI z2, zI z3, zI z4, zI z5, zI z6, zI z7, zI z8] 29 hX
        refine (s44.out _).mono ?_
        rintro en w2 ⟨rfl, B2⟩
        have y2 := rowis_below y1 B2 (by simp only [World.alloc, Array.size_push]; omega)
        have q2 := rowis_below hcm ((below_alloc wr (.cells #[zI z0, zI z1, zI z2, zI z3, zI z4, zI z5, zI z6, zI z7, zI z8] 29)).trans (B2.mono (by simp only [World.alloc, Array.size_push]; omega))) hsz
        have B02 := B.out.trans (((below_alloc wr (.cells #[zI z0, zI z1, zI z2, zI z3, zI z4, zI z5, zI z6, zI z7, zI z8] 29)).mono (by omega)).trans (B2.mono (by simp only [World.alloc, Array.size_push]; omega)))
        have hz2 : X < w2.heap.size := by have := B2.size; simp only [World.alloc, Array.size_push] at this; omega
        replace B02 := hidI B02
        clear B2 y1 x0 x1 x2 x3 x4 x5 x6 x7 x8 hcm s44 hX B
        obtain ⟨Y, hY⟩ : ∃ Y, w2.heap.size = Y := ⟨_, rfl⟩
        have y2a : ∀ cs e, ∀ j, (w2.alloc (.cells cs e)).cell? ⟨X, j, none⟩ = #[zI z0, zI z1, zI z2, zI z3, zI z4, zI z5, zI z6, zI z7, zI z8][j]? := fun cs e => rowis_below y2 (below_alloc w2 _) hz2
        have hbc2 : bc < w2.heap.size := by omega
        have m2a : ∀ cs e, ∀ j, (w2.alloc (.cells cs e)).cell? ⟨bc, j, none⟩ = #[zI m0, zI m1, zI m2, zI m3, zI m4][j]? := fun cs e => rowis_below q2 (below_alloc w2 _) hbc2
        rcases hcase.out with ⟨rfl, rfl⟩ | ⟨rfl, b2, s45, hcase2⟩
        · have FIN : Hid (ansZ zs n err = 4) := by
            have h := hsc.out
            rw [if_pos (by decide)] at h
            exact ans_inl h
          clear hsc hcase
          go_wp2_with fail
          go_ret
          exact ⟨by rw [FIN.out]; rfl, by rw [hbm]; exact B02.out.trans ((below_alloc w2 _).mono (by omega))⟩
        · replace s45 := hidI s45
          replace hcase2 := hidI hcase2
          clear hcase
          go_wp2_with fail
          have f2 := below_row (w := w2) #[Value.string s, Value.bool k, zI fd, zI fa, zI fb, zI fc, zI fn, zI fm, Value.bool fp] 77 hY
          refine (s45.out _).mono ?_
          rintro en w3 ⟨rfl, B3⟩
          have x3 := rowis_below (y2a #[Value.string s, Value.bool k, zI fd, zI fa, zI fb, zI fc, zI fn, zI fm, Value.bool fp] 77) B3 (by simp only [World.alloc, Array.size_push]; omega)
          have q3 := rowis_below (m2a #[Value.string s, Value.bool k, zI fd, zI fa, zI fb, zI fc, zI fn, zI fm, Value.bool fp] 77) B3 (by simp only [World.alloc, Array.size_push]; omega)
          have f3 := rowis_below f2 B3 (by simp only [World.alloc, Array.size_push]; omega)
          have B03 := B02.out.trans (((below_alloc w2 (.cells #[Value.string s, Value.bool k, zI fd, zI fa, zI fb, zI fc, zI fn, zI fm, Value.bool fp] 77)).mono (by omega)).trans (B3.mono (by simp only [World.alloc, Array.size_push]; omega)))
          have hz3 : Y < w3.heap.size := by have := B3.size; simp only [World.alloc, Array.size_push] at this; omega
          have hXY : X < Y := by omega
          have hbY : bc < Y := by omega
          replace B03 := hidI B03
          clear B3 y2a m2a f2 s45 hY y2 q2 B02 hz2 hbc2
          rcases hcase2.out with ⟨rfl, rfl⟩ | ⟨rfl, b3, s46, hcase3⟩
          · have FIN : Hid (ansZ zs n err = 3) := by
              have h := hsc.out
              rw [if_pos (by decide)] at h
              exact ans_inl h
            clear hsc hcase2
            go_wp2_with fail
            go_ret
            exact ⟨by rw [FIN.out]; rfl, by rw [hbm]; exact B03.out⟩
          · replace s46 := hidI s46
            replace hcase3 := hidI hcase3
            clear hcase2
            go_wp2_with fail
            refine (s46.out _).mono ?_
            rintro en w4 ⟨rfl, B4⟩
            have x4 := rowis_below x3 B4 (by omega)
            have q4 := rowis_below q3 B4 (by omega)
            have B04 := B03.out.trans (B4.mono (by omega))
            have hz4 : bc < w4.heap.size := by have := B4.size; omega
            replace B04 := hidI B04
            clear B4 x3 q3 f3 s46 hz3 B03
            rcases hcase3.out with ⟨rfl, rfl⟩ | ⟨rfl, rfl⟩
            · replace hsc := hsc.out
              simp only [ne_eq, not_true_eq_false, if_false] at hsc
              clear hcase3
              by_cases h4 : z0 = 4
              · subst h4
                simp only [if_true] at hsc
                by_cases ho : o = 0
                · subst ho
                  simp only [if_true] at hsc
                  have FIN := ans_inl hsc
                  clear hsc
                  go_wp2_with fail
                  go_ret
                  exact ⟨by rw [FIN.out]; rfl, by rw [hbm]; exact B04.out⟩
                · have hob : ((o : Int) == 0) = false := by simp [ho]
                  have hoI : ¬ (o : Int) = 0 := by omega
                  rw [if_neg ho] at hsc
                  replace hsc := hidI hsc
                  go_wp2_with fail
                  go_roundw
                  case rel => exact ⟨i + 1, o - 1, by go_num, by go_num, by omega, hsc.out, q4, B04.out, by omega, by omega⟩
                  case measure => simp [intOf]; omega
              · have h4b : (z0 == 4) = false := by simp [h4]
                rw [if_neg h4] at hsc
                by_cases h3 : z0 = 3
                · subst h3
                  simp only [if_true] at hsc
                  by_cases ho : 16 ≤ o
                  · obtain rfl : o = 16 := by omega
                    simp only [Nat.le_refl, if_true] at hsc
                    have FIN := ans_inl hsc
                    clear hsc
                    go_wp2_with fail
                    go_ret
                    exact ⟨by rw [FIN.out]; rfl, by rw [hbm]; exact B04.out⟩
                  · have hoI : ¬ (16 : Int) ≤ (o : Int) := by omega
                    rw [if_neg ho] at hsc
                    replace hsc := hidI hsc
                    go_wp2_with fail
                    go_roundw
                    case rel => exact ⟨i + 1, o + 1, by go_num, by go_num, by omega, hsc.out, q4, B04.out, by omega, by omega⟩
                    case measure => simp [intOf]; omega
                · have h3b : (z0 == 3) = false := by simp [h3]
                  rw [if_neg h3] at hsc
                  replace hsc := hidI hsc
                  go_wp2_with fail
                  go_roundw
                  case rel => exact ⟨i + 1, o, by go_num, by go_num, by omega, hsc.out, q4, B04.out, by omega, by omega⟩
                  case measure => simp [intOf]; omega
            · have FIN : Hid (ansZ zs n err = 9) := by
                have h := hsc.out
                rw [if_pos (by decide)] at h
                exact ans_inl h
              clear hsc hcase3
              go_wp2_with fail
              go_ret
              exact ⟨by rw [FIN.out]; rfl, by rw [hbm]; exact B04.out⟩
    · obtain rfl : i = n := by omega
      have hltI : ¬ (i : Int) < (i : Int) := by omega
      rw [Nat.sub_self] at hsc
      simp only [scan] at hsc
      by_cases ho : 0 < o
      · have hoI : 0 < (o : Int) := by omega
        have FIN : Hid (ansZ zs i err = 7) := by show _ = _; unfold ansZ; rw [← hsc]; simp [ho]
        replace B := hidI B
        clear hsc hcm
        go_wp2_with fail
        go_ret
        exact ⟨by rw [FIN.out]; rfl, by first | exact B.out | (rw [hbm]; exact B.out)⟩
      · obtain rfl : o = 0 := by omega
        have hM : ∀ j, j < i → err j = 0 → opZ zs j = 3 → 0 ≤ mZ zs j ∧ mZ zs j ≤ 1000000 := fun j hj h0 h3 => (HE.out j hj).2.2 h3 h0
        obtain ⟨c, e, Bk, he, _⟩ := scan_blk (n := i) (op := opZ zs) (M := mZ zs) (err := err) hM i 0 0 (by omega) hsc.symm
        obtain rfl := he rfl
        obtain ⟨t1, t2⟩ := tl_facts Bk
        obtain ⟨TL, hTL⟩ : ∃ TL, tl (opZ zs) (mZ zs) e 0 [1] = TL := ⟨_, rfl⟩
        have hle : ∀ x ∈ TL, x ≤ SX := by rw [← hTL]; exact tl_le _ _ _ (by simp [SX])
        rw [hTL] at t2
        have FIN : Hid (ansZ zs e err = if 40000000 < TL.sum then 2 else 0) := by
          show _ = _
          unfold ansZ
          rw [← hsc, hTL]
          simp only [Nat.lt_irrefl, if_false]
        have hMM : ∀ j, j < e → opZ zs j = 3 → 0 ≤ mZ zs j ∧ mZ zs j ≤ 1000000 := scan_M hsc.symm hM
        have htu := turns_c (w := wr) (cap := cap) (hr.below (by rw [hbm]; exact B)) hn hTL t2 hMM
        replace B := hidI B
        replace hle := hidI hle
        clear hsc hcm t1 Bk hM hMM HE hTL
        go_wp2_with fail
        refine htu.mono ?_
        rintro en w2 ⟨rfl, hrow, B2⟩
        clear htu
        obtain ⟨bo, hbo⟩ : ∃ bo, wr.heap.size = bo := ⟨_, rfl⟩
        have B3 : Hid (Below bm w w2) := B.out.trans (B2.mono (by omega))
        rw [hbo] at hrow
        rw [hbo]
        clear B2 hbo B
        go_wp2_with fail
        go_loopw [12, 81] (fun v12 v81 wr => ∃ (j tot : Nat), v12 = zI tot ∧ v81 = zI j ∧ tot = (TL.take j).sum ∧ tot ≤ 40000000 ∧ j ≤ e ∧ wr = w2)
          (fun _ v81 _ => e - (intOf v81).toNat)
        case atStart => exact ⟨0, 0, rfl, rfl, by simp, by omega, Nat.zero_le _, rfl⟩
        case round =>
          obtain ⟨j, tot, rfl, rfl, htot, ht4, hje, rfl⟩ := hrel
          by_cases hlt : j < e
          · have hltI : (j : Int) < (e : Int) := by omega
            have hc : wr.cell? ⟨bo, j, none⟩ = some (zI ((TL.getD j 0 : Nat) : Int)) := (hrow j hlt).1
            obtain ⟨y, hy⟩ : ∃ y, TL.getD j 0 = y := ⟨_, rfl⟩
            rw [hy] at hc
            have hnx := take_succ_sum TL j (by omega)
            rw [← htot, hy] at hnx
            have hy1 : y ≤ 40000001 := by
              have h := hle.out (TL.getD j 0) (by rw [List.getD_eq_getElem?_getD, List.getElem?_eq_getElem (by omega), Option.getD_some]; exact List.getElem_mem _)
              rw [hy] at h
              exact h
            replace hrow := hidI hrow
            replace hnx := hidI hnx
            clear htot hy
            by_cases hbig : 40000000 < tot + y
            · have hbI : (40000000 : Int) < (tot : Int) + (y : Int) := by omega
              rw [if_pos (by have := take_sum_le TL (j + 1); have := hnx.out; omega)] at FIN
              go_wp2_with fail
              go_ret
              exact ⟨by rw [FIN.out]; rfl, by first | exact B3.out | (rw [hbm]; exact B3.out)⟩
            · have hbI : ¬ (40000000 : Int) < (tot : Int) + (y : Int) := by omega
              go_wp2_with fail
              go_roundw
              case rel => exact ⟨j + 1, tot + y, by go_num, by go_num, hnx.out.symm, by omega, by omega, by trivial⟩
              case measure => simp [intOf]; omega
          · have hltI : ¬ (j : Int) < (e : Int) := by omega
            have : (TL.take j).sum = TL.sum := by rw [List.take_of_length_le (by omega)]
            rw [if_neg (by omega)] at FIN
            clear htot this hrow
            go_wp2_with fail
            go_ret
            exact ⟨by rw [FIN.out]; rfl, by first | exact B3.out | (rw [hbm]; exact B3.out)⟩
end Go.Proofs.Yteabbkagekdehaa
end
section
/- Check and ChipFault answer the same. -/
set_option linter.unusedVariables false
set_option linter.unusedSimpArgs false
set_option maxRecDepth 100000
namespace Go.Proofs.Yteabbkagekdehaa
open Go.AE Go.RowKit Go.IntWalk
/-- a wrong machine -/
theorem check_m {w : World} {sl : Value} {m0 m1 m2 m3 m4 e : Int} (he : e ≠ 0) (h25 : Says 25 [mV m0 m1 m2 m3 m4] (zI e)) :
    Calls Try.prog 13 #[mV m0 m1 m2 m3 m4, sl] w fun en w' => en = .returned (zI e) ∧ Below w.heap.size w w' := by
  unfold mV at *
  have H25 : Hid _ := h25
  have heb : (e == 0) = false := by simp [he]
  clear h25
  go_enter Try.func13, Try.ntmps13
  go_wp2_with fail
  refine (H25.out _).mono ?_
  rintro en w1 ⟨rfl, B1⟩
  have B01 : Hid (Below w.heap.size w w1) := (below_alloc w _).trans (B1.mono (by simp only [World.alloc, Array.size_push]; omega))
  clear B1
  go_wp2_with fail
  go_ret
  exact ⟨rfl, B01.out⟩
theorem fault_m {w : World} {sl : Value} {m0 m1 m2 m3 m4 e : Int} (he : e ≠ 0) (h26 : Says 26 [mV m0 m1 m2 m3 m4] (zI e)) :
    Calls Try.prog 15 #[mV m0 m1 m2 m3 m4, sl] w fun en w' => en = .returned (zI e) ∧ Below w.heap.size w w' := by
  unfold mV at *
  have H26 : Hid _ := h26
  have heb : (e == 0) = false := by simp [he]
  clear h26
  go_enter Try.func15, Try.ntmps15
  go_wp2_with fail
  refine (H26.out _).mono ?_
  rintro en w1 ⟨rfl, B1⟩
  have B01 : Hid (Below w.heap.size w w1) := (below_alloc w _).trans (B1.mono (by simp only [World.alloc, Array.size_push]; omega))
  clear B1
  go_wp2_with fail
  go_ret
  exact ⟨rfl, B01.out⟩
theorem fault_c {w : World} {a : Option Addr} {n cap : Nat} {zs : List Int} (hr : RowZ w a n zs) (hn : n ≤ 100000) {m0 m1 m2 m3 m4 : Int} {err : Nat → Int} (h26 : Says 26 [mV m0 m1 m2 m3 m4] (zI 0)) (hE : ErrAt (mV m0 m1 m2 m3 m4) zs n err) :
    Calls Try.prog 15 #[mV m0 m1 m2 m3 m4, .slice a n cap] w fun en w' => en = .returned (zI (ansZ zs n err)) ∧ Below w.heap.size w w' := by
  have H26 : Hid _ := h26
  have HE : Hid _ := hE
  clear h26 hE
  unfold mV at H26 ⊢
  go_enter Try.func15, Try.ntmps15
  go_wp2_with fail
  have b1 := below_row (w := w) #[zI m0, zI m1, zI m2, zI m3, zI m4] 36 rfl
  refine (H26.out _).mono ?_
  rintro en w1 ⟨rfl, B1⟩
  have c1 := rowis_below b1 B1 (by simp only [World.alloc, Array.size_push]; omega)
  have B01 := (below_alloc w _).trans (B1.mono (by simp only [World.alloc, Array.size_push]; omega))
  have hc := codeFault_c (w := w1) (cap := cap) (hr.below B01) hn HE.out
  unfold mV at hc
  replace B01 := hidI B01
  clear B1 b1
  go_wp2_with fail
  refine hc.mono ?_
  rintro en w2 ⟨rfl, B2⟩
  have B02 : Hid (Below w.heap.size w w2) := B01.out.trans (B2.mono B01.out.size)
  clear hc B2 B01 c1
  go_wp2_with fail
  go_ret
  exact ⟨rfl, B02.out⟩
/-- the machine and the code are judged alike -/
theorem checks_all (m0 m1 m2 m3 m4 : Int) (zs : List Int) (n : Nat) (hn : n ≤ 100000) : ∃ eM E : Int, Says 25 [mV m0 m1 m2 m3 m4] (zI eM) ∧ Says 26 [mV m0 m1 m2 m3 m4] (zI eM) ∧
    (∀ w a cap, RowZ w a n zs → Calls Try.prog 13 #[mV m0 m1 m2 m3 m4, .slice a n cap] w fun en w' => en = .returned (zI E) ∧ Below w.heap.size w w') ∧
    (∀ w a cap, RowZ w a n zs → Calls Try.prog 15 #[mV m0 m1 m2 m3 m4, .slice a n cap] w fun en w' => en = .returned (zI E) ∧ Below w.heap.size w w') ∧
    (E = 0 → eM = 0 ∧ (∀ i, MachB (rhoI m0 m1 m2 m3 m4 zs i)) ∧ ∃ err, ErrAt (mV m0 m1 m2 m3 m4) zs n err ∧ ansZ zs n err = 0) := by
  obtain ⟨eM, h25, h26, h3, h4⟩ := mach_all (rhoI m0 m1 m2 m3 m4 zs 0)
  rw [rhoI_m] at h25 h26
  by_cases he : eM = 0
  · subst he
    have hb := h4 rfl
    have hb' : ∀ i, MachB (rhoI m0 m1 m2 m3 m4 zs i) := fun i => ⟨hb.m0, hb.m1, hb.m2, hb.m3, hb.m4⟩
    obtain ⟨err, hE⟩ := errs_all zs n hb'
    exact ⟨0, ansZ zs n err, h25, h26, fun w a cap hr => check_c hr hn h25 hE, fun w a cap hr => fault_c hr hn h26 hE, fun h => ⟨rfl, hb', err, hE, h⟩⟩
  · exact ⟨eM, eM, h25, h26, fun w a cap _ => check_m he h25, fun w a cap _ => fault_m he h26, fun h => absurd h he⟩
end Go.Proofs.Yteabbkagekdehaa
end
