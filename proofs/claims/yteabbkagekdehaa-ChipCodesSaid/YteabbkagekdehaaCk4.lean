/- The document's CodeFault: the errors one by one, then the loops, then the number of executed instructions. -/
import Derived.Test.YteabbkagekdehaaCk3
import Derived.Test.YteabbkagekdehaaCi6
import Derived.Deep.Cut
set_option linter.unusedVariables false
set_option linter.unusedSimpArgs false
set_option maxRecDepth 100000
namespace Go.Proofs.Yteabbkagekdehaa
open Go.AE Go.RowKit Go.IntWalk
abbrev zI (n : Int) : Value := .int .i64 n
def mV (m0 m1 m2 m3 m4 : Int) : Value := .agg #[zI m0, zI m1, zI m2, zI m3, zI m4]
def rowV (zs : List Int) (i : Nat) : Value := .agg #[zI (zs.getD (i * 9) 0), zI (zs.getD (i * 9 + 1) 0), zI (zs.getD (i * 9 + 2) 0), zI (zs.getD (i * 9 + 3) 0), zI (zs.getD (i * 9 + 4) 0), zI (zs.getD (i * 9 + 5) 0), zI (zs.getD (i * 9 + 6) 0), zI (zs.getD (i * 9 + 7) 0), zI (zs.getD (i * 9 + 8) 0)]
def rhoI (m0 m1 m2 m3 m4 : Int) (zs : List Int) (i : Nat) (k : Nat) : Int :=
  [m0, m1, m2, m3, m4, zs.getD (i * 9) 0, zs.getD (i * 9 + 1) 0, zs.getD (i * 9 + 2) 0, zs.getD (i * 9 + 3) 0, zs.getD (i * 9 + 4) 0, zs.getD (i * 9 + 5) 0, zs.getD (i * 9 + 6) 0, zs.getD (i * 9 + 7) 0, zs.getD (i * 9 + 8) 0].getD k 0
theorem rhoI_m (m0 m1 m2 m3 m4 : Int) (zs : List Int) (i : Nat) : flatV (rhoI m0 m1 m2 m3 m4 zs i) mAV = mV m0 m1 m2 m3 m4 := by
  simp only [flatV, mAV, v, List.map_cons, List.map_nil, scV, Sy.ev]
  rfl
theorem rhoI_x (m0 m1 m2 m3 m4 : Int) (zs : List Int) (i : Nat) : flatV (rhoI m0 m1 m2 m3 m4 zs i) xAll = rowV zs i := by
  simp only [flatV, xAll, xAV, v, List.map_cons, List.map_nil, scV, Sy.ev]
  rfl
/-- what is said of every instruction -/
def ErrAt (m : Value) (zs : List Int) (n : Nat) (err : Nat → Int) : Prop := ∀ i, i < n → CodeOK m (rowV zs i) (err i) ∧ Says 78 [m, rowV zs i] (zI (err i)) ∧ (opZ zs i = 3 → err i = 0 → 0 ≤ mZ zs i ∧ mZ zs i ≤ 1000000)
theorem errs_all {m0 m1 m2 m3 m4 : Int} (zs : List Int) (n : Nat) (hb : ∀ i, MachB (rhoI m0 m1 m2 m3 m4 zs i)) : ∃ err, ErrAt (mV m0 m1 m2 m3 m4) zs n err := by
  have h : ∀ i, ∃ e : Int, CodeOK (mV m0 m1 m2 m3 m4) (rowV zs i) e ∧ Says 78 [mV m0 m1 m2 m3 m4, rowV zs i] (zI e) ∧ (opZ zs i = 3 → e = 0 → 0 ≤ mZ zs i ∧ mZ zs i ≤ 1000000) := fun i => by
    obtain ⟨e, h1, h2, h3⟩ := instr_all (hb i)
    rw [rhoI_m, rhoI_x] at h1 h2
    exact ⟨e, h1, h2, h3⟩
  exact ⟨fun i => (h i).choose, fun i _ => (h i).choose_spec⟩
/-- what Check and CodeFault answer -/
def ansZ (zs : List Int) (n : Nat) (err : Nat → Int) : Int := match scan (opZ zs) err n 0 0 with
  | .inl e => e
  | .inr o => if 0 < o then 7 else if 40000000 < (tl (opZ zs) (mZ zs) n 0 [1]).sum then 2 else 0
theorem ans_inl {zs : List Int} {n : Nat} {err : Nat → Int} {e : Int} (h : .inl e = scan (fun i => zs.getD (i * 9) 0) err n 0 0) : Hid (ansZ zs n err = e) := by
  show _ = _
  unfold ansZ
  rw [show opZ zs = fun i => zs.getD (i * 9) 0 from rfl, ← h]
theorem scan_step {op : Nat → Int} {err : Nat → Int} {n i o : Nat} (h : i < n) : scan op err (n - i) i o = if err i ≠ 0 then .inl (err i) else if op i = 4 then (if o = 0 then .inl 7 else scan op err (n - (i + 1)) (i + 1) (o - 1)) else if op i = 3 then (if 16 ≤ o then .inl 2 else scan op err (n - (i + 1)) (i + 1) (o + 1)) else scan op err (n - (i + 1)) (i + 1) o := by
  rw [show n - i = (n - (i + 1)) + 1 by omega]
  rfl
theorem tl_facts {n : Nat} {op M : Nat → Int} {c : Nat} (b : Blk n op M 0 c n) : min (tl op M n 0 [1]).sum SX = min c SX ∧ (tl op M n 0 [1]).length = n := by
  obtain ⟨pre, h1, h2, h3⟩ := tl_blk b 1 []
  rw [Nat.sub_self, Nat.sub_zero] at h1
  simp only [tl, List.append_nil] at h1
  rw [h1]
  refine ⟨by rw [h2, Nat.one_mul], by omega⟩
theorem below_row {w : World} {bm : Nat} (cs : Array Value) (e : TypeId) (h : w.heap.size = bm) : ∀ j, (w.alloc (.cells cs e)).cell? ⟨bm, j, none⟩ = cs[j]? := fun j => by
  subst h
  exact cell_of_row _ _ j _ e (0, 0) (heap_alloc_new w _)
set_option maxHeartbeats 2000000 in
theorem codeFault_c {w : World} {a : Option Addr} {n cap : Nat} {zs : List Int} (hr : RowZ w a n zs) (hn : n ≤ 100000) {m0 m1 m2 m3 m4 : Int} {err : Nat → Int} (hE : ErrAt (mV m0 m1 m2 m3 m4) zs n err) :
    Calls Try.prog 48 #[mV m0 m1 m2 m3 m4, .slice a n cap] w fun en w' => en = .returned (zI (ansZ zs n err)) ∧ Below w.heap.size w w' := by
  unfold mV at *
  obtain ⟨bm, hbm⟩ : ∃ bm, w.heap.size = bm := ⟨_, rfl⟩
  have hnL : ¬ (400000 : Int) < (n : Int) := by omega
  have HE : Hid _ := hE
  clear hE
  go_enter Try.func48, Try.ntmps48
  go_wp2_with fail
  have b1 := below_row (w := w) #[zI m0, zI m1, zI m2, zI m3, zI m4] 36 hbm
  have B1 := below_alloc w (.cells #[zI m0, zI m1, zI m2, zI m3, zI m4] 36)
  obtain ⟨w1, hw1⟩ : ∃ w1, w.alloc (.cells #[zI m0, zI m1, zI m2, zI m3, zI m4] 36) = w1 := ⟨_, rfl⟩
  have hz1 : bm < w1.heap.size := by rw [← hw1, ← hbm]; simp
  rw [hw1] at b1 B1
  rw [hw1]
  clear hw1
  go_loopw [5, 16] (fun v5 v16 wr => ∃ (i o : Nat), v5 = zI o ∧ v16 = zI i ∧ i ≤ n ∧ scan (opZ zs) err (n - i) i o = scan (opZ zs) err n 0 0 ∧ (∀ j, wr.cell? ⟨bm, j, none⟩ = #[zI m0, zI m1, zI m2, zI m3, zI m4][j]?) ∧ Below bm w wr ∧ bm < wr.heap.size ∧ o ≤ 16)
    (fun _ v16 _ => n - (intOf v16).toNat)
  case atStart => exact ⟨0, 0, rfl, rfl, Nat.zero_le _, rfl, b1, by rw [← hbm]; exact B1, hz1, Nat.zero_le _⟩
  case round =>
    clear b1 B1 hz1
    obtain ⟨i, o, rfl, rfl, hin, hsc, hcm, B, hsz, ho16⟩ := hrel
    by_cases hlt : i < n
    · have hltI : (i : Int) < (n : Int) := by omega
      obtain ⟨_, k2, _⟩ := HE.out i hlt
      rw [scan_step hlt] at hsc
      rcases (hr.below (by rw [hbm]; exact B)) with h0 | ⟨g, rfl, hg, hcell⟩
      · omega
      · obtain ⟨z0, h0⟩ : ∃ z, zs.getD (i * 9) 0 = z := ⟨_, rfl⟩
        have x0 : wr.cell? ⟨g, i * 9, none⟩ = some (zI z0) := by rw [hcell _ (by omega)]; exact congrArg _ (congrArg _ h0)
        obtain ⟨z1, h1⟩ : ∃ z, zs.getD (i * 9 + 1) 0 = z := ⟨_, rfl⟩
        have x1 : wr.cell? ⟨g, i * 9 + 1, none⟩ = some (zI z1) := by rw [hcell _ (by omega)]; exact congrArg _ (congrArg _ h1)
        obtain ⟨z2, h2⟩ : ∃ z, zs.getD (i * 9 + 2) 0 = z := ⟨_, rfl⟩
        have x2 : wr.cell? ⟨g, i * 9 + 2, none⟩ = some (zI z2) := by rw [hcell _ (by omega)]; exact congrArg _ (congrArg _ h2)
        obtain ⟨z3, h3⟩ : ∃ z, zs.getD (i * 9 + 3) 0 = z := ⟨_, rfl⟩
        have x3 : wr.cell? ⟨g, i * 9 + 3, none⟩ = some (zI z3) := by rw [hcell _ (by omega)]; exact congrArg _ (congrArg _ h3)
        obtain ⟨z4, h4⟩ : ∃ z, zs.getD (i * 9 + 4) 0 = z := ⟨_, rfl⟩
        have x4 : wr.cell? ⟨g, i * 9 + 4, none⟩ = some (zI z4) := by rw [hcell _ (by omega)]; exact congrArg _ (congrArg _ h4)
        obtain ⟨z5, h5⟩ : ∃ z, zs.getD (i * 9 + 5) 0 = z := ⟨_, rfl⟩
        have x5 : wr.cell? ⟨g, i * 9 + 5, none⟩ = some (zI z5) := by rw [hcell _ (by omega)]; exact congrArg _ (congrArg _ h5)
        obtain ⟨z6, h6⟩ : ∃ z, zs.getD (i * 9 + 6) 0 = z := ⟨_, rfl⟩
        have x6 : wr.cell? ⟨g, i * 9 + 6, none⟩ = some (zI z6) := by rw [hcell _ (by omega)]; exact congrArg _ (congrArg _ h6)
        obtain ⟨z7, h7⟩ : ∃ z, zs.getD (i * 9 + 7) 0 = z := ⟨_, rfl⟩
        have x7 : wr.cell? ⟨g, i * 9 + 7, none⟩ = some (zI z7) := by rw [hcell _ (by omega)]; exact congrArg _ (congrArg _ h7)
        obtain ⟨z8, h8⟩ : ∃ z, zs.getD (i * 9 + 8) 0 = z := ⟨_, rfl⟩
        have x8 : wr.cell? ⟨g, i * 9 + 8, none⟩ = some (zI z8) := by rw [hcell _ (by omega)]; exact congrArg _ (congrArg _ h8)
        unfold rowV at k2
        rw [h0, h1, h2, h3, h4, h5, h6, h7, h8] at k2
        unfold opZ at hsc
        rw [h0] at hsc
        obtain ⟨e, he⟩ : ∃ e, err i = e := ⟨_, rfl⟩
        rw [he] at k2 hsc
        obtain ⟨X, hX⟩ : ∃ X, wr.heap.size = X := ⟨_, rfl⟩
        have K2 : Hid _ := k2
        replace hsc := hidI hsc
        replace B := hidI B
        clear hcell h0 h1 h2 h3 h4 h5 h6 h7 h8 he k2
        have dm : ∀ cs e, ∀ j, (wr.alloc (.cells cs e)).cell? ⟨bm, j, none⟩ = #[zI m0, zI m1, zI m2, zI m3, zI m4][j]? := fun cs e j => by rw [(below_alloc wr _).cell (by exact hsz)]; exact hcm j
        go_wp2_with fail
        have y0 : ∀ cs, cs = #[zI z0, zI z1, zI z2, zI z3, zI z4, zI z5, zI z6, zI z7, zI z8] → (wr.alloc (.cells cs 29)).cell? ⟨X, 0, none⟩ = some (zI z0) := fun cs h => by
          rw [below_row cs 29 hX, h]; rfl
        refine (K2.out _).mono ?_
        rintro en w2 ⟨rfl, B2⟩
        have hX2 : X + 1 ≤ w2.heap.size := by have := B2.size; simp only [World.alloc, Array.size_push] at this; omega
        have BB := B.out.trans (((below_alloc wr _).mono (by omega)).trans (B2.mono (by simp only [World.alloc, Array.size_push]; omega)))
        have y2 : w2.cell? ⟨X, 0, none⟩ = some (zI z0) := by rw [B2.cell (by show X < _; simp only [World.alloc, Array.size_push]; omega)]; exact y0 _ rfl
        have m2 : ∀ j, w2.cell? ⟨bm, j, none⟩ = #[zI m0, zI m1, zI m2, zI m3, zI m4][j]? := fun j => by rw [B2.cell (by show bm < _; simp only [World.alloc, Array.size_push]; omega)]; exact dm _ _ j
        replace BB := hidI BB
        clear B2 y0 dm x0 x1 x2 x3 x4 x5 x6 x7 x8 hcm K2
        by_cases he : e = 0
        · have heb : (e == 0) = false ∨ e = 0 := .inr he
          subst he
          replace hsc := hsc.out
          simp only [ne_eq, not_true_eq_false, if_false] at hsc
          by_cases h4 : z0 = 4
          · subst h4
            simp only [if_true] at hsc
            by_cases ho : o = 0
            · subst ho
              simp only [if_true] at hsc
              have FIN := ans_inl hsc
              clear hsc
              go_wp2_with fail
              go_ret
              exact ⟨by rw [FIN.out]; rfl, by rw [hbm]; exact BB.out⟩
            · have hob : ((o : Int) == 0) = false := by simp [ho]
              have hoI : ¬ (o : Int) = 0 := by omega
              rw [if_neg ho] at hsc
              replace hsc := hidI hsc
              go_wp2_with fail
              go_roundw
              case rel => exact ⟨i + 1, o - 1, by go_num, by go_num, by omega, hsc.out, m2, BB.out, by omega, by omega⟩
              case measure => simp [intOf]; omega
          · have h4b : (z0 == 4) = false := by simp [h4]
            rw [if_neg h4] at hsc
            by_cases h3 : z0 = 3
            · subst h3
              simp only [if_true] at hsc
              by_cases ho : o = 16
              · subst ho
                simp only [Nat.le_refl, if_true] at hsc
                have FIN := ans_inl hsc
                clear hsc
                go_wp2_with fail
                go_ret
                exact ⟨by rw [FIN.out]; rfl, by rw [hbm]; exact BB.out⟩
              · have hob : ((o : Int) == 16) = false := by simp; omega
                have hoI : ¬ (o : Int) = 16 := by omega
                rw [if_neg (by omega : ¬ 16 ≤ o)] at hsc
                replace hsc := hidI hsc
                go_wp2_with fail
                go_roundw
                case rel => exact ⟨i + 1, o + 1, by go_num, by go_num, by omega, hsc.out, m2, BB.out, by omega, by omega⟩
                case measure => simp [intOf]; omega
            · have h3b : (z0 == 3) = false := by simp [h3]
              rw [if_neg h3] at hsc
              replace hsc := hidI hsc
              go_wp2_with fail
              go_roundw
              case rel => exact ⟨i + 1, o, by go_num, by go_num, by omega, hsc.out, m2, BB.out, by omega, by omega⟩
              case measure => simp [intOf]; omega
        · have heb : (e == 0) = false := by simp [he]
          have FIN : Hid (ansZ zs n err = e) := by
            have h := hsc.out
            rw [if_pos he] at h
            exact ans_inl h
          clear hsc
          go_wp2_with fail
          go_ret
          exact ⟨by rw [FIN.out]; rfl, by rw [hbm]; exact BB.out⟩
    · obtain rfl : i = n := by omega
      have hltI : ¬ (i : Int) < (i : Int) := by omega
      rw [Nat.sub_self] at hsc
      simp only [scan] at hsc
      have hop : opZ zs = fun i => zs.getD (i * 9) 0 := rfl
      by_cases ho : 0 < o
      · have hoI : 0 < (o : Int) := by omega
        have FIN : Hid (ansZ zs i err = 7) := by show _ = _; unfold ansZ; rw [← hsc]; simp [ho]
        replace B := hidI B
        clear hsc hcm
        go_wp2_with fail
        go_ret
        exact ⟨by rw [FIN.out]; rfl, by first | exact B.out | (rw [hbm]; exact B.out)⟩
      · obtain rfl : o = 0 := by omega
        obtain ⟨c, e, Bk, he, _⟩ := scan_blk (n := i) (op := opZ zs) (M := mZ zs) (err := err) (fun j hj h0 h3 => (HE.out j hj).2.2 h3 h0) i 0 0 (by omega) hsc.symm
        obtain rfl := he rfl
        have hex := executed_c (w := wr) (cap := cap) (hr.below (by rw [hbm]; exact B)) hn e 0 c e (by omega) Bk
        obtain ⟨t1, t2⟩ := tl_facts Bk
        obtain ⟨y, hy⟩ : ∃ y, min c SX = y := ⟨_, rfl⟩
        rw [hy] at hex t1
        have FIN : Hid (ansZ zs e err = if 40000000 < y then 2 else 0) := by
          show _ = _
          unfold ansZ
          rw [← hsc]
          simp only [Nat.lt_irrefl, if_false]
          rw [← t1]
          unfold SX
          by_cases g : 40000000 < (tl (opZ zs) (mZ zs) e 0 [1]).sum
          · rw [if_pos g, if_pos (by omega)]
          · rw [if_neg g, if_neg (by omega)]
        replace B := hidI B
        clear hsc hcm t1 t2 Bk hy
        go_wp2_with fail
        refine hex.mono ?_
        rintro en w2 ⟨rfl, rfl⟩
        clear hex
        by_cases hy : 40000000 < y
        · have hyI : (40000000 : Int) < (y : Int) := by omega
          rw [if_pos hy] at FIN
          go_wp2_with fail
          go_ret
          exact ⟨by rw [FIN.out]; rfl, by first | exact B.out | (rw [hbm]; exact B.out)⟩
        · have hyI : ¬ (40000000 : Int) < (y : Int) := by omega
          rw [if_neg hy] at FIN
          go_wp2_with fail
          go_ret
          exact ⟨by rw [FIN.out]; rfl, by first | exact B.out | (rw [hbm]; exact B.out)⟩
end Go.Proofs.Yteabbkagekdehaa
