/- Check and ChipFault answer the same. -/
import Derived.Test.YteabbkagekdehaaCk5
set_option linter.unusedVariables false
set_option linter.unusedSimpArgs false
set_option maxRecDepth 100000
namespace Go.Proofs.Yteabbkagekdehaa
open Go.AE Go.RowKit Go.IntWalk
/-- a wrong machine -/
theorem check_m {w : World} {sl : Value} {m0 m1 m2 m3 m4 e : Int} (he : e ≠ 0) (h25 : Says 25 [mV m0 m1 m2 m3 m4] (zI e)) :
    Calls Try.prog 13 #[mV m0 m1 m2 m3 m4, sl] w fun en w' => en = .returned (zI e) ∧ Below w.heap.size w w' := by
  unfold mV at *
  have H25 : Hid _ := h25
  have heb : (e == 0) = false := by simp [he]
  clear h25
  go_enter Try.func13, Try.ntmps13
  go_wp2_with fail
  refine (H25.out _).mono ?_
  rintro en w1 ⟨rfl, B1⟩
  have B01 : Hid (Below w.heap.size w w1) := (below_alloc w _).trans (B1.mono (by simp only [World.alloc, Array.size_push]; omega))
  clear B1
  go_wp2_with fail
  go_ret
  exact ⟨rfl, B01.out⟩
theorem fault_m {w : World} {sl : Value} {m0 m1 m2 m3 m4 e : Int} (he : e ≠ 0) (h26 : Says 26 [mV m0 m1 m2 m3 m4] (zI e)) :
    Calls Try.prog 15 #[mV m0 m1 m2 m3 m4, sl] w fun en w' => en = .returned (zI e) ∧ Below w.heap.size w w' := by
  unfold mV at *
  have H26 : Hid _ := h26
  have heb : (e == 0) = false := by simp [he]
  clear h26
  go_enter Try.func15, Try.ntmps15
  go_wp2_with fail
  refine (H26.out _).mono ?_
  rintro en w1 ⟨rfl, B1⟩
  have B01 : Hid (Below w.heap.size w w1) := (below_alloc w _).trans (B1.mono (by simp only [World.alloc, Array.size_push]; omega))
  clear B1
  go_wp2_with fail
  go_ret
  exact ⟨rfl, B01.out⟩
theorem fault_c {w : World} {a : Option Addr} {n cap : Nat} {zs : List Int} (hr : RowZ w a n zs) (hn : n ≤ 100000) {m0 m1 m2 m3 m4 : Int} {err : Nat → Int} (h26 : Says 26 [mV m0 m1 m2 m3 m4] (zI 0)) (hE : ErrAt (mV m0 m1 m2 m3 m4) zs n err) :
    Calls Try.prog 15 #[mV m0 m1 m2 m3 m4, .slice a n cap] w fun en w' => en = .returned (zI (ansZ zs n err)) ∧ Below w.heap.size w w' := by
  have H26 : Hid _ := h26
  have HE : Hid _ := hE
  clear h26 hE
  unfold mV at H26 ⊢
  go_enter Try.func15, Try.ntmps15
  go_wp2_with fail
  have b1 := below_row (w := w) #[zI m0, zI m1, zI m2, zI m3, zI m4] 36 rfl
  refine (H26.out _).mono ?_
  rintro en w1 ⟨rfl, B1⟩
  have c1 := rowis_below b1 B1 (by simp only [World.alloc, Array.size_push]; omega)
  have B01 := (below_alloc w _).trans (B1.mono (by simp only [World.alloc, Array.size_push]; omega))
  have hc := codeFault_c (w := w1) (cap := cap) (hr.below B01) hn HE.out
  unfold mV at hc
  replace B01 := hidI B01
  clear B1 b1
  go_wp2_with fail
  refine hc.mono ?_
  rintro en w2 ⟨rfl, B2⟩
  have B02 : Hid (Below w.heap.size w w2) := B01.out.trans (B2.mono B01.out.size)
  clear hc B2 B01 c1
  go_wp2_with fail
  go_ret
  exact ⟨rfl, B02.out⟩
/-- the machine and the code are judged alike -/
theorem checks_all (m0 m1 m2 m3 m4 : Int) (zs : List Int) (n : Nat) (hn : n ≤ 100000) : ∃ eM E : Int, Says 25 [mV m0 m1 m2 m3 m4] (zI eM) ∧ Says 26 [mV m0 m1 m2 m3 m4] (zI eM) ∧
    (∀ w a cap, RowZ w a n zs → Calls Try.prog 13 #[mV m0 m1 m2 m3 m4, .slice a n cap] w fun en w' => en = .returned (zI E) ∧ Below w.heap.size w w') ∧
    (∀ w a cap, RowZ w a n zs → Calls Try.prog 15 #[mV m0 m1 m2 m3 m4, .slice a n cap] w fun en w' => en = .returned (zI E) ∧ Below w.heap.size w w') ∧
    (E = 0 → eM = 0 ∧ (∀ i, MachB (rhoI m0 m1 m2 m3 m4 zs i)) ∧ ∃ err, ErrAt (mV m0 m1 m2 m3 m4) zs n err ∧ ansZ zs n err = 0) := by
  obtain ⟨eM, h25, h26, h3, h4⟩ := mach_all (rhoI m0 m1 m2 m3 m4 zs 0)
  rw [rhoI_m] at h25 h26
  by_cases he : eM = 0
  · subst he
    have hb := h4 rfl
    have hb' : ∀ i, MachB (rhoI m0 m1 m2 m3 m4 zs i) := fun i => ⟨hb.m0, hb.m1, hb.m2, hb.m3, hb.m4⟩
    obtain ⟨err, hE⟩ := errs_all zs n hb'
    exact ⟨0, ansZ zs n err, h25, h26, fun w a cap hr => check_c hr hn h25 hE, fun w a cap hr => fault_c hr hn h26 hE, fun h => ⟨rfl, hb', err, hE, h⟩⟩
  · exact ⟨eM, eM, h25, h26, fun w a cap _ => check_m he h25, fun w a cap _ => fault_m he h26, fun h => absurd h he⟩
end Go.Proofs.Yteabbkagekdehaa
