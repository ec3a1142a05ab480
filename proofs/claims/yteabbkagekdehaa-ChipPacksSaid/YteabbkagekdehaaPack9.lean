/- chip.Pack: what it gives. -/
import Derived.Test.YteabbkagekdehaaPack8
import Derived.OwnWalk
set_option linter.unusedVariables false
set_option linter.unusedSimpArgs false
namespace Go.Proofs.Yteabbkagekdehaa
open Go.AE Go.RowKit Go.IntWalk Go.PackLaw
def PPost (n m : Nat) (S PA PB : Nat → Int) (K C : Int) (w w' : World) (gv : Value) (c err : Int) : Prop :=
  (Cls n m S PA PB K C err ∧ err ≠ 0 ∧ gv = .slice none 0 0 ∧ c = 0) ∨
  (Cls n m S PA PB K C 0 ∧ ∃ (l : Int) (BL : List Nat), Res (PPof m PA PB) S C K.toNat n [] (fun _ => 0) K.toNat (-1) l [] BL ∧
    ((l < 0 ∧ gv = .slice none 0 0 ∧ c = 0 ∧ err = 16) ∨ (0 ≤ l ∧ c = l ∧ err = 0 ∧ w'.ownsRow w.heap.size 3 1 gv n (ints BL))))
theorem M_snoc (PP : List Pr) (x : Pr) (i k : Nat) : M (PP ++ [x]) i k = M PP i k + if PackLaw.hi x = i ∧ PackLaw.lo x = k then 1 else 0 := by
  by_cases h : PackLaw.hi x = i ∧ PackLaw.lo x = k
  · rw [if_pos h]
    simp [M, List.filter_append, h.1, h.2]
  · rw [if_neg h]
    have : (decide (PackLaw.hi x = i) && decide (PackLaw.lo x = k)) = false := by simpa using h
    simp [M, List.filter_append, this]
/-- the packer's block as it is laid -/
def PBlk (arr : Array Value) (aS : Option Addr) (n capS gU K : Nat) (C : Int) (PP : List Pr) : Prop :=
  arr.size = 42 ∧ arr[0]? = some (.slice aS n capS) ∧ (∀ i k, i < 6 → k < 6 → arr[1 + i * 6 + k]? = some (.int .i64 (M PP i k))) ∧ arr[37]? = some (.slice none 0 0) ∧ arr[38]? = some (.slice none 0 0) ∧ arr[39]? = some (.slice (some ⟨gU, 0, none⟩) K K) ∧
    arr[40]? = some (.int .i64 C) ∧ arr[41]? = some (.int .i64 (-1))
theorem PBlk.step {arr : Array Value} {aS : Option Addr} {n capS gU K : Nat} {C : Int} {PP : List Pr} (h : PBlk arr aS n capS gU K C PP) (x : Pr) (h6 : PackLaw.hi x < 6) : PBlk (arr.setIfInBounds (1 + PackLaw.hi x * 6 + PackLaw.lo x) (.int .i64 ((M PP (PackLaw.hi x) (PackLaw.lo x) : Int) + 1))) aS n capS gU K C (PP ++ [x]) := by
  obtain ⟨h1, h2, h3, h4, h5, h6', h7, h8⟩ := h
  have hlo : PackLaw.lo x < 6 := by unfold PackLaw.lo PackLaw.hi at *; omega
  have o : ∀ j, j ≠ 1 + PackLaw.hi x * 6 + PackLaw.lo x → (arr.setIfInBounds (1 + PackLaw.hi x * 6 + PackLaw.lo x) (.int .i64 ((M PP (PackLaw.hi x) (PackLaw.lo x) : Int) + 1)))[j]? = arr[j]? := fun j hj => by rw [Array.getElem?_setIfInBounds]; rw [if_neg (fun e => hj e.symm)]
  refine ⟨by simpa using h1, by rw [o 0 (by omega)]; exact h2, fun i k hi hk => ?_, by rw [o 37 (by omega)]; exact h4, by rw [o 38 (by omega)]; exact h5, by rw [o 39 (by omega)]; exact h6', by rw [o 40 (by omega)]; exact h7, by rw [o 41 (by omega)]; exact h8⟩
  rw [M_snoc]
  by_cases e : PackLaw.hi x = i ∧ PackLaw.lo x = k
  · rw [if_pos e, Array.getElem?_setIfInBounds, ← e.1, ← e.2, if_pos rfl, if_pos (by omega)]
    simp
  · rw [if_neg e, o _ (by omega)]
    simpa using h3 i k hi hk
set_option maxHeartbeats 2000000 in
set_option maxRecDepth 10000 in
theorem pack_c {n m : Nat} {aS aP : Option Addr} {capS capP : Nat} {S PA PB : Nat → Int} {K C : Int} {w : World} (h : Lie n m aS aP S PA PB w) (hn : n ≤ 1000) (hm : m ≤ 1000) :
    Calls Try.prog 17 #[.slice aS n capS, .slice aP m capP, .int .i64 K, .int .i64 C] w fun e w' => ∃ (gv : Value) (c err : Int), e = .returned (.tuple #[gv, .int .i64 c, .int .i64 err]) ∧ Go.RowKit.Below w.heap.size w w' ∧ PPost n m S PA PB K C w w' gv c err := by
  have H : Hid _ := h
  clear h
  by_cases h6 : 6 < n
  · have h6z : (6 : Int) < (n : Int) := by omega
    go_enter Try.func17, Try.ntmps17
    go_wp2_with fail
    go_ret3
    exact ⟨.slice none 0 0, 0, 2, rfl, Below.refl _ _, .inl ⟨.large h6, by decide, rfl, rfl⟩⟩
  have h6z : ¬ (6 : Int) < (n : Int) := by omega
  have hw1 := within_c K 1 8 w
  have hw2 := within_c C 1 4096 w
  by_cases hr : K < 1 ∨ 8 < K ∨ C < 1 ∨ 4096 < C
  · have HR : Hid (K < 1 ∨ 8 < K ∨ C < 1 ∨ 4096 < C) := hr
    by_cases hk : 1 ≤ K ∧ K ≤ 8
    · have e1 : (decide (1 ≤ K) && decide (K ≤ 8)) = true := by simp [hk.1, hk.2]
      have e2 : (decide (1 ≤ C) && decide (C ≤ 4096)) = false := by
        rw [Bool.and_eq_false_iff, decide_eq_false_iff_not, decide_eq_false_iff_not]; omega
      rw [e1] at hw1
      rw [e2] at hw2
      clear hr hk e1 e2
      go_enter Try.func17, Try.ntmps17
      go_wp2_with fail
      refine hw1.mono ?_
      rintro e w1 ⟨rfl, rfl⟩
      go_wp2_with fail
      refine hw2.mono ?_
      rintro e w1 ⟨rfl, rfl⟩
      go_wp2_with fail
      go_ret3
      exact ⟨.slice none 0 0, 0, 9, rfl, Below.refl _ _, .inl ⟨.range (by omega) HR.out, by decide, rfl, rfl⟩⟩
    · have e1 : (decide (1 ≤ K) && decide (K ≤ 8)) = false := by
        rw [Bool.and_eq_false_iff, decide_eq_false_iff_not, decide_eq_false_iff_not]; omega
      rw [e1] at hw1
      clear hr hk e1 hw2
      go_enter Try.func17, Try.ntmps17
      go_wp2_with fail
      refine hw1.mono ?_
      rintro e w1 ⟨rfl, rfl⟩
      go_wp2_with fail
      go_ret3
      exact ⟨.slice none 0 0, 0, 9, rfl, Below.refl _ _, .inl ⟨.range (by omega) HR.out, by decide, rfl, rfl⟩⟩
  have HR : Hid (1 ≤ K ∧ K ≤ 8 ∧ 1 ≤ C ∧ C ≤ 4096) := (by omega : 1 ≤ K ∧ K ≤ 8 ∧ 1 ≤ C ∧ C ≤ 4096)
  have e1 : (decide (1 ≤ K) && decide (K ≤ 8)) = true := by simp; omega
  have e2 : (decide (1 ≤ C) && decide (C ≤ 4096)) = true := by simp; omega
  rw [e1] at hw1
  rw [e2] at hw2
  clear hr e1 e2
  have hany := any51_c (a := aS) (cap := capS) (m := n) (ord := S) (p := fun t => !(decide (1 ≤ S t) && decide (S t ≤ 4096))) (w := w) (by omega) (fun t ht => by
    obtain ⟨g, h1, h2, h3⟩ := H.out.s t ht
    exact ⟨g, h1, h3⟩) (fun t ht q => (bad51_c (S t) (w.drewN q)).mono fun e w' ⟨h1, h2⟩ => ⟨h1, 0, h2⟩)
  go_enter Try.func17, Try.ntmps17
  go_wp2_with fail
  refine hw1.mono ?_
  rintro e w1 ⟨rfl, rfl⟩
  clear hw1
  go_wp2_with fail
  refine hw2.mono ?_
  rintro e w1 ⟨rfl, rfl⟩
  clear hw2
  go_wp2_with fail
  refine hany.mono ?_
  rintro e w2 ⟨b, rfl, hb, q, rfl⟩
  clear hany
  have B1 : Go.RowKit.Below w1.heap.size w1 (w1.drewN q) := ⟨rfl, rfl, rfl, Nat.le_refl _, fun _ _ => rfl⟩
  generalize w1.drewN q = w2 at B1 ⊢
  rcases hb with ⟨rfl, hall⟩ | ⟨rfl, t, ht, hbt⟩
  · have hsz : Hid (∀ t, t < n → ¬ BadS S t) := fun t ht hb => by
      have h1 := hall t ht
      simp only [Bool.not_eq_false', Bool.and_eq_true, decide_eq_true_eq] at h1
      unfold BadS at hb
      omega
    clear hall
    go_wp2_with fail
    go_loopw [34] (fun i wr => ∃ k : Nat, i = .int .i64 k ∧ k ≤ m ∧ Hid (∀ j, j < k → ¬ BadP n PA PB j) ∧ Go.RowKit.Below w1.heap.size w1 wr) (fun i _ => m - (intOf i).toNat)
    case atStart => exact ⟨0, rfl, by omega, fun j h => by omega, B1⟩
    case round =>
      clear B1
      obtain ⟨k, rfl, hk, hno, B2⟩ := hrel
      by_cases hlt : k < m
      · have hz : (k : Int) < (m : Int) := by omega
        obtain ⟨g, rfl, hgw, d1, d2⟩ := H.out.p k hlt
        have c1 : wr.cell? ⟨g, k * 2, none⟩ = some (.int .i64 (PA k)) := by rw [B2.cell (by exact hgw)]; exact d1
        have c2 : wr.cell? ⟨g, k * 2 + 1, none⟩ = some (.int .i64 (PB k)) := by rw [B2.cell (by exact hgw)]; exact d2
        have nxt : Hid (∀ cs e, Go.RowKit.Below w1.heap.size w1 (wr.alloc (.cells cs e))) := fun cs e => B2.alloc B2.size _
        clear d1 d2
        have fin : Hid (∀ w', Go.RowKit.Below w1.heap.size w1 w' → BadP n PA PB k → ∃ (gv : Value) (c err : Int), Ending.returned (.tuple #[.slice none 0 0, .int .i64 0, .int .i64 1]) = .returned (.tuple #[gv, .int .i64 c, .int .i64 err]) ∧ Go.RowKit.Below w1.heap.size w1 w' ∧ PPost n m S PA PB K C w1 w' gv c err) := fun w' b hb =>
          ⟨.slice none 0 0, 0, 1, rfl, b, .inl ⟨.arg (by omega) HR.out hsz.out k hlt hb, by decide, rfl, rfl⟩⟩
        by_cases ha : 0 ≤ PA k ∧ PA k ≤ (n : Int) - 1
        · have ea : (decide (0 ≤ PA k) && decide (PA k ≤ (n : Int) - 1)) = true := by simp; omega
          have hwa := fun W => within_c (PA k) 0 ((n : Int) - 1) W
          simp only [ea] at hwa
          by_cases hbb : 0 ≤ PB k ∧ PB k ≤ (n : Int) - 1
          · have eb : (decide (0 ≤ PB k) && decide (PB k ≤ (n : Int) - 1)) = true := by simp; omega
            have hwb := fun W => within_c (PB k) 0 ((n : Int) - 1) W
            simp only [eb] at hwb
            by_cases he : PA k = PB k
            · have hez : (PA k == PB k) = true := by simp [he]
              have HE : Hid (PA k = PB k) := he
              have HA : Hid _ := hwa
              have HB : Hid _ := hwb
              clear ha hbb he ea eb hwa hwb
              go_wp2_with fail
              refine (HA.out _).mono ?_
              rintro e w4 ⟨rfl, rfl⟩
              go_wp2_with fail
              refine (HB.out _).mono ?_
              rintro e w4 ⟨rfl, rfl⟩
              go_wp2_with fail
              go_ret3
              exact fin.out _ (nxt.out _ _) (.inr (.inr (.inr (.inr HE.out))))
            · have hez : (PA k == PB k) = false := by simp [he]
              have HE : Hid (¬ PA k = PB k) := he
              have HNB : Hid (¬ BadP n PA PB k) := fun hb => by unfold BadP at hb; omega
              have HA : Hid _ := hwa
              have HB : Hid _ := hwb
              clear ha hbb he ea eb hwa hwb
              go_wp2_with fail
              refine (HA.out _).mono ?_
              rintro e w4 ⟨rfl, rfl⟩
              go_wp2_with fail
              refine (HB.out _).mono ?_
              rintro e w4 ⟨rfl, rfl⟩
              go_wp2_with fail
              go_roundw
              case rel => exact ⟨k + 1, by go_num, by omega, fun j hj => by
                by_cases e : j = k
                · rw [e]; exact HNB.out
                · exact hno.out j (by omega), nxt.out _ _⟩
              case measure => simp [intOf]; omega
          · have eb : (decide (0 ≤ PB k) && decide (PB k ≤ (n : Int) - 1)) = false := by
              rw [Bool.and_eq_false_iff, decide_eq_false_iff_not, decide_eq_false_iff_not]; omega
            have hwb := fun W => within_c (PB k) 0 ((n : Int) - 1) W
            simp only [eb] at hwb
            have hnb : BadP n PA PB k := by unfold BadP; omega
            have HNB : Hid (BadP n PA PB k) := hnb
            clear hnb
            have HA : Hid _ := hwa
            have HB : Hid _ := hwb
            clear ha hbb ea eb hwa hwb
            go_wp2_with fail
            refine (HA.out _).mono ?_
            rintro e w4 ⟨rfl, rfl⟩
            go_wp2_with fail
            refine (HB.out _).mono ?_
            rintro e w4 ⟨rfl, rfl⟩
            go_wp2_with fail
            go_ret3
            exact fin.out _ (nxt.out _ _) HNB.out
        · have ea : (decide (0 ≤ PA k) && decide (PA k ≤ (n : Int) - 1)) = false := by
            rw [Bool.and_eq_false_iff, decide_eq_false_iff_not, decide_eq_false_iff_not]; omega
          have hwa := fun W => within_c (PA k) 0 ((n : Int) - 1) W
          simp only [ea] at hwa
          have hnb : BadP n PA PB k := by unfold BadP; omega
          have HNB : Hid (BadP n PA PB k) := hnb
          clear hnb
          have HA : Hid _ := hwa
          clear ha ea hwa
          go_wp2_with fail
          refine (HA.out _).mono ?_
          rintro e w4 ⟨rfl, rfl⟩
          go_wp2_with fail
          go_ret3
          exact fin.out _ (nxt.out _ _) HNB.out
      · have hz : ¬ (k : Int) < (m : Int) := by omega
        have hkm : m = k := by omega
        subst hkm
        obtain ⟨r1, r2, r3, r4⟩ := HR.out
        obtain ⟨Kn, hKn⟩ : ∃ Kn : Nat, K = Kn := ⟨K.toNat, by omega⟩
        have HKN : Hid (K = (Kn : Int)) := hKn
        have hm2 := make_int Kn (by omega)
        rw [hKn]
        obtain ⟨gU, hgU⟩ : ∃ gU, wr.heap.size = gU := ⟨_, rfl⟩
        have hb0 := B2.size
        have hgW : w1.heap.size ≤ gU := by omega
        clear r1 r2 r3 r4
        go_wp2_with fail
        go_loopw [70] (fun i wr2 => ∃ (j : Nat) (arr : Array Value), i = .int .i64 j ∧ j ≤ m ∧ Hid (wr2.heap[gU + 1]? = some (.cells arr 90 (0, 0))) ∧ Hid (PBlk arr aS n capS gU Kn C ((PPof m PA PB).take j)) ∧ Hid (RowAt gU Kn (fun _ => 0) wr2) ∧ gU + 2 ≤ wr2.heap.size ∧ Go.RowKit.Below w1.heap.size w1 wr2)
          (fun i _ => m - (intOf i).toNat)
        case atStart =>
          refine ⟨0, _, rfl, by omega, by rw [← (show (wr.alloc (.cells (madeCells #[.int .i64 0] Kn) 3)).heap.size = gU + 1 by simp [hgU])]; exact heap_alloc_new _ _, ?_, ?_, by simp [hgU], (B2.alloc B2.size _).alloc (by simp; omega) _⟩
          · refine ⟨rfl, rfl, fun i k hi hk => ?_, rfl, rfl, rfl, rfl, rfl⟩
            have hi' : i = 0 ∨ i = 1 ∨ i = 2 ∨ i = 3 ∨ i = 4 ∨ i = 5 := by omega
            have hk' : k = 0 ∨ k = 1 ∨ k = 2 ∨ k = 3 ∨ k = 4 ∨ k = 5 := by omega
            rcases hi' with rfl | rfl | rfl | rfl | rfl | rfl <;> rcases hk' with rfl | rfl | rfl | rfl | rfl | rfl <;> rfl
          · refine made_row ?_
            rw [Below.heap_alloc _ _ _ (by simp; omega), ← hgU]
            exact heap_alloc_new wr _
        case round =>
          clear B2 hb0 hgU hm2
          obtain ⟨j, arr, rfl, hj, hblk, hP, hrow, hsz2, B2⟩ := hrel
          by_cases hlt : j < m
          · have hz : (j : Int) < (m : Int) := by omega
            obtain ⟨g, rfl, hgw, d1, d2⟩ := H.out.p j hlt
            have hnb := hno.out j hlt
            have hget := PPof_get (PA := PA) (PB := PB) hlt
            have htk : (PPof m PA PB).take (j + 1) = (PPof m PA PB).take j ++ [((PA j).toNat, (PB j).toNat)] := by rw [take_snoc _ (by rw [PPof_len]; exact hlt), hget]
            obtain ⟨xa, hxa⟩ : ∃ xa : Nat, PA j = xa := ⟨(PA j).toNat, by unfold BadP at hnb; omega⟩
            obtain ⟨xb, hxb⟩ : ∃ xb : Nat, PB j = xb := ⟨(PB j).toNat, by unfold BadP at hnb; omega⟩
            rw [hxa, hxb] at htk
            simp only [Int.toNat_natCast] at htk
            have c1 : wr.cell? ⟨g, j * 2, none⟩ = some (.int .i64 xa) := by rw [B2.cell (by exact hgw), d1, hxa]
            have c2 : wr.cell? ⟨g, j * 2 + 1, none⟩ = some (.int .i64 xb) := by rw [B2.cell (by exact hgw), d2, hxb]
            obtain ⟨hi, hhi⟩ : ∃ hi, PackLaw.hi (xa, xb) = hi := ⟨_, rfl⟩
            obtain ⟨lo, hlo⟩ : ∃ lo, PackLaw.lo (xa, xb) = lo := ⟨_, rfl⟩
            have hmx : max (xa : Int) (xb : Int) = (hi : Int) := by unfold PackLaw.hi at hhi; simp only at hhi; omega
            have hmn : min (xa : Int) (xb : Int) = (lo : Int) := by unfold PackLaw.lo at hlo; simp only at hlo; omega
            have hhn : hi < n := by unfold BadP at hnb; unfold PackLaw.hi at hhi; simp only at hhi; omega
            have hln : lo < n := by unfold PackLaw.lo at hlo; unfold PackLaw.hi at hhi; simp only at hhi hlo; omega
            have hst := hP.out.step (xa, xb) (by rw [hhi]; omega)
            rw [hhi, hlo, ← htk] at hst
            have HST : Hid _ := hst
            have ePM := hP.out.2.2.1 hi lo (by omega) (by omega)
            obtain ⟨Mv, hMv⟩ : ∃ Mv, M ((PPof m PA PB).take j) hi lo = Mv := ⟨_, rfl⟩
            rw [hMv] at ePM HST
            have hMl : Mv ≤ m := by rw [← hMv]; have h1 := M_le ((PPof m PA PB).take j) hi lo; have h2 := List.length_take_le j (PPof m PA PB); omega
            obtain ⟨Y, hY⟩ : ∃ Y, wr.heap.size = Y := ⟨_, rfl⟩
            obtain ⟨wq, hwq⟩ : ∃ wq, wr.alloc (.cells #[.int .i64 xa, .int .i64 xb] 83) = wq := ⟨_, rfl⟩
            have hbq : wq.heap[gU + 1]? = some (.cells arr 90 (0, 0)) := by rw [← hwq, Below.heap_alloc _ _ _ (by omega)]; exact hblk
            have f1 : wq.cell? ⟨Y, 0, none⟩ = some (.int .i64 xa) := by rw [← hwq, ← hY, cell_of_row _ wr.heap.size 0 _ 83 (0, 0) (heap_alloc_new wr _)]; rfl
            have f2 : wq.cell? ⟨Y, 1, none⟩ = some (.int .i64 xb) := by rw [← hwq, ← hY, cell_of_row _ wr.heap.size 1 _ 83 (0, 0) (heap_alloc_new wr _)]; rfl
            have f3 : wq.cell? ⟨gU + 1, 1 + hi * 6 + lo, none⟩ = some (.int .i64 Mv) := by rw [cell_of_row wq (gU + 1) _ _ 90 (0, 0) hbq]; exact ePM
            have f4 : wq.frozen? ⟨gU + 1, 1 + hi * 6 + lo, none⟩ = false := frozen_of_row wq (gU + 1) _ _ 90 hbq
            have HBQ : Hid (wq.heap[gU + 1]? = some (.cells arr 90 (0, 0))) := hbq
            have HRQ : Hid (RowAt gU Kn (fun _ => 0) wq) := hrow.out.block (by rw [← hwq]; exact Below.heap_alloc _ _ _ (by omega))
            have HB2 : Hid (Go.RowKit.Below w1.heap.size w1 wq) := by rw [← hwq]; exact B2.alloc B2.size _
            have HSZ : Hid (gU + 2 ≤ wq.heap.size) := by rw [← hwq]; show _ ≤ _; simp; omega
            have z1 : (hi : Int) < 6 := by omega
            have z2 : (lo : Int) < 6 := by omega
            clear d1 d2 hnb hget hst ePM hbq hblk hrow hP hhi hlo hMv hxa hxb htk B2 hsz2
            go_wp2_with fail
            clear hwq hY
            go_region
            have hnew : Hid ((wq.setCell ⟨gU + 1, 1 + hi * 6 + lo, none⟩ (.int .i64 ((Mv : Int) + 1))).drew.heap[gU + 1]? = some (.cells (arr.setIfInBounds (1 + hi * 6 + lo) (.int .i64 ((Mv : Int) + 1))) 90 (0, 0))) := heap_setCell_same wq (gU + 1) _ arr 90 _ HBQ.out
            have hrow9 : Hid (RowAt gU Kn (fun _ => 0) (wq.setCell ⟨gU + 1, 1 + hi * 6 + lo, none⟩ (.int .i64 ((Mv : Int) + 1))).drew) := HRQ.out.block (heap_set_other wq _ _ (by simp only; omega))
            have hb9 : Hid (Go.RowKit.Below w1.heap.size w1 (wq.setCell ⟨gU + 1, 1 + hi * 6 + lo, none⟩ (.int .i64 ((Mv : Int) + 1))).drew) := below_drew1 (below_set HB2.out _ _ (by omega) _)
            have hs9 : Hid (gU + 2 ≤ (wq.setCell ⟨gU + 1, 1 + hi * 6 + lo, none⟩ (.int .i64 ((Mv : Int) + 1))).drew.heap.size) := by show _ ≤ (wq.setCell _ _).heap.size; rw [size_set]; exact HSZ.out
            clear f1 f2 f3 f4 HBQ HRQ HB2 HSZ
            generalize (wq.setCell ⟨gU + 1, 1 + hi * 6 + lo, none⟩ (.int .i64 ((Mv : Int) + 1))).drew = w9 at hnew hrow9 hb9 hs9 ⊢
            go_wp2_with fail
            go_roundw
            case rel => exact ⟨j + 1, _, by go_num, by omega, hnew, HST, hrow9, hs9.out, hb9.out⟩
            case measure => simp [intOf]; omega
          · have hz : ¬ (j : Int) < (m : Int) := by omega
            have hjm : m = j := by omega
            subst hjm
            have htk : (PPof m PA PB).take m = PPof m PA PB := List.take_of_length_le (by rw [PPof_len]; exact Nat.le_refl _)
            rw [htk] at hP
            have hG := giv_of (by omega) hm HR.out hsz.out hno.out
            have hKnn : K.toNat = Kn := by rw [HKN.out]; exact Int.toNat_natCast _
            rw [hKnn] at hG
            have hc : ∀ o v, arr[o]? = some v → wr.cell? ⟨gU + 1, o, none⟩ = some v := fun o v h => by rw [cell_of_row wr (gU + 1) o _ 90 (0, 0) hblk]; exact h
            obtain ⟨p1, p2, p3, p4, p5, p6, p7, p8⟩ := hP.out
            have hst : PSt (gU + 1) gU wr.heap.size n Kn aS capS S C (PPof m PA PB) [] (fun _ => 0) (-1) (.slice none 0 0) (.slice none 0 0) [] wr :=
              ⟨⟨by omega, by omega, by omega, Nat.le_refl _⟩, hc _ _ p2, fun i k hi hk => hc _ _ (p3 i k hi hk), hc _ _ p4, hc _ _ p5, hc _ _ p6, hc _ _ p7, hc _ _ p8, fun o => frozen_of_row wr (gU + 1) o _ 90 hblk, fun t ht => by
                obtain ⟨g, h1, h2, h3⟩ := H.out.s t ht
                exact ⟨g, h1, by omega, by omega, by omega, by rw [B2.cell (by exact h2)]; exact h3⟩, hrow.out, World.ownsRow_nil _ _ _ _, (fun h => by omega), (fun k hk => by cases hk), (fun k hk => by cases hk)⟩
            have hnx := pnext_c hG n (N := []) (by simp) (by omega) (fun t _ => by simp) hst
            have hwsz : w1.heap.size ≤ wr.heap.size := by omega
            clear htk hG hc p1 p2 p3 p4 p5 p6 p7 p8 hst hP hrow hblk
            go_wp2_with fail
            refine hnx.mono ?_
            rintro e w6 ⟨rfl, l, vN, vB, BL, h6, hO6, hR6⟩
            have B6 : Hid (Go.RowKit.Below w1.heap.size w1 w6) := B2.trans ⟨hO6.os, hO6.tape, hO6.output, hO6.size, fun k hk => hO6.block k (by omega) (by omega) (by omega)⟩
            have HR6 : Hid (Res (PPof m PA PB) S C K.toNat n [] (fun _ => 0) K.toNat (-1) l [] BL) := by rw [hKnn]; exact hR6
            have H6 : Hid _ := h6
            have c41 := h6.cL
            have c38 := h6.cB
            have HCLS : Hid (Cls n m S PA PB K C 0) := .none (by omega) HR.out hsz.out hno.out
            clear hnx h6 hO6 hR6 B2 hKnn
            by_cases hl : l < 0
            · clear c38
              go_wp2_with fail
              go_ret3
              exact ⟨.slice none 0 0, 0, 16, rfl, B6.out, .inr ⟨HCLS.out, l, BL, HR6.out, .inl ⟨hl, rfl, rfl, rfl⟩⟩⟩
            · obtain ⟨av, cv, rfl⟩ := ownsRow_shape (H6.out.best (by omega))
              go_wp2_with fail
              go_quiet (fail)
              clear c38 c41
              go_wp2_with fail
              go_ret3
              exact ⟨.slice av n cv, l, 0, rfl, below_dN B6.out _, .inr ⟨HCLS.out, l, BL, HR6.out, .inr ⟨by omega, rfl, rfl, ownsRow_base ((H6.out.drew nq).best (by omega)) hwsz⟩⟩⟩
  · go_wp2_with fail
    go_ret3
    refine ⟨.slice none 0 0, 0, 9, rfl, B1, .inl ⟨.size (by omega) HR.out t ht ?_, by decide, rfl, rfl⟩⟩
    simp only [Bool.not_eq_true', Bool.and_eq_false_iff, decide_eq_false_iff_not] at hbt
    unfold BadS
    omega
end Go.Proofs.Yteabbkagekdehaa
