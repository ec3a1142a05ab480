/- weftref2.CrowdOf: the greatest number of lives that hold one life's beginning. -/
import Derived.Test.YteabbkagekdehaaRegs1
import Derived.Test.YteabbkagekdehaaPln
set_option linter.unusedVariables false
set_option linter.unusedSimpArgs false
namespace Go.Proofs.Yteabbkagekdehaa
open Go.AE Go.RowKit Go.IntWalk Go.Greedy
def cntTo (F T : Nat → Int) (a j : Nat) : Nat := ((List.range j).filter fun b => decide (F b ≤ F a) && decide (F a ≤ T b)).length
theorem cntTo_cnt (F T : Nat → Int) (a n : Nat) : cntTo F T a n = cnt F T n a := rfl
theorem cntTo_yes {F T : Nat → Int} {a j : Nat} (h1 : F j ≤ F a) (h2 : F a ≤ T j) : cntTo F T a (j + 1) = cntTo F T a j + 1 := by simp [cntTo, List.range_succ, List.filter_append, h1, h2]
theorem cntTo_no {F T : Nat → Int} {a j : Nat} (h : ¬ (F j ≤ F a ∧ F a ≤ T j)) : cntTo F T a (j + 1) = cntTo F T a j := by
  have : (decide (F j ≤ F a) && decide (F a ≤ T j)) = false := by simpa using h
  simp [cntTo, List.range_succ, List.filter_append, this]
theorem cntTo_le (F T : Nat → Int) (a j : Nat) : cntTo F T a j ≤ j := by
  have := List.length_filter_le (fun b => decide (F b ≤ F a) && decide (F a ≤ T b)) (List.range j)
  simpa [cntTo] using this
theorem crowd_c {a : Option Addr} {cap : Nat} {L : List LifeV} {w : World} (h13 : L.length ≤ 13) (hg : ∀ j, j < L.length → ∃ g, a = some ⟨g, 0, none⟩ ∧ g < w.heap.size ∧ LivesAt g L w) :
    Calls Try.prog 29 #[.slice a L.length cap] w fun e w' => ∃ c : Nat, e = .returned (.int .i64 c) ∧ Crowd (LF L) (LT L) L.length c ∧ Below w.heap.size w w' := by
  have HG : Hid _ := hg
  clear hg
  generalize hn : L.length = n at *
  have HN : Hid _ := hn
  clear hn
  go_enter Try.func29, Try.ntmps29
  go_wp2_with fail
  go_loopw [3, 11] (fun m i wr => ∃ (k c : Nat), i = .int .i64 k ∧ m = .int .i64 c ∧ k ≤ n ∧ c ≤ n ∧ Hid ((∀ x, x < k → cnt (LF L) (LT L) n x ≤ c) ∧ (c = 0 ∨ ∃ x, x < k ∧ c = cnt (LF L) (LT L) n x)) ∧ Below w.heap.size w wr)
    (fun _ i _ => n - (intOf i).toNat)
  case atStart => exact ⟨0, 0, rfl, rfl, by omega, by omega, ⟨fun x h => by omega, .inl rfl⟩, Below.refl _ _⟩
  case round =>
    obtain ⟨k, c, rfl, rfl, hk, hc, hI, B1⟩ := hrel
    by_cases hlt : k < n
    · obtain ⟨g, rfl, hgw, hl⟩ := HG.out k hlt
      have hl1 : LivesAt g L wr := hl.block (B1.block g hgw)
      obtain ⟨c0, c1, c2, c3⟩ := hl1 k (by have := HN.out; omega)
      have hz : (k : Int) < (n : Int) := by omega
      have HL : Hid _ := hl
      obtain ⟨B, hB⟩ : ∃ B, wr.heap.size = B := ⟨_, rfl⟩
      have hks : w.heap.size ≤ B := by rw [← hB]; exact B1.size
      clear hl hl1 HG
      go_wp2_with fail
      go_loopw [6, 17] (fun cc i wr2 => ∃ j : Nat, i = .int .i64 j ∧ cc = .int .i64 (cntTo (LF L) (LT L) k j) ∧ j ≤ n ∧ wr2.cell? ⟨B, 1, none⟩ = some (.int .i64 (LF L k)) ∧ B < wr2.heap.size ∧ Below w.heap.size w wr2)
        (fun _ i _ => n - (intOf i).toNat)
      case atStart => exact ⟨0, rfl, rfl, by omega, by rw [← hB, cell_of_row _ wr.heap.size 1 _ 57 (0, 0) (heap_alloc_new wr _)]; rfl, by simp [hB], B1.alloc B1.size _⟩
      case round =>
        obtain ⟨j, rfl, rfl, hj, hck, hsz, B2⟩ := hrel
        have hcl := cntTo_le (LF L) (LT L) k j
        by_cases hlt2 : j < n
        · obtain ⟨d0, d1, d2, d3⟩ := (LivesAt.block HL.out (B2.block g hgw)) j (by have := HN.out; omega)
          have hz2 : (j : Int) < (n : Int) := by omega
          have nxt : Hid (∀ cs e, (wr.alloc (.cells cs e)).cell? ⟨B, 1, none⟩ = some (.int .i64 (LF L k)) ∧ B < (wr.alloc (.cells cs e)).heap.size ∧ Below w.heap.size w (wr.alloc (.cells cs e))) := fun cs e =>
            ⟨by rw [World.cell?_of_block (w := wr) (Below.heap_alloc _ _ _ hsz)]; exact hck, by simp; omega, B2.alloc B2.size _⟩
          clear c0 c1 c2 c3
          by_cases hcond : LF L j ≤ LF L k ∧ LF L k ≤ LT L j
          · have hy := cntTo_yes hcond.1 hcond.2
            have HY : Hid _ := hy
            clear hy
            obtain ⟨q1, q2⟩ := hcond
            go_wp2_with fail
            go_roundw
            case rel => exact ⟨j + 1, by go_num, by rw [HY.out]; go_num, by omega, (nxt.out _ _).1, (nxt.out _ _).2.1, (nxt.out _ _).2.2⟩
            case measure => simp [intOf]; omega
          · have HY : Hid _ := cntTo_no hcond
            go_wp2_with fail
            all_goals first
              | (exfalso; exact hcond ⟨by assumption, by assumption⟩)
              | (go_roundw
                 case rel => exact ⟨j + 1, by go_num, by rw [HY.out], by omega, (nxt.out _ _).1, (nxt.out _ _).2.1, (nxt.out _ _).2.2⟩
                 case measure => simp [intOf]; omega)
        · have hz2 : ¬ (j : Int) < (n : Int) := by omega
          obtain rfl : j = n := by omega
          go_wp2_with fail
          go_roundw
          case rel =>
            by_cases hm : c < cntTo (LF L) (LT L) k j
            · refine ⟨k + 1, cntTo (LF L) (LT L) k j, by go_num, by rw [if_pos hm], by omega, by omega, ⟨fun x hx => ?_, .inr ⟨k, by omega, rfl⟩⟩, B2⟩
              by_cases hxk : x = k
              · rw [hxk]; exact Nat.le_refl _
              · exact Nat.le_trans (hI.out.1 x (by omega)) (Nat.le_of_lt hm)
            · refine ⟨k + 1, c, by go_num, by rw [if_neg hm], by omega, by omega, ⟨fun x hx => ?_, hI.out.2.imp id fun ⟨y, h1, h2⟩ => ⟨y, by omega, h2⟩⟩, B2⟩
              by_cases hxk : x = k
              · rw [hxk]; exact Nat.le_of_not_lt hm
              · exact hI.out.1 x (by omega)
          case measure => simp [intOf]; omega
    · have hz : ¬ (k : Int) < (n : Int) := by omega
      obtain rfl : k = n := by omega
      go_wp2_with fail
      go_ret
      exact ⟨c, rfl, ⟨hI.out.1, hI.out.2⟩, B1⟩
end Go.Proofs.Yteabbkagekdehaa
