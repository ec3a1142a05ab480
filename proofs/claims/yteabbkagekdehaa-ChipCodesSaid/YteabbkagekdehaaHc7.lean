/- slices.Delete of one instruction. -/
import Derived.Test.YteabbkagekdehaaHc6
set_option linter.unusedVariables false
set_option linter.unusedSimpArgs false
set_option maxRecDepth 100000
namespace Go.Proofs.Yteabbkagekdehaa
open Go.AE Go.RowKit Go.IntWalk
set_option maxHeartbeats 4000000 in
theorem delete9_c {base k m cap g : Nat} {zs : List Int} {w : World} (hown : w.ownsRow base 29 9 (.slice (some ⟨g, 0, none⟩) (k + 1 + m) cap) (k + 1 + m) (zcells zs)) (hn : k + 1 + m ≤ 100000) :
    Calls Try.prog 59 #[.slice (some ⟨g, 0, none⟩) (k + 1 + m) cap, .int .i64 k, .int .i64 ((k : Int) + 1)] w fun e w' => ∃ zs', e = .returned (.slice (some ⟨g, 0, none⟩) (k + m) cap) ∧ w'.ownsRow base 29 9 (.slice (some ⟨g, 0, none⟩) (k + m) cap) (k + m) (zcells zs') ∧ w.grownBy w' (some g) := by
  obtain ⟨i0, hi, hz0, hz1, hz2⟩ := info_parts info29
  obtain ⟨hsh, hb, hcap, hmax, hints⟩ := ownsRow_ints hown
  have h1 : ¬ ((k : Int) = (k : Int) + 1) := by omega
  have h2 : ¬ k = cap := by omega
  obtain ⟨news, hnews⟩ : ∃ news, (zcells zs).drop ((k + 1) * 9) = news := ⟨_, rfl⟩
  have hl : news.length = m * 9 := by rw [← hnews, List.length_drop, hown.1]; omega
  have hvi : ∀ v ∈ news, ∃ z, v = .int .i64 z := fun v hv => by
    rw [← hnews] at hv
    obtain ⟨z, _, rfl⟩ := List.mem_map.1 (List.mem_of_mem_drop hv)
    exact ⟨z, rfl⟩
  have hc : Hid (∀ j u, news[j]? = some u → w.cell? ((⟨g, (k + 1) * 9, none⟩ : Addr).add j) = some u) := fun j u hu => by
    have hj : j < m * 9 := by have := (List.getElem?_eq_some_iff.1 hu).1; omega
    rw [Addr.add_lit, hown.cellAt _ (by omega), ← List.getElem?_drop, hnews]
    exact hu
  have hs : Hid (∀ j, j < news.length → (w.cell? ⟨g, 0 + k * 9 + j, none⟩).isSome = true ∧ w.frozen? ⟨g, 0 + k * 9 + j, none⟩ = false) := fun j hj => by
    obtain ⟨z, hz⟩ := hints (0 + k * 9 + j) (by omega)
    exact ⟨by rw [hz]; rfl, hown.frozenAt _⟩
  obtain ⟨w1, hw1⟩ : ∃ w1, w.drew.setCells g (k * 9) news = w1 := ⟨_, rfl⟩
  have hi1 : IntsTo w1 g ((k + 1 + m) * 9) := by
    rw [← hw1]
    exact IntsTo.set (w := w.drew) (N := (k + 1 + m) * 9) hints hvi (fun j hj => by simpa using (hs.out j hj).1) (.inl (Nat.le_refl _))
  have hf1 : ∀ j, w1.frozen? ⟨g, j, none⟩ = false := fun j => by rw [← hw1, World.frozen?_setCells]; exact hown.frozenAt _
  obtain ⟨Z, hZ⟩ : ∃ Z, List.replicate 9 (Value.int .i64 0) = Z := ⟨_, rfl⟩
  have hclr : (Builtin.clear_ #[26] 0 #[.slice (some ⟨g, (k + m) * 9, none⟩) (k + 1 + m - (k + m)) (cap - (k + m))]).run Try.prog w1 = .ok (.tuple #[]) (w1.setCells g ((k + m) * 9) Z) := by
    rw [show k + 1 + m - (k + m) = 1 by omega, ← hZ]
    exact clear9_run (n := 0) (fun j hj => by obtain ⟨z, hz⟩ := hi1 ((k + m) * 9 + j) (by omega); rw [hz]; rfl) (fun j _ => hf1 _)
  have FIN : Hid (∃ zs', (w1.setCells g ((k + m) * 9) Z).ownsRow base 29 9 (.slice (some ⟨g, 0, none⟩) (k + m) cap) (k + m) (zcells zs') ∧ w.grownBy (w1.setCells g ((k + m) * 9) Z) (some g)) := by
    rw [← hZ]
    obtain ⟨cur, q1, q2⟩ := hsh
    obtain ⟨cur1, q3, q4⟩ := setCells_shape g news (k * 9) w.drew cur q1
    rw [hw1] at q3
    obtain ⟨cur2, q5, q6⟩ := setCells_shape g (List.replicate 9 (.int .i64 0)) ((k + m) * 9) w1 cur1 q3
    obtain ⟨zs', h⟩ := rowInts (n := k + m) ⟨cur2, q5, by omega⟩ hb (by omega) hmax (IntsTo.set hi1 (fun v hv => ⟨0, List.eq_of_mem_replicate hv⟩) (fun j hj => by simp at hj; obtain ⟨z, hz⟩ := hi1 ((k + m) * 9 + j) (by omega); rw [hz]; rfl) (M := (k + m) * 9) (.inl (by omega)))
    refine ⟨zs', h, ?_⟩
    have g1 := setCells_grown g news (k * 9) w.drew
    have g2 := setCells_grown g (List.replicate 9 (.int .i64 0)) ((k + m) * 9) w1
    rw [hw1] at g1
    exact ⟨g2.os.trans g1.os, g2.tape.trans g1.tape, g2.output.trans g1.output, Nat.le_trans g1.size g2.size, fun c hc hne => (g2.block c (Nat.lt_of_lt_of_le hc g1.size) hne).trans (g1.block c hc hne)⟩
  have H1 : Hid (∀ u ∈ news, u.oneCell' = true) := fun u hu => by obtain ⟨z, rfl⟩ := hvi u hu; rfl
  have HL : Hid _ := hl
  have HR : k + m ≤ cap := by omega
  have f1 : k ≤ cap := by omega
  have f2 : k + 1 ≤ cap := by omega
  have f3 : k + 1 ≤ k + 1 + m := by omega
  have f5 : ¬ cap = k := by omega
  have f6 : (0 : Int) ≤ (k : Int) + 1 := by omega
  have f7 : (k : Int) + 1 ≤ (k : Int) + 1 + (m : Int) := by omega
  have HW : Hid _ := hw1
  have f8 : k + m ≤ k + 1 + m := by omega
  have f9 : ¬ cap = k + m := by omega
  have f10 : k + 1 + m ≤ cap := hcap
  clear hZ hl hnews hw1 hi1 hf1 hvi hown hsh hints hmax hb hcap
  by_cases h3 : cap = k + 1
  · obtain rfl : m = 0 := by omega
    subst h3
    have g1 : (k : Int) ≤ (k : Int) + 1 := by omega
    simp only [Nat.add_zero, Nat.add_sub_cancel_left] at hclr FIN HL HR HW ⊢
    have hn0 : Hid (news = []) := (by have := HL.out; simpa using this : news = [])
    go_enter Try.func59, Try.ntmps59
    go_wp2_with fail
    go_region_law (refine step_append_room rfl (.tmp 22) (.tmp 25) 26 rfl 29 i0 9 Try.underlying26 hi hz1 g 0 k (k + 1) rfl _ 0 _ news rfl HL.out (by rw [hn0.out]; intro j u hu; simp at hu) H1.out HR hs.out ?_)
    rw [HW.out]
    go_wp2_with fail
    go_ret
    obtain ⟨zs', q1, q2⟩ := FIN.out
    exact ⟨zs', rfl, q1, q2⟩
  go_enter Try.func59, Try.ntmps59
  go_wp2_with fail
  go_region_law (refine step_append_room rfl (.tmp 22) (.tmp 25) 26 rfl 29 i0 9 Try.underlying26 hi hz1 g 0 k cap rfl ⟨g, (k + 1) * 9, none⟩ m _ news rfl HL.out hc.out H1.out HR hs.out ?_)
  rw [HW.out]
  go_wp2_with fail
  go_ret
  obtain ⟨zs', q1, q2⟩ := FIN.out
  exact ⟨zs', rfl, q1, q2⟩
end Go.Proofs.Yteabbkagekdehaa
