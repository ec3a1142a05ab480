/- slices.IndexFunc and ContainsFunc over integers, at the closure of chip.Registers. -/
import Derived.Test.YteabbkagekdehaaRegs1
set_option linter.unusedVariables false
set_option linter.unusedSimpArgs false
namespace Go.Proofs.Yteabbkagekdehaa
open Go.AE Go.RowKit Go.IntWalk
theorem index_c {gr cap m : Nat} {ord : Nat → Int} {p : Nat → Bool} {bo bi bl : Nat} {w : World} (hm : m ≤ 1000) (ho : ∀ t, t < m → w.cell? ⟨gr, t, none⟩ = some (.int .i64 (ord t)))
    (hp : ∀ t, t < m → ∀ q, Calls Try.prog 64 #[.int .i64 (ord t), .pointer (some ⟨bo, 0, none⟩), .pointer (some ⟨bi, 0, none⟩), .pointer (some ⟨bl, 0, none⟩)] (w.drewN q) fun e w' => e = .returned (.bool (p t)) ∧ ∃ q', w' = (w.drewN q).drewN q') :
    Calls Try.prog 80 #[.slice (some ⟨gr, 0, none⟩) m cap, .func (.func 64) #[] #[.pointer (some ⟨bo, 0, none⟩), .pointer (some ⟨bi, 0, none⟩), .pointer (some ⟨bl, 0, none⟩)]] w fun e w' =>
      ∃ r : Int, e = .returned (.int .i64 r) ∧ ((r = -1 ∧ ∀ t, t < m → p t = false) ∨ (0 ≤ r ∧ ∃ t, t < m ∧ p t = true)) ∧ ∃ q, w' = w.drewN q := by
  have HP : Hid _ := hp
  have HO : Hid _ := ho
  clear hp ho
  go_enter Try.func80, Try.ntmps80
  go_wp2_with fail
  go_loopw [8] (fun i wr => ∃ (k q : Nat), i = .int .i64 k ∧ k ≤ m ∧ wr = w.drewN q ∧ Hid (∀ t, t < k → p t = false))
    (fun i _ => m - (intOf i).toNat)
  case atStart => exact ⟨0, 0, rfl, by omega, rfl, fun t h => by omega⟩
  case round =>
    obtain ⟨k, q, rfl, hk, rfl, hno⟩ := hrel
    by_cases hlt : k < m
    · have hc : (w.drewN q).cell? ⟨gr, k, none⟩ = some (.int .i64 (ord k)) := HO.out k hlt
      have hz : (k : Int) < (m : Int) := by omega
      go_wp2_with fail
      refine (HP.out k hlt q).mono ?_
      rintro e w1 ⟨rfl, q', rfl⟩
      cases hpk : p k
      · go_wp2_with fail
        go_roundw
        case rel => exact ⟨k + 1, q + q', by go_num, by omega, rfl, fun t ht => by
          by_cases h : t = k
          · rw [h]; exact hpk
          · exact hno.out t (by omega)⟩
        case measure => simp [intOf]; omega
      · go_wp2_with fail
        go_ret
        exact ⟨_, rfl, .inr ⟨by omega, k, hlt, hpk⟩, q + q', rfl⟩
    · have hz : ¬ (k : Int) < (m : Int) := by omega
      go_wp2_with fail
      go_ret
      exact ⟨_, rfl, .inl ⟨rfl, fun t ht => hno.out t (by omega)⟩, q, rfl⟩
theorem any_c {gr cap m : Nat} {ord : Nat → Int} {p : Nat → Bool} {bo bi bl : Nat} {w : World} (hm : m ≤ 1000) (ho : ∀ t, t < m → w.cell? ⟨gr, t, none⟩ = some (.int .i64 (ord t)))
    (hp : ∀ t, t < m → ∀ q, Calls Try.prog 64 #[.int .i64 (ord t), .pointer (some ⟨bo, 0, none⟩), .pointer (some ⟨bi, 0, none⟩), .pointer (some ⟨bl, 0, none⟩)] (w.drewN q) fun e w' => e = .returned (.bool (p t)) ∧ ∃ q', w' = (w.drewN q).drewN q') :
    Calls Try.prog 50 #[.slice (some ⟨gr, 0, none⟩) m cap, .func (.func 64) #[] #[.pointer (some ⟨bo, 0, none⟩), .pointer (some ⟨bi, 0, none⟩), .pointer (some ⟨bl, 0, none⟩)]] w fun e w' =>
      ∃ b : Bool, e = .returned (.bool b) ∧ ((b = false ∧ ∀ t, t < m → p t = false) ∨ (b = true ∧ ∃ t, t < m ∧ p t = true)) ∧ ∃ q, w' = w.drewN q := by
  have hc := index_c (cap := cap) hm ho hp
  clear ho hp
  go_enter Try.func50, Try.ntmps50
  go_wp2_with fail
  refine hc.mono ?_
  rintro e w1 ⟨r, rfl, hr, q, rfl⟩
  rcases hr with ⟨rfl, h⟩ | ⟨h0, h⟩
  · go_wp2_with fail
    go_ret
    exact ⟨_, rfl, .inl ⟨rfl, h⟩, q, rfl⟩
  · have H : Hid _ := h
    clear h
    go_wp2_with fail
    go_ret
    exact ⟨_, rfl, .inr ⟨by simp [h0], H.out⟩, q, rfl⟩
end Go.Proofs.Yteabbkagekdehaa
