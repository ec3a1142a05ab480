/- The tests on sizes, handed to slices.ContainsFunc. -/
import Derived.Test.YteabbkagekdehaaPack6
set_option linter.unusedVariables false
set_option linter.unusedSimpArgs false
namespace Go.Proofs.Yteabbkagekdehaa
open Go.AE Go.RowKit Go.IntWalk Go.PackLaw
theorem within_c (x lo hi : Int) (w : World) : Calls Try.prog 49 #[.int .i64 x, .int .i64 lo, .int .i64 hi] w fun e w' => e = .returned (.bool (decide (lo ≤ x) && decide (x ≤ hi))) ∧ w' = w := by
  by_cases h1 : lo ≤ x
  · by_cases h2 : x ≤ hi
    · go_enter Try.func49, Try.ntmps49
      go_wp2_with fail
      go_ret
      exact ⟨by simp [h1, h2], rfl⟩
    · go_enter Try.func49, Try.ntmps49
      go_wp2_with fail
      go_ret
      exact ⟨by simp [h1, h2], rfl⟩
  · go_enter Try.func49, Try.ntmps49
    go_wp2_with fail
    go_ret
    exact ⟨by have : ¬ lo ≤ x := by omega
              simp [this], rfl⟩
theorem bad51_c (x : Int) (w : World) : Calls Try.prog 51 #[.int .i64 x] w fun e w' => e = .returned (.bool (!(decide (1 ≤ x) && decide (x ≤ 4096)))) ∧ w' = w := by
  have h := within_c x 1 4096 w
  generalize (decide (1 ≤ x) && decide (x ≤ 4096)) = b at h ⊢
  go_enter Try.func51, Try.ntmps51
  go_wp2_with fail
  refine h.mono ?_
  rintro e w1 ⟨rfl, rfl⟩
  go_wp2_with fail
  go_ret
  exact ⟨rfl, rfl⟩
theorem bad53_c (x : Int) (w : World) : Calls Try.prog 53 #[.int .i64 x] w fun e w' => e = .returned (.bool (!(decide (1 ≤ x) && decide (x ≤ 4096)))) ∧ w' = w := by
  by_cases h1 : x < 1
  · go_enter Try.func53, Try.ntmps53
    go_wp2_with fail
    go_ret
    exact ⟨by have : ¬ 1 ≤ x := by omega
              simp [this], rfl⟩
  · by_cases h2 : 4096 < x
    · go_enter Try.func53, Try.ntmps53
      go_wp2_with fail
      go_ret
      exact ⟨by have : ¬ x ≤ 4096 := by omega
                simp [this], rfl⟩
    · go_enter Try.func53, Try.ntmps53
      go_wp2_with fail
      go_ret
      exact ⟨by have h3 : 1 ≤ x := by omega
                have h4 : x ≤ 4096 := by omega
                simp [h3, h4], rfl⟩
theorem index51_c {a : Option Addr} {cap m : Nat} {ord : Nat → Int} {p : Nat → Bool} {w : World} (hm : m ≤ 1000) (ho : ∀ t, t < m → ∃ gr, a = some ⟨gr, 0, none⟩ ∧ w.cell? ⟨gr, t, none⟩ = some (.int .i64 (ord t)))
    (hp : ∀ t, t < m → ∀ q, Calls Try.prog 51 #[.int .i64 (ord t)] (w.drewN q) fun e w' => e = .returned (.bool (p t)) ∧ ∃ q', w' = (w.drewN q).drewN q') :
    Calls Try.prog 80 #[.slice a m cap, .func (.func 51) #[] #[]] w fun e w' =>
      ∃ r : Int, e = .returned (.int .i64 r) ∧ ((r = -1 ∧ ∀ t, t < m → p t = false) ∨ (0 ≤ r ∧ ∃ t, t < m ∧ p t = true)) ∧ ∃ q, w' = w.drewN q := by
  have HP : Hid _ := hp
  have HO : Hid _ := ho
  clear hp ho
  go_enter Try.func80, Try.ntmps80
  go_wp2_with fail
  go_loopw [8] (fun i wr => ∃ (k q : Nat), i = .int .i64 k ∧ k ≤ m ∧ wr = w.drewN q ∧ Hid (∀ t, t < k → p t = false))
    (fun i _ => m - (intOf i).toNat)
  case atStart => exact ⟨0, 0, rfl, by omega, rfl, fun t h => by omega⟩
  case round =>
    obtain ⟨k, q, rfl, hk, rfl, hno⟩ := hrel
    by_cases hlt : k < m
    · obtain ⟨gr, rfl, hc0⟩ := HO.out k hlt
      have hc : (w.drewN q).cell? ⟨gr, k, none⟩ = some (.int .i64 (ord k)) := hc0
      clear hc0
      have hz : (k : Int) < (m : Int) := by omega
      go_wp2_with fail
      refine (HP.out k hlt q).mono ?_
      rintro e w1 ⟨rfl, q', rfl⟩
      cases hpk : p k
      · go_wp2_with fail
        go_roundw
        case rel => exact ⟨k + 1, q + q', by go_num, by omega, rfl, fun t ht => by
          by_cases h : t = k
          · rw [h]; exact hpk
          · exact hno.out t (by omega)⟩
        case measure => simp [intOf]; omega
      · go_wp2_with fail
        go_ret
        exact ⟨_, rfl, .inr ⟨by omega, k, hlt, hpk⟩, q + q', rfl⟩
    · have hz : ¬ (k : Int) < (m : Int) := by omega
      go_wp2_with fail
      go_ret
      exact ⟨_, rfl, .inl ⟨rfl, fun t ht => hno.out t (by omega)⟩, q, rfl⟩
theorem any51_c {a : Option Addr} {cap m : Nat} {ord : Nat → Int} {p : Nat → Bool} {w : World} (hm : m ≤ 1000) (ho : ∀ t, t < m → ∃ gr, a = some ⟨gr, 0, none⟩ ∧ w.cell? ⟨gr, t, none⟩ = some (.int .i64 (ord t)))
    (hp : ∀ t, t < m → ∀ q, Calls Try.prog 51 #[.int .i64 (ord t)] (w.drewN q) fun e w' => e = .returned (.bool (p t)) ∧ ∃ q', w' = (w.drewN q).drewN q') :
    Calls Try.prog 50 #[.slice a m cap, .func (.func 51) #[] #[]] w fun e w' =>
      ∃ b : Bool, e = .returned (.bool b) ∧ ((b = false ∧ ∀ t, t < m → p t = false) ∨ (b = true ∧ ∃ t, t < m ∧ p t = true)) ∧ ∃ q, w' = w.drewN q := by
  have hc := index51_c (cap := cap) hm ho hp
  clear ho hp
  go_enter Try.func50, Try.ntmps50
  go_wp2_with fail
  refine hc.mono ?_
  rintro e w1 ⟨r, rfl, hr, q, rfl⟩
  rcases hr with ⟨rfl, h⟩ | ⟨h0, h⟩
  · go_wp2_with fail
    go_ret
    exact ⟨_, rfl, .inl ⟨rfl, h⟩, q, rfl⟩
  · have H : Hid _ := h
    clear h
    go_wp2_with fail
    go_ret
    exact ⟨_, rfl, .inr ⟨by simp [h0], H.out⟩, q, rfl⟩
theorem index53_c {a : Option Addr} {cap m : Nat} {ord : Nat → Int} {p : Nat → Bool} {w : World} (hm : m ≤ 1000) (ho : ∀ t, t < m → ∃ gr, a = some ⟨gr, 0, none⟩ ∧ w.cell? ⟨gr, t, none⟩ = some (.int .i64 (ord t)))
    (hp : ∀ t, t < m → ∀ q, Calls Try.prog 53 #[.int .i64 (ord t)] (w.drewN q) fun e w' => e = .returned (.bool (p t)) ∧ ∃ q', w' = (w.drewN q).drewN q') :
    Calls Try.prog 80 #[.slice a m cap, .func (.func 53) #[] #[]] w fun e w' =>
      ∃ r : Int, e = .returned (.int .i64 r) ∧ ((r = -1 ∧ ∀ t, t < m → p t = false) ∨ (0 ≤ r ∧ ∃ t, t < m ∧ p t = true)) ∧ ∃ q, w' = w.drewN q := by
  have HP : Hid _ := hp
  have HO : Hid _ := ho
  clear hp ho
  go_enter Try.func80, Try.ntmps80
  go_wp2_with fail
  go_loopw [8] (fun i wr => ∃ (k q : Nat), i = .int .i64 k ∧ k ≤ m ∧ wr = w.drewN q ∧ Hid (∀ t, t < k → p t = false))
    (fun i _ => m - (intOf i).toNat)
  case atStart => exact ⟨0, 0, rfl, by omega, rfl, fun t h => by omega⟩
  case round =>
    obtain ⟨k, q, rfl, hk, rfl, hno⟩ := hrel
    by_cases hlt : k < m
    · obtain ⟨gr, rfl, hc0⟩ := HO.out k hlt
      have hc : (w.drewN q).cell? ⟨gr, k, none⟩ = some (.int .i64 (ord k)) := hc0
      clear hc0
      have hz : (k : Int) < (m : Int) := by omega
      go_wp2_with fail
      refine (HP.out k hlt q).mono ?_
      rintro e w1 ⟨rfl, q', rfl⟩
      cases hpk : p k
      · go_wp2_with fail
        go_roundw
        case rel => exact ⟨k + 1, q + q', by go_num, by omega, rfl, fun t ht => by
          by_cases h : t = k
          · rw [h]; exact hpk
          · exact hno.out t (by omega)⟩
        case measure => simp [intOf]; omega
      · go_wp2_with fail
        go_ret
        exact ⟨_, rfl, .inr ⟨by omega, k, hlt, hpk⟩, q + q', rfl⟩
    · have hz : ¬ (k : Int) < (m : Int) := by omega
      go_wp2_with fail
      go_ret
      exact ⟨_, rfl, .inl ⟨rfl, fun t ht => hno.out t (by omega)⟩, q, rfl⟩
theorem any53_c {a : Option Addr} {cap m : Nat} {ord : Nat → Int} {p : Nat → Bool} {w : World} (hm : m ≤ 1000) (ho : ∀ t, t < m → ∃ gr, a = some ⟨gr, 0, none⟩ ∧ w.cell? ⟨gr, t, none⟩ = some (.int .i64 (ord t)))
    (hp : ∀ t, t < m → ∀ q, Calls Try.prog 53 #[.int .i64 (ord t)] (w.drewN q) fun e w' => e = .returned (.bool (p t)) ∧ ∃ q', w' = (w.drewN q).drewN q') :
    Calls Try.prog 50 #[.slice a m cap, .func (.func 53) #[] #[]] w fun e w' =>
      ∃ b : Bool, e = .returned (.bool b) ∧ ((b = false ∧ ∀ t, t < m → p t = false) ∨ (b = true ∧ ∃ t, t < m ∧ p t = true)) ∧ ∃ q, w' = w.drewN q := by
  have hc := index53_c (cap := cap) hm ho hp
  clear ho hp
  go_enter Try.func50, Try.ntmps50
  go_wp2_with fail
  refine hc.mono ?_
  rintro e w1 ⟨r, rfl, hr, q, rfl⟩
  rcases hr with ⟨rfl, h⟩ | ⟨h0, h⟩
  · go_wp2_with fail
    go_ret
    exact ⟨_, rfl, .inl ⟨rfl, h⟩, q, rfl⟩
  · have H : Hid _ := h
    clear h
    go_wp2_with fail
    go_ret
    exact ⟨_, rfl, .inr ⟨by simp [h0], H.out⟩, q, rfl⟩
end Go.Proofs.Yteabbkagekdehaa
