/- ChipCodes: whatever the list of numbers, the call returns true and turns nothing that was there. -/
import Derived.Test.YteabbkagekdehaaEn4
import Derived.Test.YteabbkagekdehaaChkMain
import Derived.Deep.RegionWith
set_option linter.unusedVariables false
set_option linter.unusedSimpArgs false
set_option maxRecDepth 100000
namespace Go.Proofs.Yteabbkagekdehaa
open Go.AE Go.RowKit Go.IntWalk
theorem dec_join {b1 b2 L : Nat} {X : List Int} {E : List Int → Nat → Int} {v1 v2 : Value} {e1 e2 : Int} {w1 w2 : World} (h1 : DecPost b1 X L E v1 e1 w1) (h2 : DecPost b2 X L E v2 e2 w2) :
    e1 = e2 ∧ ∃ a1 c1 a2 c2 m zs, v1 = .slice a1 m c1 ∧ v2 = .slice a2 m c2 ∧ RowZ w1 a1 m zs ∧ RowZ w2 a2 m zs ∧ m ≤ L := by
  have nils : ∀ {v1 v2 : Value}, v1 = .slice none 0 0 → v2 = .slice none 0 0 → ∃ a1 c1 a2 c2 m zs, v1 = .slice a1 m c1 ∧ v2 = .slice a2 m c2 ∧ RowZ w1 a1 m zs ∧ RowZ w2 a2 m zs ∧ m ≤ L := fun e1 e2 => ⟨none, 0, none, 0, 0, [], e1, e2, .inl rfl, .inl rfl, Nat.zero_le _⟩
  rcases h1 with ⟨a, rfl, b⟩ | ⟨a, b, rfl, c⟩ | ⟨a, zs, b, c, d, e⟩
  · rcases h2 with ⟨a', rfl, b'⟩ | ⟨a', _⟩ | ⟨a', _⟩
    · exact ⟨rfl, nils b b'⟩
    · omega
    · omega
  · rcases h2 with ⟨a', _⟩ | ⟨a', b', rfl, c'⟩ | ⟨a', zs, b', _⟩
    · omega
    · exact ⟨rfl, nils c c'⟩
    · rw [b] at b'; cases b'
  · rcases h2 with ⟨a', _⟩ | ⟨a', b', _⟩ | ⟨a', zs', b', c', d', e'⟩
    · omega
    · rw [b] at b'; cases b'
    · rw [b] at b'
      cases b'
      have he : e1 = e2 := by rw [c, c']
      refine ⟨he, ?_⟩
      by_cases h0 : e1 = 0
      · obtain ⟨a1, c1, f1, g1⟩ := e h0
        obtain ⟨a2, c2, f2, g2⟩ := e' (by omega)
        exact ⟨a1, c1, a2, c2, L / 4, zs, f1, f2, g1, g2, Nat.div_le_self _ _⟩
      · exact nils (d h0) (d' (by omega))
theorem own_cap {w : World} {base n cap : Nat} {a : Option Addr} {xs : List Value} {e : TypeId} {size : Nat} (h : w.ownsRow base e size (.slice a n cap) n xs) : n ≤ cap := by
  rcases h.2 with ⟨hv, h0⟩ | ⟨g, cap', cur, hv, _, _, h5, _⟩
  · omega
  · simp only [Value.slice.injEq] at hv; omega
theorem RowI.take {w : World} {a : Option Addr} {n m : Nat} {xs : List Int} (h : RowI w a n xs) (hm : m ≤ n) : RowI w a m (xs.take m) := by
  obtain ⟨h0, h⟩ := h
  refine ⟨by rw [List.length_take]; omega, ?_⟩
  rcases h with h | ⟨g, h1, h2, h3⟩
  · exact .inl (by omega)
  · refine .inr ⟨g, h1, h2, fun j hj => ?_⟩
    rw [h3 j (by omega), List.getD_eq_getElem?_getD, List.getD_eq_getElem?_getD, List.getElem?_take_of_lt hj]
theorem RowI.set {w : World} {g n i : Nat} {xs : List Int} {v : Int} (h : RowI w (some ⟨g, 0, none⟩) n xs) (hi : i < n) : RowI (w.setCell ⟨g, i, none⟩ (zI v)) (some ⟨g, 0, none⟩) n (xs.set i v) := by
  obtain ⟨h0, h⟩ := h
  refine ⟨by rw [List.length_set]; exact h0, ?_⟩
  rcases h with h | ⟨g', h1, h2, h3⟩
  · omega
  · cases h1
    refine .inr ⟨g, rfl, by rw [csize_set]; exact h2, fun j hj => ?_⟩
    by_cases e : j = i
    · subst e
      rw [World.cell?_setCell_same _ _ _ (h3 j hj)]
      simp [List.getD_eq_getElem?_getD, h0, hj]
    · rw [World.cell?_setCell_other _ _ _ _ (fun q => e (by cases q; rfl)), h3 j hj]
      rw [List.getD_eq_getElem?_getD, List.getD_eq_getElem?_getD, List.getElem?_set_ne (fun q => e q.symm)]
theorem codes_all {m0 m1 m2 m3 m4 : Int} (h25 : Says 25 [mV m0 m1 m2 m3 m4] (zI 0)) (hb : ∀ zs i, MachB (rhoI m0 m1 m2 m3 m4 zs i)) : ∃ E : List Int → Nat → Int,
    (∀ w a n cap zs, n ≤ 100000 → RowZ w a n zs → Calls Try.prog 13 #[mV m0 m1 m2 m3 m4, .slice a n cap] w fun en w' => en = .returned (zI (E zs n)) ∧ Below w.heap.size w w') ∧
    (∀ w a n cap zs, n ≤ 100000 → RowZ w a n zs → Calls Try.prog 48 #[mV m0 m1 m2 m3 m4, .slice a n cap] w fun en w' => en = .returned (zI (E zs n)) ∧ Below w.heap.size w w') := by
  have h : ∀ zs n, ∃ err, ErrAt (mV m0 m1 m2 m3 m4) zs n err := fun zs n => errs_all zs n (hb zs)
  refine ⟨fun zs n => ansZ zs n (h zs n).choose, fun w a n cap zs hn hr => check_c hr hn h25 (h zs n).choose_spec, fun w a n cap zs hn hr => codeFault_c hr hn (h zs n).choose_spec⟩
end Go.Proofs.Yteabbkagekdehaa
