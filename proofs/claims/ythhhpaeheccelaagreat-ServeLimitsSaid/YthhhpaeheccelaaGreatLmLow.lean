/- serve.low: the lowest bytes of a number. -/
import Derived.Test.YthhhpaeheccelaaGreatSvServes
import Derived.OwnWalk
import Derived.Deep.LoopGhost
import Derived.ArgAppend
set_option linter.unusedVariables false
set_option linter.unusedSimpArgs false
namespace Go.Proofs.YthhhpaeheccelaaGreat
open Go.AE Go.RowKit Go.IntWalk
theorem info5 : (Tryz.prog.info? 5).map (fun i => (i.zero, i.size, i.bytes)) = some (some (.int .u8 0), 1, 1) := by kernel_rfl
theorem und48 : Tryz.prog.underlying 48 = some (.slice 5) := by kernel_rfl
theorem info_parts8 {t : TypeId} {z : Value} {n m : Nat} (h : (Tryz.prog.info? t).map (fun i => (i.zero, i.size, i.bytes)) = some (some z, n, m)) : ∃ i, Tryz.prog.info? t = some i ∧ i.zero = some z ∧ i.size = n ∧ i.bytes = m := by
  cases hi : Tryz.prog.info? t with
  | none => rw [hi] at h; cases h
  | some i => rw [hi] at h; simp at h; exact ⟨i, rfl, h.1, h.2.1, h.2.2⟩
theorem ownsRow_base8 {w : World} {base base' : Nat} {e : TypeId} {size : Nat} {v : Value} {n : Nat} {xs : List Value} (h : w.ownsRow base e size v n xs) (hb : base' ≤ base) : w.ownsRow base' e size v n xs := by
  obtain ⟨h1, h2⟩ := h
  refine ⟨h1, ?_⟩
  rcases h2 with h2 | ⟨g, cap, cur, hv, hg, r⟩
  · exact .inl h2
  · exact .inr ⟨g, cap, cur, hv, Nat.le_trans hb hg, r⟩
theorem hidI8 {p : Prop} (h : p) : Hid p := h
theorem ownsRow_shape8 {w : World} {base : Nat} {e : TypeId} {size : Nat} {v : Value} {n : Nat} {xs : List Value} (h : w.ownsRow base e size v n xs) : ∃ a cap, v = .slice a n cap := by
  rcases h.2 with ⟨rfl, rfl⟩ | ⟨g, cap, cur, rfl, _⟩
  · exact ⟨_, _, rfl⟩
  · exact ⟨_, _, rfl⟩
theorem own_ge8 {w : World} {base : Nat} {e : TypeId} {size : Nat} {v : Value} {n : Nat} {xs : List Value} (h : w.ownsRow base e size v n xs) {k : Nat} (hk : v.ownBlock = some k) : base ≤ k := by
  rcases h.2 with ⟨rfl, h0⟩ | ⟨g, cap, cur, rfl, h1, _⟩
  · cases hk
  · cases hk; exact h1
theorem below_alloc8 (w : World) (o : Obj) : Below w.heap.size w (w.alloc o) := (Below.refl _ _).alloc (Nat.le_refl _) o
/-- the number, so many bytes further -/
def shrN (n : Int) : Nat → Int
  | 0 => n
  | i + 1 => shrN n i / 256
def byteN (n : Int) (i : Nat) : Int := shrN n i % 256
def bytesN (n : Int) : Nat → List Value
  | 0 => []
  | i + 1 => bytesN n i ++ [.int .u8 (byteN n i)]
theorem ownsRow_below8 {w w' : World} {base : Nat} {e : TypeId} {size : Nat} {v : Value} {n : Nat} {xs : List Value} (h : w.ownsRow base e size v n xs) {m : Nat} (hb : Below m w w') (hm : w.heap.size ≤ m) : w'.ownsRow base e size v n xs := by
  obtain ⟨h1, h2⟩ := h
  refine ⟨h1, ?_⟩
  rcases h2 with h2 | ⟨g, cap, cur, hv, hg, hh, r⟩
  · exact .inl h2
  · exact .inr ⟨g, cap, cur, hv, hg, by rw [hb.block g (by have := (Array.getElem?_eq_some_iff.1 hh).1; omega)]; exact hh, r⟩
set_option maxRecDepth 10000 in
theorem low_c (n : Int) (many : Nat) (hm : many ≤ 8) (w : World) :
    Calls Tryz.prog 58 #[.int .i64 n, .int .i64 many] w fun e w' => ∃ v, e = .returned v ∧ w'.ownsRow w.heap.size 5 1 v many (bytesN n many) ∧ Below w.heap.size w w' := by
  obtain ⟨i0, hi, hz0, hz1, hz2⟩ := info_parts8 info5
  obtain ⟨bm, hbm⟩ : ∃ bm, w.heap.size = bm := ⟨_, rfl⟩
  rw [hbm]
  go_enter Tryz.func58, Tryz.ntmps58
  go_wp2_with fail
  go_loopw [0, 5, 7] (fun v0 v5 v7 wr => ∃ k : Nat, v7 = .int .i64 k ∧ k ≤ many ∧ v0 = .int .i64 (shrN n k) ∧ wr.ownsRow bm 5 1 v5 k (bytesN n k) ∧ Below bm w wr ∧ bm ≤ wr.heap.size) (fun _ _ v7 _ => many - (intOf' v7).toNat)
  case atStart => exact ⟨0, rfl, Nat.zero_le _, rfl, World.ownsRow_nil _ _ _ _, Below.refl _ _, by omega⟩
  case round =>
    obtain ⟨k, rfl, hk, rfl, hown, hB, hsz⟩ := hrel
    obtain ⟨av, cv, rfl⟩ := ownsRow_shape8 hown
    by_cases hlt : k < many
    · have hz : (k : Int) < (many : Int) := by omega
      obtain ⟨Y, hY⟩ : ∃ Y, wr.heap.size = Y := ⟨_, rfl⟩
      obtain ⟨S, hS⟩ : ∃ S, shrN n k = S := ⟨_, rfl⟩
      have NB : Hid (bytesN n (k + 1) = bytesN n k ++ [.int .u8 (S % 256)]) := by rw [← hS]; rfl
      have NS : Hid (shrN n (k + 1) = S / 256) := by rw [← hS]; rfl
      rw [hS]
      clear hS
      have Ba : Hid (Below bm w (wr.alloc (.cells #[.int .u8 (S % 256)] 5))) := hB.trans ((below_alloc8 wr _).mono hsz)
      have HC : Hid (∀ j u, ([.int .u8 (S % 256)] : List Value)[j]? = some u → (wr.alloc (.cells #[.int .u8 (S % 256)] 5)).cell? ((⟨Y, 0, none⟩ : Addr).add j) = some u) := fun j u hj => by
        match j, hj with
        | 0, hj =>
          simp at hj; subst hj
          rw [Addr.add_lit, ← hY, cell_of_row _ wr.heap.size 0 _ 5 (0, 0) (heap_alloc_new wr _)]; rfl
      replace hown := hidI8 hown
      replace hB := hidI8 hB
      go_wp2_with (at_builtin; refine wpList_append_own _ rfl (.tmp 9) (.tmp 12) 48 rfl bm 5 i0 _ 1 1 und48 hi hz0 hz1 hz2 rfl (by decide) _ _ _ rfl (hown.out.alloc _) ⟨Y, 0, none⟩ 1 1 [.int .u8 (S % 256)] rfl rfl HC.out (by simp [Value.oneCell']) (by unfold maxLen; omega) (by omega) (by simp; omega) ?_; intro v' w8 hown8 hg8 hnil; clear hnil; replace hown8 := hidI8 hown8; replace hg8 := hidI8 hg8; clear hi hz0 hz1 hz2)
      have B8 : Below bm w w8 := Ba.out.grown hg8.out (by simp; omega) (fun k hk => own_ge8 hown.out hk)
      have hsz8 : bm ≤ w8.heap.size := by have := hg8.out.size; simp at this; omega
      refine ⟨⟨k + 1, by go_num, by omega, ?_, ?_, B8, hsz8⟩, by simp [intOf']; omega⟩
      · rw [NS.out]
      · rw [NB.out]; exact hown8.out
    · have hz : ¬ (k : Int) < (many : Int) := by omega
      have hkm : many = k := by omega
      subst hkm
      replace hown := hidI8 hown
      replace hB := hidI8 hB
      go_wp2_with fail
      go_ret
      exact ⟨_, rfl, hown.out, hB.out⟩
end Go.Proofs.YthhhpaeheccelaaGreat
