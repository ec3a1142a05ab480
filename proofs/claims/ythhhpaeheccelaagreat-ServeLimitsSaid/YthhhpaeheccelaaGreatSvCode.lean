/- num.Code, walked: what it makes of bytes, as a function of the list of the bytes. -/
import Derived.Test.YthhhpaeheccelaaGreatStrX
import Derived.OwnWalk
import Derived.Deep.LoopGhost
set_option linter.unusedVariables false
set_option linter.unusedSimpArgs false
namespace Go.Proofs.YthhhpaeheccelaaGreat
open Go.AE Go.RowKit Go.IntWalk
/-- one of eight rounds -/
def crc1 (r : Int) : Int := if bits .and .u32 r 1 = 1 then bits .xor .u32 (r / 2) 3988292384 else r / 2
def crcN : Nat → Int → Int
  | 0, r => r
  | n + 1, r => crc1 (crcN n r)
def crcB (r x : Int) : Int := crcN 8 (bits .xor .u32 r (IntKind.u32.wrap x))
def crcTo (f : Nat → Int) : Nat → Int
  | 0 => 4294967295
  | n + 1 => crcB (crcTo f n) (f n)
def crcOf (f : Nat → Int) (n : Nat) : Int := wrap64 (bits .xor .u32 IntKind.u32.max (crcTo f n))
def intOf' : Value → Int
  | .int _ n => n
  | _ => 0
set_option maxRecDepth 10000 in
theorem code_c (b off n cap : Nat) (f : Nat → Int) (w : World) (hn : n ≤ maxLen) (hcap : n ≤ cap) (hf : Hid (∀ i, i < n → w.cell? ⟨b, off + i, none⟩ = some (.int .u8 (f i)))) :
    Calls Tryz.prog 59 #[.slice (some ⟨b, off, none⟩) n cap] w fun e w' => ∃ v : Int, v = crcOf f n ∧ e = .returned (.int .i64 v) ∧ w' = w := by
  go_enter Tryz.func59, Tryz.ntmps59
  go_wp2_with fail
  go_loopw [3, 8] (fun r i wr => ∃ k : Nat, i = .int .i64 k ∧ k ≤ n ∧ r = .int .u32 (crcTo f k) ∧ wr = w) (fun _ i _ => n - (intOf' i).toNat)
  case atStart => exact ⟨0, rfl, Nat.zero_le _, rfl, rfl⟩
  case round =>
    obtain ⟨k, rfl, hk, rfl, rfl⟩ := hrel
    by_cases hlt : k < n
    · have hcell := hf.out k hlt
      have hz : (k : Int) < (n : Int) := by omega
      go_wp2_with fail
      go_loopw [3, 16] (fun r i wr' => ∃ j : Nat, i = .int .i64 j ∧ j ≤ 8 ∧ r = .int .u32 (crcN j (bits .xor .u32 (crcTo f k) (IntKind.u32.wrap (f k)))) ∧ wr' = wr) (fun _ i _ => 8 - (intOf' i).toNat)
      case atStart => exact ⟨0, rfl, by omega, rfl, rfl⟩
      case round =>
        obtain ⟨j, rfl, hj, rfl, rfl⟩ := hrel
        generalize hR : crcN j (bits .xor .u32 (crcTo f k) (IntKind.u32.wrap (f k))) = R
        by_cases hj8 : j < 8
        · have hz8 : (j : Int) < 8 := by omega
          by_cases hb : bits .and .u32 R 1 = 1
          · have hcr : crc1 R = bits .xor .u32 (R / 2) 3988292384 := by unfold crc1; rw [if_pos hb]
            go_wp2_with fail
            refine ⟨⟨j + 1, by go_num, by omega, ?_, trivial⟩, by simp [intOf']; omega⟩
            rw [← hcr, ← hR]; rfl
          · have hcr : crc1 R = R / 2 := by unfold crc1; rw [if_neg hb]
            go_wp2_with fail
            refine ⟨⟨j + 1, by go_num, by omega, ?_, trivial⟩, by simp [intOf']; omega⟩
            rw [← hcr, ← hR]; rfl
        · have hz8 : ¬ (j : Int) < 8 := by omega
          have hj9 : j = 8 := by omega
          subst hj9
          have hcb : crcTo f (k + 1) = R := hR
          have hkw : wrap64 ((k : Int) + 1) = (k : Int) + 1 := wrap64_in _ (by simp only [maxLen] at hn; omega)
          go_wp2_with fail
          exact ⟨⟨k + 1, by first | go_num | (rw [hkw]; go_num), by omega, by rw [hcb], trivial⟩, by first | (rw [hkw]; simp [intOf']; omega) | (simp [intOf']; omega)⟩
    · have hz : ¬ (k : Int) < (n : Int) := by omega
      have hkn : n = k := by omega
      subst hkn
      go_wp2_with fail
      go_ret
      first | exact ⟨_, rfl, rfl, rfl⟩ | exact ⟨_, rfl, rfl⟩ | exact ⟨rfl, rfl⟩ | exact ⟨rfl, rfl, rfl⟩ | rfl
end Go.Proofs.YthhhpaeheccelaaGreat
