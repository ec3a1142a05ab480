/- The coder's 'one', for each depth. -/
import Derived.Test.YteabbkagekdehaaHc3
set_option linter.unusedVariables false
set_option linter.unusedSimpArgs false
set_option maxRecDepth 100000
namespace Go.Proofs.Yteabbkagekdehaa
open Go.AE Go.RowKit Go.IntWalk
def T83 (d : Int) : TT := (((Tr.leaf.set 0 (.fld 1 0)).set 1 (.rng d d)).set 4 (.cnt 1000)).set 5 (.rng 0 11)
def okS (k n : Nat) (all : Bool) : Option HS → Bool
  | none => true
  | some S => Nat.ble S.K k && Nat.ble S.N n && (!all || (decide (S.T.get 0 = some (.fld 1 0)) && decide (S.T.get 4 = some (.cnt 1000))))
def chkR (k n : Nat) : Option HR → Bool
  | none => false
  | some R => R.exs.isEmpty && okS k n true R.nrm && okS (k + 2) n false R.rt
theorem okS_some {k n : Nat} {all : Bool} {S : HS} (h : okS k n all (some S) = true) : S.K ≤ k ∧ S.N ≤ n ∧ (all = true → S.T.get 0 = some (.fld 1 0) ∧ S.T.get 4 = some (.cnt 1000)) := by
  simp only [okS, Bool.and_eq_true] at h
  obtain ⟨⟨h1, h2⟩, h3⟩ := h
  refine ⟨Nat.le_of_ble_eq_true h1, Nat.le_of_ble_eq_true h2, fun ha => ?_⟩
  subst ha
  simpa using h3
section
variable {r : Raw} {n0 s b base : Nat} {l q st : Int} {W0 : World}
set_option maxHeartbeats 4000000 in
theorem one83 {ext : FuncId → List Ty → Option HRes} (hX : LoudX r n0 s b base l q st W0 ext) (hl : 1 ≤ l ∧ l ≤ 8) (hq : 1 ≤ q ∧ q ≤ 4) {d : Int} {k m fuel : Nat} {x : HRes} (hrun : chkR k m (ckCode (envOf Try.prog) ⟨nbD st, ext⟩ (k + 2) m 207 fuel b83 ⟨T83 d, 0, 0⟩) = true)
    (hxk : x.k = k + 3) (hxn : x.n = m) (hlo : x.loud = true) (hun : x.ty = .unit) : Loud1 r n0 s b base l q st W0 83 [.fld 1 0, .rng d d] x := by
  refine ⟨hlo, hun, fun {K n B w blk} h0 h1 C hK hN {us} hus => ?_⟩
  cases hus with | cons u0 hus =>
  cases hus with | cons u1 hus =>
  cases hus
  obtain ⟨_, t0, _⟩ := u0
  obtain ⟨_, ⟨dz, rfl, d1, d2⟩, _⟩ := u1
  obtain rfl : dz = d := by omega
  have t0 : _ = Value.pointer (some ⟨blk 1, 0, none⟩) := t0
  subst t0
  rw [h1]
  obtain ⟨R, hR⟩ : ∃ R, ckCode (envOf Try.prog) ⟨nbD st, ext⟩ (k + 2) m 207 fuel b83 ⟨T83 dz, 0, 0⟩ = some R := by
    cases hc : ckCode (envOf Try.prog) ⟨nbD st, ext⟩ (k + 2) m 207 fuel b83 ⟨T83 dz, 0, 0⟩ with
    | none => rw [hc] at hrun; cases hrun
    | some R => exact ⟨R, rfl⟩
  rw [hR] at hrun
  simp only [chkR, Bool.and_eq_true] at hrun
  obtain ⟨⟨r1, r2⟩, r3⟩ := hrun
  obtain ⟨a, cap, zs, c6, hown⟩ := C.c.row
  have hP := C.h1
  let blk' : Nat → Nat := fun i => if i = 0 then s else if i = 1 then b else n
  have GO : Hid (∀ (v : Int) (w1 : World) (tm : Array Value) (Q : Exit → Act → World → Prop), CS r n0 s b base l q st W0 (K + 1) n w1 → 0 ≤ v → v < 12 → tm.size = 207 → tm.getD 0 undef = .pointer (some ⟨b, 0, none⟩) → tm.getD 1 undef = .int .i64 dz → tm.getD 4 undef = .int .i64 n → tm.getD 5 undef = .int .i64 v →
      (∀ a w, t83.wp Try.prog (bodyPost Try.prog Try.f83 (PostC r n0 s b base l q st W0 n (K + x.k) x.n)) a w → Q .normal a w) → (∀ a w, bodyPost Try.prog Try.f83 (PostC r n0 s b base l q st W0 n (K + x.k) x.n) .ret a w → Q .ret a w) → b83.wp Try.prog Q ⟨tm, []⟩ w1) := by
    intro v w1 tm Q C1 v0 v1 s1 s2 s3 s4 s5 hQ1 hQ2
    have hst : At1 (linv hX (blk := blk') rfl rfl hl hq (K + 1) n (k + 2) m (by omega) (by omega)) 207 [] ⟨T83 dz, 0, 0⟩ ⟨tm, []⟩ w1 := by
      refine ⟨w1.heap.size, LI.start C1, s1, rfl, fun t τ ht => ?_⟩
      simp only [T83, Tr.get_set] at ht
      split at ht
      · rename_i e; subst e; cases ht; exact ⟨0, ⟨v, s5, v0, by omega⟩, fun n hn => by cases hn⟩
      · split at ht
        · rename_i e; subst e; cases ht; exact ⟨0, s4, fun n hn => by cases hn⟩
        · split at ht
          · rename_i e; subst e; cases ht; exact ⟨0, ⟨dz, s3, Int.le_refl _, Int.le_refl _⟩, fun n hn => by cases hn⟩
          · split at ht
            · rename_i e; subst e; cases ht; exact ⟨0, s2, fun n hn => by cases hn⟩
            · have : (Tr.leaf : TT).get t = none := Tr.getF_leaf _ _
              rw [this] at ht; cases ht
    refine code_sound2 hmixed b83 _ R hR _ _ _ hst ⟨fun S hS a' w' hA => ?_, fun p hp => ?_, fun S hS a' w' hA => ?_⟩
    · rw [hS] at r2
      obtain ⟨k1, k2, k3⟩ := okS_some r2
      obtain ⟨k4, k5⟩ := k3 rfl
      obtain ⟨B', HA⟩ := hA
      obtain ⟨n', g1, g2, C2⟩ := HA.inv.cs
      obtain ⟨_, q1, _⟩ := HA.ty 0 _ k4
      obtain ⟨_, q2, _⟩ := HA.ty 4 _ k5
      refine hQ1 _ _ ?_
      have := tail83 (N := x.n) (C2.mono (show K + 1 + S.K ≤ K + 1 + k by omega)) g1 (by omega) (by omega) HA.n HA.ds q1 q2
      rw [show K + 1 + k + 2 = K + x.k by omega] at this
      exact this
    · have : R.exs = [] := by simpa using r1
      rw [this] at hp; cases hp
    · rw [hS] at r3
      obtain ⟨k1, k2, _⟩ := okS_some r3
      obtain ⟨B', HA⟩ := hA
      obtain ⟨n', g1, g2, C2⟩ := HA.inv.cs
      refine hQ2 _ _ ⟨HA.ds, _, results_none rfl _ _ _, _, rfl, n', g1, by omega, C2.mono (by omega)⟩
  clear hR r1 r2 r3
  have GO' : Hid _ := GO
  clear GO
  show Calls Try.prog 83 _ w (PostC r n0 s b base l q st W0 n (K + x.k) x.n)
  go_enter Try.func83, Try.ntmps83
  go_wp2_with fail
  refine (cnext C (by omega) (by omega) (by omega)).mono ?_
  rintro e w1 ⟨v, rfl, v0, v1, C1, -, -⟩
  go_upto_block 0 with fail
  refine GO'.out v w1 _ _ C1 v0 v1 rfl rfl rfl rfl rfl (fun a w h => ?_) (fun a w h => h)
  apply_assumption
  exact h
def extM := extAdd 101 [.fld 1 0] rMem extA
theorem extM_ok (hst : st = 0 ∨ st = 16) (hl : 1 ≤ l ∧ l ≤ 8) (hq : 1 ≤ q ∧ q ≤ 4) : LoudX r n0 s b base l q st W0 extM := loudAdd_ok (mem_L hst hl hq) (extA_ok hst)
def rOne0 : HRes := ⟨.unit, 15, 2, true⟩
def rOne1 : HRes := ⟨.unit, 66, 10, true⟩
def rOne2 : HRes := ⟨.unit, 270, 42, true⟩
def rOne3 : HRes := ⟨.unit, 1086, 170, true⟩
def extN0 := extAdd 83 [.fld 1 0, .rng 0 0] rOne0 extM
def extN1 := extAdd 83 [.fld 1 0, .rng 1 1] rOne1 extM
def extN2 := extAdd 83 [.fld 1 0, .rng 2 2] rOne2 extM
theorem one_0_0 : chkR 12 2 (ckCode (envOf Try.prog) ⟨nbD 0, extM⟩ (12 + 2) 2 207 10 b83 ⟨T83 0, 0, 0⟩) = true := by kernel_rfl
theorem one_0_16 : chkR 12 2 (ckCode (envOf Try.prog) ⟨nbD 16, extM⟩ (12 + 2) 2 207 10 b83 ⟨T83 0, 0, 0⟩) = true := by kernel_rfl
theorem one_1_0 : chkR 63 10 (ckCode (envOf Try.prog) ⟨nbD 0, extN0⟩ (63 + 2) 10 207 10 b83 ⟨T83 1, 0, 0⟩) = true := by kernel_rfl
theorem one_1_16 : chkR 63 10 (ckCode (envOf Try.prog) ⟨nbD 16, extN0⟩ (63 + 2) 10 207 10 b83 ⟨T83 1, 0, 0⟩) = true := by kernel_rfl
theorem one_2_0 : chkR 267 42 (ckCode (envOf Try.prog) ⟨nbD 0, extN1⟩ (267 + 2) 42 207 10 b83 ⟨T83 2, 0, 0⟩) = true := by kernel_rfl
theorem one_2_16 : chkR 267 42 (ckCode (envOf Try.prog) ⟨nbD 16, extN1⟩ (267 + 2) 42 207 10 b83 ⟨T83 2, 0, 0⟩) = true := by kernel_rfl
theorem one_3_0 : chkR 1083 170 (ckCode (envOf Try.prog) ⟨nbD 0, extN2⟩ (1083 + 2) 170 207 10 b83 ⟨T83 3, 0, 0⟩) = true := by kernel_rfl
theorem one_3_16 : chkR 1083 170 (ckCode (envOf Try.prog) ⟨nbD 16, extN2⟩ (1083 + 2) 170 207 10 b83 ⟨T83 3, 0, 0⟩) = true := by kernel_rfl
theorem one_L0 (hst : st = 0 ∨ st = 16) (hl : 1 ≤ l ∧ l ≤ 8) (hq : 1 ≤ q ∧ q ≤ 4) : Loud1 r n0 s b base l q st W0 83 [.fld 1 0, .rng 0 0] rOne0 := by
  have hX : LoudX r n0 s b base l q st W0 extM := extM_ok hst hl hq
  rcases hst with rfl | rfl
  · exact one83 hX hl hq (x := rOne0) one_0_0 rfl rfl rfl rfl
  · exact one83 hX hl hq (x := rOne0) one_0_16 rfl rfl rfl rfl
theorem one_L1 (hst : st = 0 ∨ st = 16) (hl : 1 ≤ l ∧ l ≤ 8) (hq : 1 ≤ q ∧ q ≤ 4) : Loud1 r n0 s b base l q st W0 83 [.fld 1 0, .rng 1 1] rOne1 := by
  have hX : LoudX r n0 s b base l q st W0 extN0 := loudAdd_ok (one_L0 hst hl hq) (extM_ok hst hl hq)
  rcases hst with rfl | rfl
  · exact one83 hX hl hq (x := rOne1) one_1_0 rfl rfl rfl rfl
  · exact one83 hX hl hq (x := rOne1) one_1_16 rfl rfl rfl rfl
theorem one_L2 (hst : st = 0 ∨ st = 16) (hl : 1 ≤ l ∧ l ≤ 8) (hq : 1 ≤ q ∧ q ≤ 4) : Loud1 r n0 s b base l q st W0 83 [.fld 1 0, .rng 2 2] rOne2 := by
  have hX : LoudX r n0 s b base l q st W0 extN1 := loudAdd_ok (one_L1 hst hl hq) (extM_ok hst hl hq)
  rcases hst with rfl | rfl
  · exact one83 hX hl hq (x := rOne2) one_2_0 rfl rfl rfl rfl
  · exact one83 hX hl hq (x := rOne2) one_2_16 rfl rfl rfl rfl
theorem one_L3 (hst : st = 0 ∨ st = 16) (hl : 1 ≤ l ∧ l ≤ 8) (hq : 1 ≤ q ∧ q ≤ 4) : Loud1 r n0 s b base l q st W0 83 [.fld 1 0, .rng 3 3] rOne3 := by
  have hX : LoudX r n0 s b base l q st W0 extN2 := loudAdd_ok (one_L2 hst hl hq) (extM_ok hst hl hq)
  rcases hst with rfl | rfl
  · exact one83 hX hl hq (x := rOne3) one_3_0 rfl rfl rfl rfl
  · exact one83 hX hl hq (x := rOne3) one_3_16 rfl rfl rfl rfl
end
end Go.Proofs.Yteabbkagekdehaa
