/- What the law's runs take otherwise: the stream, num.Code, low, bytes.Clone. -/
import Derived.Test.YthhhpaeheccelaaGreatLmCode
import Derived.Test.YthhhpaeheccelaaGreatSvRange
set_option linter.unusedVariables false
set_option linter.unusedSimpArgs false
set_option linter.unusedSectionVars false
namespace Go.Proofs.YthhhpaeheccelaaGreat
noncomputable section
open Go.AE Go.RowKit Go.IntWalk
def crcL (b0 b1 b2 b3 : Int) : Int := crcOf (fun i => ([1, 0, b0, b1, b2, b3, 4] : List Int).getD i 0) 7
class LawVal (r : Raw) (q : Bool) [Val] : Prop where
  low : ∀ i, i < 2000 → Val.ρ i = rhoW r 0 i
  opq : Val.o 0 = .slice r.a r.len r.cap
  j : ∀ μ w, Val.J μ w → r.J μ w
  b1 : q = true → ∀ i, i < 4 → Val.ρ (2010 + i) = byteN (Val.ρ 2001) i
  b2 : q = true → ∀ i, i < 4 → Val.ρ (2020 + i) = byteN (Val.ρ 2002) i
  crc : q = true → Val.ρ 2002 = crcL (Val.ρ 2010) (Val.ρ 2011) (Val.ρ 2012) (Val.ρ 2013)
section
variable [Val]
theorem Rel.add8 {A : AHeap} {μ : Mu} {w w' : World} (R : Rel A μ w) (hn : ∀ g, μ A.n g = none) (B : Below w.heap.size w w') {c sz : Nat} {o : Obj} {blk : ABlk} (hc : w.heap.size ≤ c) (hh : w'.heap[c]? = some o) (hB : BlkR μ blk 0 sz o) :
    Rel (A.push blk) (upd μ A.n 0 (c, sz)) w' ∧ Ext A (A.push blk) μ (upd μ A.n 0 (c, sz)) w w' := by
  have hle : MuLe μ (upd μ A.n 0 (c, sz)) := MuLe.upd (hn 0)
  have hcs : c < w'.heap.size := (Array.getElem?_eq_some_iff.1 hh).1
  refine ⟨⟨fun b g c1 sz1 h => ?_, fun b g c1 sz1 b' g' sz' h h' => ?_, fun b B' hb g c1 sz1 h => ?_⟩, ?_⟩
  · by_cases e : b = A.n ∧ g = 0
    · obtain ⟨rfl, rfl⟩ := e; rw [upd_same] at h; cases h; exact hcs
    · rw [upd_other _ _ e] at h; have := R.bound _ _ _ _ h; have := B.size; omega
  · by_cases e : b = A.n ∧ g = 0 <;> by_cases e' : b' = A.n ∧ g' = 0
    · exact e.1.trans e'.1.symm
    · obtain ⟨rfl, rfl⟩ := e; rw [upd_same] at h; cases h; rw [upd_other _ _ e'] at h'; have := R.bound _ _ _ _ h'; omega
    · obtain ⟨rfl, rfl⟩ := e'; rw [upd_same] at h'; cases h'; rw [upd_other _ _ e] at h; have := R.bound _ _ _ _ h; omega
    · rw [upd_other _ _ e] at h; rw [upd_other _ _ e'] at h'; exact R.inj _ _ _ _ _ _ _ h h'
  · rw [AHeap.get_push] at hb
    by_cases e : b = A.n
    · subst e
      simp only [if_true, Option.some.injEq] at hb
      subst hb
      by_cases hg : g = 0
      · subst hg; rw [upd_same] at h; cases h; exact ⟨o, hh, hB.mono hle⟩
      · rw [upd_other _ _ (fun x => hg x.2), hn] at h; cases h
    · rw [if_neg e] at hb
      rw [upd_other _ _ (fun x => e x.1)] at h
      obtain ⟨o1, k1, k2⟩ := R.blk b B' hb g c1 sz1 h
      exact ⟨o1, by rw [B.block c1 (R.bound _ _ _ _ h)]; exact k1, k2.mono hle⟩
  · refine ⟨hle, fun b g hb => upd_other _ _ (fun x => by simp at hb; omega), fun b g h1 h2 => ?_, by simp, B.os, B.tape, B.output, B.size, fun b g c1 sz1 h => ?_, fun b hb hw => ?_, fun c1 hc1 _ => B.block c1 hc1⟩
    · have : b = A.n := by simp at h2; omega
      subst this; exact hn g
    · by_cases e : b = A.n ∧ g = 0
      · obtain ⟨rfl, rfl⟩ := e; rw [upd_same] at h; cases h; exact .inr hc
      · rw [upd_other _ _ e] at h; exact .inl ⟨g, h⟩
    · unfold aWr at hw ⊢; rw [AHeap.get_push, if_neg (by omega)]; exact hw
/-! ### low -/
def lowCells (v : AV) (m : Nat) (q : Bool) : Option (List AV) :=
  match v with
  | .int .i64 n => some ((List.range m).map fun i => .int .u8 (byteN n i))
  | .sym .i64 (.var j) => bif q && Nat.ble m 4 then (bif Nat.beq j 2001 then some ((List.range m).map fun i => .sym .u8 (.var (2010 + i))) else bif Nat.beq j 2002 then some ((List.range m).map fun i => .sym .u8 (.var (2020 + i))) else none) else none
  | _ => none
def extLow (q : Bool) (args : List AV) (H : AHeap) : Option (AV × AHeap) :=
  match args with
  | [x, .int .i64 m] => bif decide (0 < m) && decide (m ≤ 8) then (lowCells x m.toNat q).bind fun vs => some (.sl H.n 0 0 m.toNat m.toNat false 1, H.push (.row true 0 (stamp0 vs))) else none
  | _ => none
omit [Val] in
theorem bytesN_get (n : Int) : ∀ (m i : Nat), i < m → (bytesN n m)[i]? = some (.int .u8 (byteN n i))
  | 0, i, h => by omega
  | m + 1, i, h => by
    have hl : (bytesN n m).length = m := by
      have : ∀ m, (bytesN n m).length = m := fun m => by induction m with
        | zero => rfl
        | succ m ih => simp [bytesN, ih]
      exact this m
    simp only [bytesN]
    by_cases e : i < m
    · rw [List.getElem?_append_left (by omega)]; exact bytesN_get n m i e
    · rw [List.getElem?_append_right (by omega), hl]
      have : i = m := by omega
      subst this; simp
theorem lowCells_ok {r : Raw} {q : Bool} [LawVal r q] {v : AV} {m : Nat} {vs : List AV} (h : lowCells v m q = some vs) {μ : Mu} {u : Value} (hu : VR μ v u) : ∃ n : Int, u = .int .i64 n ∧ vs.length = m ∧ ∀ i v', vs[i]? = some v' → VR μ v' (.int .u8 (byteN n i)) ∧ v'.one = true := by
  unfold lowCells at h
  split at h
  · rename_i n
    simp only [Option.some.injEq] at h
    subst h
    simp only [VR] at hu
    refine ⟨n, hu, by simp, fun i v' hi => ?_⟩
    simp only [List.getElem?_map, Option.map_eq_some_iff] at hi
    obtain ⟨j, hj, rfl⟩ := hi
    have : j = i := by have := List.getElem?_eq_some_iff.1 hj; obtain ⟨_, e⟩ := this; simpa using e.symm
    subst this
    exact ⟨by simp only [VR], rfl⟩
  · rename_i j
    cases hq : (q && Nat.ble m 4) with
    | false => rw [hq] at h; cases h
    | true =>
    rw [hq] at h
    simp only [Bool.and_eq_true, Nat.ble_eq] at hq
    simp only [cond_true] at h
    cases h1 : Nat.beq j 2001 with
    | true =>
      simp only [h1, cond_true, Option.some.injEq] at h
      subst h
      have : j = 2001 := by simpa using h1
      subst this
      simp only [VR, Sy.ev] at hu
      refine ⟨_, hu, by simp, fun i v' hi => ?_⟩
      simp only [List.getElem?_map, Option.map_eq_some_iff] at hi
      obtain ⟨j, hj, rfl⟩ := hi
      obtain ⟨hl, e⟩ := List.getElem?_eq_some_iff.1 hj
      have e' : j = i := by simpa using e.symm
      subst e'
      simp at hl
      exact ⟨by simp only [VR, Sy.ev]; rw [LawVal.b1 r hq.1 j (by omega)], rfl⟩
    | false =>
      simp only [h1, cond_false] at h
      cases h2 : Nat.beq j 2002 with
      | false => simp only [h2, cond_false] at h; cases h
      | true =>
        simp only [h2, cond_true, Option.some.injEq] at h
        subst h
        have : j = 2002 := by simpa using h2
        subst this
        simp only [VR, Sy.ev] at hu
        refine ⟨_, hu, by simp, fun i v' hi => ?_⟩
        simp only [List.getElem?_map, Option.map_eq_some_iff] at hi
        obtain ⟨j, hj, rfl⟩ := hi
        obtain ⟨hl, e⟩ := List.getElem?_eq_some_iff.1 hj
        have e' : j = i := by simpa using e.symm
        subst e'
        simp at hl
        exact ⟨by simp only [VR, Sy.ev]; rw [LawVal.b2 r hq.1 j (by omega)], rfl⟩
  · cases h
theorem extLow_inv {q : Bool} {args : List AV} {A : AHeap} {v : AV} {A' : AHeap} (h : extLow q args A = some (v, A')) :
    ∃ x m vs, args = [x, .int .i64 m] ∧ 0 < m ∧ m ≤ 8 ∧ lowCells x m.toNat q = some vs ∧ v = .sl A.n 0 0 m.toNat m.toNat false 1 ∧ A' = A.push (.row true 0 (stamp0 vs)) := by
  unfold extLow at h
  split at h
  · rename_i x m
    cases hb : (decide (0 < m) && decide (m ≤ 8)) with
    | false => rw [hb] at h; cases h
    | true =>
      rw [hb] at h
      simp only [Bool.and_eq_true, decide_eq_true_eq] at hb
      simp only [cond_true, Option.bind_eq_some_iff, Option.some.injEq, Prod.mk.injEq] at h
      obtain ⟨vs, h1, rfl, rfl⟩ := h
      exact ⟨x, m, vs, rfl, hb.1, hb.2, h1, rfl, rfl⟩
  · cases h
theorem extLow_ok {r : Raw} {q : Bool} [LawVal r q] {args : List AV} {A : AHeap} {v : AV} {A' : AHeap} (h : extLow q args A = some (v, A')) {μ : Mu} {w : World} {us : List Value} (R : Rel A μ w) (hus : VRs μ args us) (hfr : Fresh μ A.n A'.n) :
    Calls Tryz.prog 58 us.toArray w fun e w' => ∃ u μ', e = .returned u ∧ VR μ' v u ∧ Rel A' μ' w' ∧ Ext A A' μ μ' w w' := by
  obtain ⟨x, m, vs, rfl, m0, m8, h1, rfl, rfl⟩ := extLow_inv h
  simp only [VRs] at hus
  obtain ⟨u1, us1, rfl, hu1, u2, us2, rfl, hu2, rfl⟩ := hus
  simp only [VR] at hu2
  subst hu2
  obtain ⟨n, rfl, hl, hk⟩ := lowCells_ok (r := r) h1 hu1
  have hm : ((m.toNat : Nat) : Int) = m := by omega
  have hn : ∀ g, μ A.n g = none := fun g => hfr _ g (Nat.le_refl _) (by simp)
  have hc := low_c n m.toNat (by omega) w
  rw [hm] at hc
  refine hc.mono ?_
  rintro e w' ⟨v, rfl, hown, hB⟩
  rcases hown.2 with ⟨rfl, h0⟩ | ⟨g, cap, cur, rfl, hg, hh, q1, q2, q3, q4⟩
  · omega
  have hB0 : BlkR μ (.row true 0 (stamp0 vs)) 0 cur.size (.cells cur 5 (0, 0)) := by
    refine ⟨cur, 5, (0, 0), rfl, rfl, fun _ => rfl, Nat.le_refl _, fun _ => by simp [stamp0, hl]; omega, fun i v s hi _ => ?_⟩
    simp only [stamp0, List.getElem?_map, Option.map_eq_some_iff, Prod.mk.injEq] at hi
    obtain ⟨v', e1, rfl, _⟩ := hi
    obtain ⟨k1, k2⟩ := hk i v' e1
    have hi2 : i < m.toNat := by have := (List.getElem?_eq_some_iff.1 e1).1; omega
    have := bytesN_get n m.toNat i hi2
    rw [← q4, Nat.mul_one, List.getElem?_take, if_pos hi2] at this
    exact ⟨_, by simpa using this, k1, k2⟩
  obtain ⟨p1, p2⟩ := Rel.add8 R hn hB hg hh hB0
  refine ⟨_, _, rfl, ?_, p1, p2⟩
  simp only [VR]
  exact ⟨g, cur.size, cap, 0, upd_same _ _ _ _, rfl, Nat.le_refl _, q1, (fun h => by cases h), fun _ => ⟨rfl, fun _ => by omega⟩, q2⟩
/-! ### num.Code -/
def patQ : List AV := [.int .u8 1, .int .u8 0, .sym .u8 (.var 2010), .sym .u8 (.var 2011), .sym .u8 (.var 2012), .sym .u8 (.var 2013), .int .u8 4]
def extCodeQ (q : Bool) (args : List AV) (H : AHeap) : Option (AV × AHeap) :=
  match args with
  | [.sl b g off len lo ex es] => bif q && Nat.beq es 1 && Nat.beq len 7 && (match aRead H b g off 7 with | some vs => AV.beqs vs patQ | none => false) then some (.sym .i64 (.var 2002), H) else extCode [.sl b g off len lo ex es] H
  | _ => none
theorem extCodeQ_n {q : Bool} {args : List AV} {A : AHeap} {v : AV} {A' : AHeap} (h : extCodeQ q args A = some (v, A')) : A' = A := by
  unfold extCodeQ at h
  split at h
  · rename_i b g off len lo ex es
    cases hb : (q && Nat.beq es 1 && Nat.beq len 7 && (match aRead A b g off 7 with | some vs => AV.beqs vs patQ | none => false)) with
    | true => rw [hb] at h; simp only [cond_true, Option.some.injEq, Prod.mk.injEq] at h; exact h.2.symm
    | false => rw [hb] at h; simp only [cond_false] at h; obtain ⟨_, _, _, _, _, _, _, _, _, _, _, _, _, _, rfl⟩ := extCode_inv h; rfl
  · cases h
theorem extCodeQ_ok {r : Raw} {q : Bool} [LawVal r q] {args : List AV} {A : AHeap} {v : AV} {A' : AHeap} (h : extCodeQ q args A = some (v, A')) {μ : Mu} {w : World} {us : List Value} (R : Rel A μ w) (hus : VRs μ args us) :
    Calls Tryz.prog 59 us.toArray w fun e w' => ∃ u μ', e = .returned u ∧ VR μ' v u ∧ Rel A' μ' w' ∧ Ext A A' μ μ' w w' := by
  unfold extCodeQ at h
  split at h
  · rename_i b g off len lo ex es
    cases hb : (q && Nat.beq es 1 && Nat.beq len 7 && (match aRead A b g off 7 with | some vs => AV.beqs vs patQ | none => false)) with
    | false => rw [hb] at h; simp only [cond_false] at h; exact extCode_ok h R hus
    | true =>
      rw [hb] at h
      simp only [Bool.and_eq_true, Nat.beq_eq] at hb
      obtain ⟨⟨⟨rfl, rfl⟩, rfl⟩, hb⟩ := hb
      simp only [cond_true, Option.some.injEq, Prod.mk.injEq] at h
      obtain ⟨rfl, rfl⟩ := h
      split at hb
      · rename_i vs hvs
        have e := AV.eq_of_beqs _ _ hb
        subst e
        simp only [VRs] at hus
        obtain ⟨u1, us1, rfl, hu1, rfl⟩ := hus
        simp only [VR] at hu1
        obtain ⟨c, sz, cap, off', hm, rfl, q1, q2, q3, q4, q5⟩ := hu1
        obtain ⟨rfl, _⟩ := q4 (by omega)
        obtain ⟨ws, r1, r2, r3, r4⟩ := aRead_sound R hvs hm
        have hws : ws = [.int .u8 1, .int .u8 0, .int .u8 (Val.ρ 2010), .int .u8 (Val.ρ 2011), .int .u8 (Val.ρ 2012), .int .u8 (Val.ρ 2013), .int .u8 4] := by
          simp only [patQ, VRs, VR, Sy.ev] at r1
          obtain ⟨_, _, rfl, rfl, _, _, rfl, rfl, _, _, rfl, rfl, _, _, rfl, rfl, _, _, rfl, rfl, _, _, rfl, rfl, _, _, rfl, rfl, rfl⟩ := r1
          rfl
        subst hws
        refine (code_c c off' 7 cap (fun i => ([1, 0, Val.ρ 2010, Val.ρ 2011, Val.ρ 2012, Val.ρ 2013, 4] : List Int).getD i 0) w (by simp only [maxLen]; omega) (by omega) (fun i hi => ?_)).mono ?_
        · have key : ∀ i, i < 7 → ([.int .u8 1, .int .u8 0, .int .u8 (Val.ρ 2010), .int .u8 (Val.ρ 2011), .int .u8 (Val.ρ 2012), .int .u8 (Val.ρ 2013), .int .u8 4] : List Value)[i]? = some (.int .u8 (([1, 0, Val.ρ 2010, Val.ρ 2011, Val.ρ 2012, Val.ρ 2013, 4] : List Int).getD i 0)) := fun i hi => by
            match i, hi with
            | 0, _ => rfl
            | 1, _ => rfl
            | 2, _ => rfl
            | 3, _ => rfl
            | 4, _ => rfl
            | 5, _ => rfl
            | 6, _ => rfl
          have := r4 i _ (key i hi)
          rwa [Addr.add_lit] at this
        · rintro e w' ⟨x, rfl, rfl, rfl⟩
          exact ⟨_, μ, rfl, by simp only [VR, Sy.ev]; rw [LawVal.crc r rfl]; rfl, R, Ext.refl _ _ _⟩
      · cases hb
  · cases h
/-! ### bytes.Clone -/
def extClone (args : List AV) (H : AHeap) : Option (AV × AHeap) :=
  match args with
  | [.sl b g off len lo ex es] => bif Nat.beq es 1 && Nat.blt 0 len && Nat.ble len 1000000000 && !ex && (aRow H b).isSome && Nat.beq off 0 then some (.sl H.n 0 0 len len false 1, H.push (.row true 0 [])) else none
  | _ => none
theorem extClone_inv {args : List AV} {A : AHeap} {v : AV} {A' : AHeap} (h : extClone args A = some (v, A')) :
    ∃ b g len lo, args = [.sl b g 0 len lo false 1] ∧ 0 < len ∧ len ≤ 1000000000 ∧ (∃ x, aRow A b = some x) ∧ v = .sl A.n 0 0 len len false 1 ∧ A' = A.push (.row true 0 []) := by
  unfold extClone at h
  split at h
  · rename_i b g off len lo ex es
    cases hb : (Nat.beq es 1 && Nat.blt 0 len && Nat.ble len 1000000000 && !ex && (aRow A b).isSome && Nat.beq off 0) with
    | false => rw [hb] at h; cases h
    | true =>
      rw [hb] at h
      simp only [Bool.and_eq_true, Nat.beq_eq, Nat.blt_eq, Nat.ble_eq, Bool.not_eq_true'] at hb
      obtain ⟨⟨⟨⟨⟨rfl, h1⟩, h2⟩, rfl⟩, h3⟩, rfl⟩ := hb
      simp only [cond_true, Option.some.injEq, Prod.mk.injEq] at h
      exact ⟨b, g, len, lo, rfl, h1, h2, Option.isSome_iff_exists.1 h3, h.1.symm, h.2.symm⟩
  · cases h
theorem extClone_ok {args : List AV} {A : AHeap} {v : AV} {A' : AHeap} (h : extClone args A = some (v, A')) {μ : Mu} {w : World} {us : List Value} (R : Rel A μ w) (hus : VRs μ args us) (hfr : Fresh μ A.n A'.n) :
    Calls Tryz.prog 45 us.toArray w fun e w' => ∃ u μ', e = .returned u ∧ VR μ' v u ∧ Rel A' μ' w' ∧ Ext A A' μ μ' w w' := by
  obtain ⟨b, g, len, lo, rfl, l0, l1, ⟨⟨wr, gen, cells⟩, hrow⟩, rfl, rfl⟩ := extClone_inv h
  simp only [VRs] at hus
  obtain ⟨u1, us1, rfl, hu1, rfl⟩ := hus
  simp only [VR] at hu1
  obtain ⟨c, sz, cap, off', hm, rfl, q1, q2, q3, q4, q5⟩ := hu1
  obtain ⟨rfl, q4'⟩ := q4 (by omega)
  have q6 := q4' trivial
  obtain ⟨cs, e, fr, hw, hsz, _⟩ := Rel.row R hrow hm
  have hn : ∀ g, μ A.n g = none := fun g => hfr _ g (Nat.le_refl _) (by simp)
  refine (clone_c c len cap cs e fr w hw l0 (by omega) l1).mono ?_
  rintro en w' ⟨gn, ncap, us', rfl, hg, hh, s1, s2, s3, hB⟩
  have hB0 : BlkR μ (.row true 0 []) 0 us'.size (.cells us' 5 (0, 0)) := ⟨us', 5, (0, 0), rfl, rfl, fun _ => rfl, Nat.le_refl _, fun _ => by simp, fun i v s hi _ => by simp at hi⟩
  obtain ⟨p1, p2⟩ := Rel.add8 R hn hB hg hh hB0
  refine ⟨_, _, rfl, ?_, p1, p2⟩
  simp only [VR]
  exact ⟨gn, us'.size, ncap, 0, upd_same _ _ _ _, rfl, Nat.le_refl _, s2, (fun h => by cases h), fun _ => ⟨rfl, fun _ => by omega⟩, s3⟩
end
end
end Go.Proofs.YthhhpaeheccelaaGreat
