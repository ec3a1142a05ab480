/- From one literal state to the next: the log is a row of which nothing is known but its length. -/
import Derived.Test.YthhhpaeheccelaaGreatLmM
set_option linter.unusedVariables false
set_option linter.unusedSimpArgs false
set_option linter.unusedSectionVars false
set_option maxRecDepth 100000
namespace Go.Proofs.YthhhpaeheccelaaGreat
noncomputable section
open Go.AE Go.RowKit Go.IntWalk
def rhoL (r : Raw) (ρx : Nat → Int) (i : Nat) : Int := if i < 2000 then rhoW r 0 i else ρx i
abbrev valL (r : Raw) (ρx : Nat → Int) (lg : Value) (cL sz : Nat) : Val :=
  { ρ := rhoL r ρx, o := fun i => if i = 0 then .slice r.a r.len r.cap else lg, J := fun μ w => r.J μ w ∧ μ 226 0 = some (cL, sz), keep := fun h X => ⟨r.keep h.1 X, X.mono _ _ _ h.2⟩ }
/-- what the bytes of a number of records are, and their code -/
def BytesOK (ρx : Nat → Int) : Prop := (∀ i, i < 4 → ρx (2010 + i) = byteN (ρx 2001) i) ∧ (∀ i, i < 4 → ρx (2020 + i) = byteN (ρx 2002) i) ∧ ρx 2002 = crcL (ρx 2010) (ρx 2011) (ρx 2012) (ρx 2013)
theorem valL_law (r : Raw) (ρx : Nat → Int) (lg : Value) (cL sz : Nat) (q : Bool) (h : q = true → BytesOK ρx) : @LawVal r q (valL r ρx lg cL sz) := by
  refine @LawVal.mk r q (valL r ρx lg cL sz) (fun i hi => ?_) rfl (fun μ w h => h.1) (fun hq i hi => ?_) (fun hq i hi => ?_) (fun hq => ?_)
  · show (if i < 2000 then rhoW r 0 i else ρx i) = _; rw [if_pos hi]
  · show (if 2010 + i < 2000 then rhoW r 0 (2010 + i) else ρx (2010 + i)) = byteN (if 2001 < 2000 then rhoW r 0 2001 else ρx 2001) i
    rw [if_neg (by omega), if_neg (by omega)]; exact (h hq).1 i hi
  · show (if 2020 + i < 2000 then rhoW r 0 (2020 + i) else ρx (2020 + i)) = byteN (if 2002 < 2000 then rhoW r 0 2002 else ρx 2002) i
    rw [if_neg (by omega), if_neg (by omega)]; exact (h hq).2.1 i hi
  · exact (h hq).2.2
theorem val0_law (r : Raw) : @LawVal r false (r.val 0) :=
  @LawVal.mk r false (r.val 0) (fun _ _ => rfl) rfl (fun μ w h => h) (fun h => by cases h) (fun h => by cases h) (fun h => by cases h)
/-- the state, with the log as an opaque slice of so many bytes; 'cells': the server's row -/
def stL (cells : List (AV × Nat)) (L : List (Nat × ABlk)) : List (Nat × ABlk) := (46, .row true 0 (cells.set 19 (.opq 1, 0))) :: L
structure SL (r : Raw) (w0 : World) (T : List (Nat × AV)) (cells : List (AV × Nat)) (L : List (Nat × ABlk)) (n N : Nat) (ρx : Nat → Int) (a : Act) (w : World) : Prop where
  ex : ∃ lg cL sz cap μ, lg = .slice (some ⟨cL, 0, none⟩) N cap ∧ N ≤ cap ∧ cap ≤ maxLen ∧ cap ≤ sz ∧ @St (valL r ρx lg cL sz) w0 ⟨100, mkT T⟩ (mkH (stL cells L) n) μ a w
/-- what is asked of the state that a run has left -/
def stChk (n : Nat) (gn : List (Nat × Nat)) (tab : List (Nat × Sy)) (T : List (Nat × AV)) (cells : List (AV × Nat)) (L : List (Nat × ABlk)) (x : Option (Ts × AHeap)) : Option Nat :=
  match x with
  | some (ts, A) => bif wkH n gn tab A ((46, .row true 0 cells) :: L) && Nat.beq ts.n 100 && wkT n gn tab ts ⟨100, mkT T⟩ 100 && Nat.blt 19 cells.length && Nat.blt 226 n && AV.beq (ts.f 4) (.ptr 46 0 0) then
      (match aRead1 A 46 0 19 with
      | some (.sl 226 g 0 N _ false 1) => bif Nat.beq g (genOf gn 226) && Nat.beq 0 (genOf gn 46) then some N else none
      | _ => none) else none
  | none => none
/-- the cell of the log is learnt -/
theorem Rel.learn {V : Val} {n : Nat} {cells : List (AV × Nat)} {L : List (Nat × ABlk)} {μ : Mu} {w : World} (R : @Rel V (mkH ((46, .row true 0 cells) :: L) n) μ w) (hn : 46 < n) (hl : 19 < cells.length)
    {v : AV} (hv : v.one = true) (hc : ∀ c sz, μ 46 0 = some (c, sz) → ∃ u, w.cell? ⟨c, 19, none⟩ = some u ∧ @VR V μ v u) : @Rel V (mkH ((46, .row true 0 (cells.set 19 (v, 0))) :: L) n) μ w := by
  refine ⟨@Rel.bound V _ _ _ R, @Rel.inj V _ _ _ R, fun b B hb g c sz hm => ?_⟩
  have hn' : 46 < (mkH L n).n := by rw [mkH_n]; exact hn
  simp only [mkH] at hb
  rw [AHeap.get_set _ _ _ _ hn'] at hb
  by_cases e : b = 46
  · subst e
    simp only [if_true, Option.some.injEq] at hb
    subst hb
    obtain ⟨o, k1, cs, e, fr, k2, k3, k4, k5, k6, k7⟩ := @Rel.blk V _ _ _ R 46 (.row true 0 cells) (by simp only [mkH]; rw [AHeap.get_set _ _ _ _ hn']; simp) g c sz hm
    have hg : g = 0 := by omega
    subst hg
    refine ⟨o, k1, cs, e, fr, k2, k3, k4, k5, fun h => by simpa using k6 h, fun i v' s hi hs => ?_⟩
    rw [List.getElem?_set] at hi
    by_cases e : 19 = i
    · subst e
      simp only [if_true, hl] at hi
      simp only [Option.some.injEq, Prod.mk.injEq] at hi
      obtain ⟨rfl, rfl⟩ := hi
      obtain ⟨u, q1, q2⟩ := hc c sz hm
      refine ⟨u, ?_, q2, hv⟩
      subst k2
      simpa [World.cell?, k1] using q1
    · rw [if_neg e] at hi
      exact k7 i v' s hi hs
  · rw [if_neg e] at hb
    exact @Rel.blk V _ _ _ R b B (by simp only [mkH]; rw [AHeap.get_set _ _ _ _ hn', if_neg e]; exact hb) g c sz hm
theorem SL.of {r : Raw} {V1 : Val} {w0 : World} {ts : Ts} {A : AHeap} {μ : Mu} {a : Act} {w : World} (S : @St V1 w0 ts A μ a w) {n : Nat} {gn : List (Nat × Nat)} {tab : List (Nat × Sy)} {T : List (Nat × AV)} {cells : List (AV × Nat)} {L : List (Nat × ABlk)} {N : Nat}
    (h : stChk n gn tab T cells L (some (ts, A)) = some N) (hN : 0 < N) {ρx : Nat → Int} (H : ∀ lg cL sz, Read2 V1 (valL r ρx lg cL sz) tab) (hj : ∀ μ w, @Val.J V1 μ w → r.J μ w) : SL r w0 T cells L n N ρx a w := by
  unfold stChk at h
  simp only at h
  cases hb : (wkH n gn tab A ((46, .row true 0 cells) :: L) && Nat.beq ts.n 100 && wkT n gn tab ts ⟨100, mkT T⟩ 100 && Nat.blt 19 cells.length && Nat.blt 226 n && AV.beq (ts.f 4) (.ptr 46 0 0)) with
  | false => rw [hb] at h; cases h
  | true =>
  rw [hb] at h
  simp only [Bool.and_eq_true, Nat.beq_eq, Nat.blt_eq] at hb
  obtain ⟨⟨⟨⟨⟨h1, h2⟩, h3⟩, h4⟩, h5⟩, h6⟩ := hb
  simp only [cond_true] at h
  split at h
  case h_2 => cases h
  rename_i g N' lo hr
  cases hg : (Nat.beq g (genOf gn 226) && Nat.beq 0 (genOf gn 46)) with
  | false => rw [hg] at h; cases h
  | true =>
  rw [hg] at h
  simp only [Bool.and_eq_true, Nat.beq_eq] at hg
  obtain ⟨rfl, hg2⟩ := hg
  simp only [cond_true, Option.some.injEq] at h
  subst h
  have R := @St.rel V1 _ _ _ _ _ _ S
  -- the server's block
  have hget : ∃ wr gen cs, aRow A 46 = some (wr, gen, cs) := by
    unfold aRead1 at hr
    simp only [Option.bind_eq_some_iff] at hr
    obtain ⟨⟨wr, gen, cs⟩, q, _⟩ := hr
    exact ⟨wr, gen, cs, q⟩
  have hm : ∃ c sz, μ 46 0 = some (c, sz) := by
    obtain ⟨u, _, q2⟩ := (@St.tr V1 _ _ _ _ _ _ S).2 4 (ts.f 4) (Ts.get_of_lt (by omega))
    rw [AV.eq_of_beq _ _ h6] at q2
    simp only [VR] at q2
    obtain ⟨c, sz, q, _⟩ := q2
    exact ⟨c, sz, q⟩
  · obtain ⟨c, sz, hm⟩ := hm
    obtain ⟨u, hu, _, hcell⟩ := @aRead1_sound V1 A μ w R _ _ _ _ hr c sz hm
    have hu0 := hu
    simp only [VR] at hu
    obtain ⟨cL, szL, cap, off', q0, rfl, q1, q2, q3, q4, q5⟩ := hu
    obtain ⟨rfl, q4'⟩ := q4 (by omega)
    have q6 := q4' trivial
    let lg : Value := .slice (some ⟨cL, 0, none⟩) N' cap
    have h226 : pickMu n gn μ 226 0 = some (cL, szL) := by
      simp only [pickMu]
      have : Nat.blt 226 n = true := by simpa using h5
      simp only [this]
      simpa using q0
    have hJ : @Val.J (valL r ρx lg cL szL) (pickMu n gn μ) w := by
      refine ⟨?_, h226⟩
      rcases hj μ w (@St.j V1 _ _ _ _ _ _ S) with hj | ⟨lb, off, j1, j2, j3, j4⟩
      · exact .inl hj
      · refine .inr ⟨lb, off, j1, j2, j3, fun b' g sz hb => ?_⟩
        simp only [pickMu] at hb
        cases hx : (Nat.beq g 0 && Nat.blt b' n) with
        | false => rw [hx] at hb; cases hb
        | true => rw [hx] at hb; exact j4 _ _ _ hb
    have S1 := St.pick (H lg cL szL) S h1 (by rw [h2]) h3 hJ
    refine ⟨lg, cL, szL, cap, pickMu n gn μ, rfl, by omega, q5, by omega, ?_⟩
    have R1 := @St.rel (valL r ρx lg cL szL) _ _ _ _ _ _ S1
    have R2 := Rel.learn R1 (by omega) h4 (v := .opq 1) rfl (fun c' sz' hm' => by
      have hm2 : pickMu n gn μ 46 0 = some (c, sz) := by
        simp only [pickMu]
        have : Nat.blt 46 n = true := by simp; omega
        simp only [this]
        rw [← hg2]; simpa using hm
      rw [hm2] at hm'
      cases hm'
      exact ⟨_, hcell, by simp only [VR]; exact ⟨rfl, _, _, _, rfl⟩⟩)
    exact @St.mk (valL r ρx lg cL szL) _ _ _ _ _ _ (@St.tr (valL r ρx lg cL szL) _ _ _ _ _ _ S1) R2 hJ (@St.up (valL r ρx lg cL szL) _ _ _ _ _ _ S1) (by
      have := @St.hi (valL r ρx lg cL szL) _ _ _ _ _ _ S1
      rw [mkH_n] at this
      unfold stL
      rw [mkH_n]; exact this) (@St.defers (valL r ρx lg cL szL) _ _ _ _ _ _ S1)
end
end Go.Proofs.YthhhpaeheccelaaGreat
