/- packer.next: from whatever state it comes to the best that can be. -/
import Derived.Test.YteabbkagekdehaaPack3
set_option linter.unusedVariables false
set_option linter.unusedSimpArgs false
namespace Go.Proofs.Yteabbkagekdehaa
open Go.AE Go.RowKit Go.IntWalk Go.PackLaw
/-- what is given -/
structure Giv (n K : Nat) (S : Nat → Int) (C : Int) (PP : List Pr) : Prop where
  n6 : n ≤ 6
  k1 : 1 ≤ K
  k8 : K ≤ 8
  s : ∀ t, t < n → 1 ≤ S t ∧ S t ≤ 4096
  c : 1 ≤ C ∧ C ≤ 4096
  pp : ∀ x ∈ PP, x.1 ≠ x.2 ∧ hi x < n
  len : PP.length ≤ 1000
set_option maxHeartbeats 2000000 in
set_option maxRecDepth 10000 in
theorem pnext_c {p gU base n K : Nat} {aS : Option Addr} {capS : Nat} {S : Nat → Int} {C : Int} {PP : List Pr} (G : Giv n K S C PP) : ∀ (rem : Nat) {N : List Nat} {U : Nat → Int} {l : Int} {vN vB : Value} {BL : List Nat} {w : World},
    N.length + rem = n → -1 ≤ l → (∀ t, t < K → 0 ≤ U t ∧ U t ≤ 4096) → PSt p gU base n K aS capS S C PP N U l vN vB BL w →
    Calls Try.prog 52 #[.pointer (some ⟨p, 0, none⟩)] w fun e w' => e = .returned (.tuple #[]) ∧ ∃ (l' : Int) (vN' vB' : Value) (BL' : List Nat), PSt p gU base n K aS capS S C PP N U l' vN' vB' BL' w' ∧ Oth2 p gU base w w' ∧ Res PP S C K n N U K l l' BL BL' := by
  intro rem
  induction rem with
  | zero =>
    intro N U l vN vB BL w hrem hl hU h
    obtain ⟨aN, capN, rfl⟩ := ownsRow_shape h.now
    have hconf := conflicts_c (p := p) (m := N.length) (cap := capN) (a := aN) (N := asn N) (PP := PP) (w := w) (by have := G.n6; omega) h.cN (fun t ht => by
      rcases h.now.2 with ⟨_, h0⟩ | ⟨g, cap, cur, hv, _⟩
      · omega
      · simp only [Value.slice.injEq] at hv
        obtain ⟨rfl, _⟩ := hv
        refine ⟨g, rfl, ?_⟩
        rw [h.now.cellAt t (by omega)]
        simp [ints, asn, List.getD, ht]) h.cM (fun x hx => (G.pp x hx).1) G.len
    have hcl := confTo_le' PP (asn N) N.length
    have hlen := G.len
    have hn6 := G.n6
    have hk8 := G.k8
    have HU : Hid (∀ t, t < K → 0 ≤ U t ∧ U t ≤ 4096) := hU
    clear hU
    have HP : Hid _ := h
    clear h
    obtain ⟨cf, hcf⟩ : ∃ cf, confTo PP (asn N) N.length = cf := ⟨_, rfl⟩
    have HCF : Hid (confTo PP (asn N) N.length = cf) := hcf
    rw [hcf] at hconf hcl
    clear hcf
    obtain ⟨i, hi⟩ : ∃ i, N.length = i := ⟨_, rfl⟩
    have HI : Hid (N.length = i) := hi
    rw [hi] at hrem
    go_enter Try.func52, Try.ntmps52
    go_wp2_with fail
    refine hconf.mono ?_
    rintro e w1 ⟨rfl, q, rfl⟩
    have h1 := HP.out.drew q
    have hcN := h1.cN
    have hcL := h1.cL
    have hcS := h1.cS
    rw [hi] at hcN
    have HP1 : Hid _ := h1
    have O1 : Oth2 p gU base w (w.drewN q) := (Oth2.refl _ _ _ _).drew q
    clear HP h1 hconf
    generalize w.drewN q = w1 at *
    by_cases hst : 0 ≤ l ∧ l ≤ (cf : Int)
    · obtain ⟨s1, s2⟩ := hst
      go_wp2_with fail
      refine bodyPost_ret (results_none (by rfl) _ _ _) rfl ?_
      exact ⟨rfl, l, _, vB, BL, HP1.out, O1, Res.stop s1 (by rw [HCF.out]; exact s2)⟩
    · have hneq : (i : Int) = (n : Int) := by omega
      have hin : i = n := by omega
      have hclone := clone_c (base := base) (n := N.length) (v := .slice aN N.length capN) (xs := N.map (fun b : Nat => (b : Int))) (w := w1) HP1.out.now (by omega)
      rw [hi, hin] at hclone
      have hcb := HP1.out.cB
      have hfz := HP1.out.fz
      have hall : confTo PP (asn N) N.length = tog PP (asn N) := by rw [hi, hin]; exact confTo_all (fun x hx => (G.pp x hx).2) _
      have HALL : Hid _ := hall
      clear hall
      rcases (by omega : l < 0 ∨ (0 ≤ l ∧ (cf : Int) < l)) with s1 | ⟨s1, s2⟩
      all_goals
        clear hst
        go_wp2_with fail
        refine hclone.mono ?_
        rintro e w2 ⟨v', rfl, hown', B2⟩
        have hP2 : Hid (PSt p gU base n K aS capS S C PP N U l (.slice aN N.length capN) vB BL w2) := HP1.out.oth B2.block B2.size
        have hO2 : Hid (Oth2 p gU base w w2) := O1.trans ⟨B2.os, B2.tape, B2.output, B2.size, fun k h1 h2 h3 => B2.block k (by have := HP1.out.lt.2.2.2; omega)⟩
        have hB := B2.size
        have d38 := hP2.out.cB
        have d41 := hP2.out.cL
        have f38 := hP2.out.fz 38
        have f41 := hP2.out.fz 41
        have hbase := HP1.out.lt.2.2.2
        obtain ⟨a2, cap2, rfl⟩ := ownsRow_shape hown'
        have HOWN : Hid (w2.ownsRow w1.heap.size 3 1 (.slice a2 n cap2) n (ints N)) := hown'
        clear hclone hcN hcL hcS hcb hfz B2 hown'
        go_wp2_with fail
        refine bodyPost_ret (results_none (by rfl) _ _ _) rfl ?_
        have hfin := hP2.out.setBest (v' := .slice a2 n cap2) (BL' := N) (l' := (cf : Int)) (ownsRow_base HOWN.out hbase) (fun k hk e => by
          have h1 := (HP1.out.now.lt k hk).2
          have h2 := (HOWN.out.lt k e).1
          omega) (fun k hk => by have h2 := HOWN.out.lt k hk; omega)
        refine ⟨rfl, (cf : Int), _, _, N, hfin, (hO2.out.setP 38 _).setP 41 _, ?_⟩
        have hd := Res.done (PP := PP) (S := S) (C := C) (K := K) (n := n) (N := N) (U := U) (B := K) (l := l) (b := BL) (by omega) (by rw [← HALL.out, HCF.out]; omega)
        rw [← HALL.out, HCF.out] at hd
        exact hd
  | succ rem ih =>
    intro N U l vN vB BL w hrem hl hU h
    obtain ⟨aN, capN, rfl⟩ := ownsRow_shape h.now
    have hconf := conflicts_c (p := p) (m := N.length) (cap := capN) (a := aN) (N := asn N) (PP := PP) (w := w) (by have := G.n6; omega) h.cN (fun t ht => by
      rcases h.now.2 with ⟨_, h0⟩ | ⟨g, cap, cur, hv, _⟩
      · omega
      · simp only [Value.slice.injEq] at hv
        obtain ⟨rfl, _⟩ := hv
        refine ⟨g, rfl, ?_⟩
        rw [h.now.cellAt t (by omega)]
        simp [ints, asn, List.getD, ht]) h.cM (fun x hx => (G.pp x hx).1) G.len
    have hcl := confTo_le' PP (asn N) N.length
    have hlen := G.len
    have hn6 := G.n6
    have hk8 := G.k8
    have HIH : Hid _ := @ih
    have HU : Hid (∀ t, t < K → 0 ≤ U t ∧ U t ≤ 4096) := hU
    clear ih hU
    have HP : Hid _ := h
    clear h
    obtain ⟨cf, hcf⟩ : ∃ cf, confTo PP (asn N) N.length = cf := ⟨_, rfl⟩
    have HCF : Hid (confTo PP (asn N) N.length = cf) := hcf
    rw [hcf] at hconf hcl
    clear hcf
    obtain ⟨i, hi⟩ : ∃ i, N.length = i := ⟨_, rfl⟩
    have HI : Hid (N.length = i) := hi
    rw [hi] at hrem
    go_enter Try.func52, Try.ntmps52
    go_wp2_with fail
    refine hconf.mono ?_
    rintro e w1 ⟨rfl, q, rfl⟩
    have h1 := HP.out.drew q
    have hcN := h1.cN
    have hcL := h1.cL
    have hcS := h1.cS
    rw [hi] at hcN
    have HP1 : Hid _ := h1
    have O1 : Oth2 p gU base w (w.drewN q) := (Oth2.refl _ _ _ _).drew q
    clear HP h1 hconf
    generalize w.drewN q = w1 at *
    have hcU := HP1.out.cU
    by_cases hst : 0 ≤ l ∧ l ≤ (cf : Int)
    · obtain ⟨s1, s2⟩ := hst
      go_wp2_with fail
      refine bodyPost_ret (results_none (by rfl) _ _ _) rfl ?_
      exact ⟨rfl, l, _, vB, BL, HP1.out, O1, Res.stop s1 (by rw [HCF.out]; exact s2)⟩
    · have hneq : ((i : Int) == (n : Int)) = false := by simp; omega
      have hiN : (i : Int) < (n : Int) := by omega
      rcases (by by_cases h : l < 0; exact .inl h; exact .inr ⟨by omega, by simp; omega⟩ : l < 0 ∨ (0 ≤ l ∧ decide (l ≤ (cf : Int)) = false)) with s1 | ⟨s1, s2⟩
      all_goals
        clear hst
        go_wp2_with fail
        go_loopw [51] (fun ib wr => ∃ (b : Nat) (l' : Int) (vN' vB' : Value) (BL' : List Nat), ib = .int .i64 b ∧ b ≤ K ∧ Hid (PSt p gU base n K aS capS S C PP N U l' vN' vB' BL' wr) ∧ Hid (Oth2 p gU base w wr) ∧ Hid (Res PP S C K n N U b l l' BL BL'))
          (fun ib _ => K - (intOf ib).toNat)
        case atStart => exact ⟨0, l, _, vB, BL, rfl, by omega, HP1.out, O1, Res.start hl (by omega)⟩
        case round =>
          clear hcN hcL hcS hcU O1
          obtain ⟨b, l', vN', vB', BL', rfl, hb, hP, hO, hR⟩ := hrel
          by_cases hlt : b < K
          · have hz : (b : Int) < (K : Int) := by omega
            obtain ⟨gS, rfl, hgS1, hgS2, hgS3, cSi⟩ := hP.out.sz i (by omega)
            have cS := hP.out.cS
            have cU := hP.out.cU
            have cC := hP.out.cC
            have cb := (hP.out.us b hlt).1
            have hub := HU.out b hlt
            have hsi := G.s i (by omega)
            have hcc := G.c
            by_cases hov : C < U b + S i
            · go_wp2_with fail
              go_quiet (fail)
              clear cS cU cC cb cSi
              go_wp2_with fail
              go_roundw
              case rel => exact ⟨b + 1, l', vN', vB', BL', by go_num, by omega, hP.out.drew nq, hO.out.drew nq, hR.out.over (by rw [HI.out]; exact hov)⟩
              case measure => simp [intOf]; omega
            · go_wp2_with fail
              go_quiet (fail)
              have hP2 : Hid (PSt p gU base n K (some ⟨gS, 0, none⟩) capS S C PP N U l' vN' vB' BL' (wr.drewN nq)) := hP.out.drew nq
              have hO2 : Hid (Oth2 p gU base w (wr.drewN nq)) := hO.out.drew nq
              have cS2 : (wr.drewN nq).cell? ⟨p, 0, none⟩ = some (.slice (some ⟨gS, 0, none⟩) n capS) := cS
              have cU2 : (wr.drewN nq).cell? ⟨p, 39, none⟩ = some (.slice (some ⟨gU, 0, none⟩) K K) := cU
              have cb2 : (wr.drewN nq).cell? ⟨gU, b, none⟩ = some (.int .i64 (U b)) := cb
              have cSi2 : (wr.drewN nq).cell? ⟨gS, i, none⟩ = some (.int .i64 (S i)) := cSi
              have fb2 : (wr.drewN nq).frozen? ⟨gU, b, none⟩ = false := (hP.out.us b hlt).2
              clear cS cU cC cb cSi hP hO
              generalize wr.drewN nq = w2 at hP2 hO2 cS2 cU2 cb2 cSi2 fb2 ⊢
              have hpg : p ≠ gU := hP2.out.lt.2.2.1
              go_wp2_with fail
              go_region
              obtain ⟨x, hx⟩ : ∃ x, U b + S i = x := ⟨_, rfl⟩
              rw [hx]
              have hP3 : Hid (PSt p gU base n K (some ⟨gS, 0, none⟩) capS S C PP N (up U b x) l' vN' vB' BL' (w2.setCell ⟨gU, b, none⟩ (.int .i64 x)).drew) := (hP2.out.setU hlt x).drew1
              have hO3 : Hid (Oth2 p gU base w (w2.setCell ⟨gU, b, none⟩ (.int .i64 x)).drew) := (hO2.out.setU b _).drew1
              clear cS2 cU2 cb2 cSi2 fb2 hP2 hO2
              generalize (w2.setCell ⟨gU, b, none⟩ (.int .i64 x)).drew = w3 at hP3 hO3 ⊢
              have cN3 := hP3.out.cN
              have hlw := hP3.out.lt.2.2.2
              have hnow3 : w3.ownsRow base 3 1 vN' i (ints N) := by rw [← HI.out]; exact hP3.out.now
              go_wp2_with (at_builtin; refine wpList_push rfl (.tmp 94) (.tmp 96) rfl base vN' i (ints N) rfl (hnow3.alloc _) w3.heap.size (.int .i64 b) rfl (by rw [cell_of_row _ w3.heap.size 0 _ 3 (0, 0) (heap_alloc_new w3 _)]; rfl) rfl (by omega) (by simp; omega) ?_; intro v' w4 hown4 hg4 hap4; obtain ⟨c37, f37⟩ := hP3.out.pushfacts hg4; obtain ⟨a4, cap4, rfl⟩ := ownsRow_shape hown4)
              have hx4 : x ≤ C := by omega
              have hP4 : Hid (PSt p gU base n K (some ⟨gS, 0, none⟩) capS S C PP (N ++ [b]) (up U b x) l' (.slice a4 (i + 1) cap4) vB' BL' (w4.setCell ⟨p, 37, none⟩ (.slice a4 (i + 1) cap4))) := by
                have h4 := hP3.out.oth (w' := w3.alloc (.cells #[.int .i64 b] 3)) (fun k hk => Below.heap_alloc _ _ _ hk) (by simp)
                exact h4.pushed hg4 (by rw [HI.out]; exact hown4) (hap4.imp id fun h k hk => h k hk)
              have hO4 : Hid (Oth2 p gU base w (w4.setCell ⟨p, 37, none⟩ (.slice a4 (i + 1) cap4))) := (hO3.out.pushed hP3.out hg4).setP 37 _
              clear hown4 hg4 hap4 c37 f37 hnow3 cN3 hP3 hO3
              generalize w4.setCell ⟨p, 37, none⟩ (.slice a4 (i + 1) cap4) = w5 at hP4 hO4 ⊢
              have hnext := HIH.out (N := N ++ [b]) (by simp; omega) hR.out.neg (fun t ht => by
                unfold up
                by_cases e : t = b
                · simp only [if_pos e]; omega
                · simp only [if_neg e]; exact HU.out t ht) hP4.out
              go_wp2_with fail
              refine hnext.mono ?_
              rintro e w6 ⟨rfl, l2, vN2, vB2, BL2, hP6, hO6, hR6⟩
              clear hnext hP4
              obtain ⟨g6, cap6, rfl, hcap6, hP7⟩ := hP6.cut
              have c6 := hP6.cN
              have f6 := hP6.fz 37
              rw [hi] at hcap6
              have hic : i ≤ cap6 := by omega
              have HP7 : Hid _ := hP7
              have HO6 : Hid _ := hO4.out.trans hO6
              have HR6 : Hid _ := hR6
              rw [hi] at c6
              clear hP6 hP7 hO6 hR6 hO4 hcap6
              go_wp2_with fail
              have h7 := HP7.out
              rw [hi] at h7
              have hO7 : Hid (Oth2 p gU base w (w6.setCell ⟨p, 37, none⟩ (.slice (some ⟨g6, 0, none⟩) i cap6))) := HO6.out.setP 37 _
              have HP8 : Hid _ := h7
              clear HP7 HO6 c6 f6 h7
              generalize w6.setCell ⟨p, 37, none⟩ (.slice (some ⟨g6, 0, none⟩) i cap6) = w7 at HP8 hO7 ⊢
              have cS7 := HP8.out.cS
              have cU7 := HP8.out.cU
              have cb7 := (HP8.out.us b hlt).1
              have fb7 := (HP8.out.us b hlt).2
              obtain ⟨gS', hgS', _, _, _, cSi7⟩ := HP8.out.sz i (by omega)
              obtain rfl : gS = gS' := by simpa using hgS'
              have hupb : up U b x b = x := by simp [up]
              rw [hupb] at cb7
              clear hgS' hupb
              have hxs : x - S i = U b := by omega
              have HXS : Hid (x - S i = U b) := hxs
              clear hxs
              go_region
              have hP9 : Hid (PSt p gU base n K (some ⟨gS, 0, none⟩) capS S C PP N U l2 (.slice (some ⟨g6, 0, none⟩) i cap6) vB2 BL2 (w7.setCell ⟨gU, b, none⟩ (.int .i64 (x - S i))).drew) := by
                have h := (HP8.out.setU hlt (x - S i)).congrU (U' := U) fun t ht => by
                  unfold up
                  by_cases e : t = b
                  · simp only [if_pos e, e]; exact HXS.out
                  · simp only [if_neg e]
                exact h.drew1
              have hO9 : Hid (Oth2 p gU base w (w7.setCell ⟨gU, b, none⟩ (.int .i64 (x - S i))).drew) := (hO7.out.setU b _).drew1
              clear cS7 cU7 cb7 fb7 cSi7 HP8 hO7
              generalize (w7.setCell ⟨gU, b, none⟩ (.int .i64 (x - S i))).drew = w8 at hP9 hO9 ⊢
              go_wp2_with fail
              go_roundw
              case rel => exact ⟨b + 1, l2, _, vB2, BL2, by go_num, by omega, hP9.out, hO9.out, hR.out.next hlt (by rw [HI.out]; omega) (fun t _ => by rw [HI.out, hx]) HR6.out⟩
              case measure => simp [intOf]; omega
          · have hz : ¬ (b : Int) < (K : Int) := by omega
            have hbK : K = b := by omega
            subst hbK
            go_wp2_with fail
            go_end0
            exact ⟨rfl, l', vN', vB', BL', hP.out, hO.out, hR.out⟩
end Go.Proofs.Yteabbkagekdehaa
