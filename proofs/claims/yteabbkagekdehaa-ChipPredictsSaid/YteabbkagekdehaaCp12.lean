/- The document's clock: waiting for a queue. -/
import Derived.Test.YteabbkagekdehaaCp11
import Derived.BigRegion
set_option linter.unusedVariables false
set_option linter.unusedSimpArgs false
set_option maxRecDepth 100000
namespace Go.Proofs.Yteabbkagekdehaa
open Go.AE Go.RowKit Go.IntWalk
/-- the document's clock lies there -/
structure Prd (w : World) (bp bq : Nat) (m0 m1 m2 m3 m4 : Int) (c nn : Nat) (g : Nat → Nat) : Prop where
  ms : Keep5 w bp m0 m1 m2 m3 m4
  c5 : w.cell? ⟨bp, 5, none⟩ = some (zI c)
  c6 : w.cell? ⟨bp, 6, none⟩ = some (.map (some bq))
  f5 : w.frozen? ⟨bp, 5, none⟩ = false
  mp : MpAt w bq nn g
  lk : bp < w.heap.size
  lq : bq < w.heap.size
  ne : bp ≠ bq
theorem Prd.cyc {w : World} {bp bq : Nat} {m0 m1 m2 m3 m4 : Int} {c nn : Nat} {g : Nat → Nat} (h : Prd w bp bq m0 m1 m2 m3 m4 c nn g) (c' : Nat) : Prd (w.setCell ⟨bp, 5, none⟩ (zI c')) bp bq m0 m1 m2 m3 m4 c' nn g ∧ FrB bp bq w (w.setCell ⟨bp, 5, none⟩ (zI c')) := by
  have o : ∀ i, i ≠ 5 → (w.setCell ⟨bp, 5, none⟩ (zI c')).cell? ⟨bp, i, none⟩ = w.cell? ⟨bp, i, none⟩ := fun i hi => World.cell?_setCell_other _ _ _ _ (fun q => hi (by cases q; rfl))
  obtain ⟨k0, k1, k2, k3, k4⟩ := h.ms
  have OS := oth_setCell w bp 5 (zI c')
  exact ⟨⟨⟨by rw [o 0 (by decide)]; exact k0, by rw [o 1 (by decide)]; exact k1, by rw [o 2 (by decide)]; exact k2, by rw [o 3 (by decide)]; exact k3, by rw [o 4 (by decide)]; exact k4⟩, World.cell?_setCell_same _ _ _ h.c5, by rw [o 6 (by decide)]; exact h.c6, by rw [World.frozen?_setCell]; exact h.f5, h.mp.block (OS.block bq h.lq (Ne.symm h.ne)), by rw [csize_set]; exact h.lk, by rw [csize_set]; exact h.lq, h.ne⟩,
    ⟨OS.os, OS.tape, OS.output, OS.size, fun k h1 h2 _ => OS.block k h1 h2⟩⟩
theorem Prd.below {w w' : World} {bp bq : Nat} {m0 m1 m2 m3 m4 : Int} {c nn : Nat} {g : Nat → Nat} (h : Prd w bp bq m0 m1 m2 m3 m4 c nn g) (H : Below w.heap.size w w') : Prd w' bp bq m0 m1 m2 m3 m4 c nn g :=
  ⟨(Keep5.below h.ms H h.lk).1, by rw [H.cell (by exact h.lk)]; exact h.c5, by rw [H.cell (by exact h.lk)]; exact h.c6, by rw [H.frozen (by exact h.lk)]; exact h.f5, h.mp.block (H.block bq h.lq), Nat.lt_of_lt_of_le h.lk H.size, Nat.lt_of_lt_of_le h.lq H.size, h.ne⟩
/-- only the map has turned -/
theorem Prd.turn {w w' : World} {bp bq : Nat} {m0 m1 m2 m3 m4 : Int} {c nn nn' : Nat} {g g' : Nat → Nat} (h : Prd w bp bq m0 m1 m2 m3 m4 c nn g) (hm : MpAt w' bq nn' g') (H : Oth bq w w') : Prd w' bp bq m0 m1 m2 m3 m4 c nn' g' ∧ FrB bp bq w w' := by
  obtain ⟨k0, k1, k2, k3, k4⟩ := h.ms
  have o : ∀ i, w'.cell? ⟨bp, i, none⟩ = w.cell? ⟨bp, i, none⟩ := fun i => H.cell (by exact h.lk) (by exact h.ne)
  exact ⟨⟨⟨by rw [o 0]; exact k0, by rw [o 1]; exact k1, by rw [o 2]; exact k2, by rw [o 3]; exact k3, by rw [o 4]; exact k4⟩, by rw [o 5]; exact h.c5, by rw [o 6]; exact h.c6, by rw [H.frozen (by exact h.lk) (by exact h.ne)]; exact h.f5, hm, Nat.lt_of_lt_of_le h.lk H.size, Nat.lt_of_lt_of_le h.lq H.size, h.ne⟩,
    ⟨H.os, H.tape, H.output, H.size, fun k h1 _ h3 => H.block k h1 h3⟩⟩
theorem turned_oth {w w' : World} {b : Nat} (h : w.mapTurned w' b) : Oth b w w' := by
  have hg := h.grown
  exact ⟨hg.os, hg.tape, hg.output, hg.size, fun k hk hne => hg.block k hk (fun e => hne (by cases e; rfl))⟩
theorem wait_c {w : World} {bp bq : Nat} {m0 m1 m2 m3 m4 : Int} {c nn : Nat} {g : Nat → Nat} (h : Prd w bp bq m0 m1 m2 m3 m4 c nn g) {q : Nat} (hq : q < 4) :
    Calls Try.prog 70 #[.pointer (some ⟨bp, 0, none⟩), zI q] w fun en w' => en = .returned (.tuple #[]) ∧ Prd w' bp bq m0 m1 m2 m3 m4 (max c (g q)) nn (fun k => if k = q then 0 else g k) ∧ FrB bp bq w w' := by
  have k5 := h.c5
  have k6 := h.c6
  have f5 := h.f5
  have hl := h.mp.look hq
  have hld : (Instr.lookup 100 (.map (some bq)) (.int .i64 (q : Int)) false).run Try.prog w.drew = .ok (.int .i64 (g q : Nat)) w.drew := (MpAt.block (w' := w.drew) h.mp rfl).look hq
  have H := hidI h
  clear h
  go_enter Try.func70, Try.ntmps70
  go_wp2_with fail
  go_region
  have hmx : max (c : Int) (g q : Int) = ((max c (g q) : Nat) : Int) := by omega
  rw [hmx]
  have hcy := Prd.cyc H.out (max c (g q))
  have P2 : Prd (w.setCell ⟨bp, 5, none⟩ (zI ((max c (g q) : Nat) : Int))).drew bp bq m0 m1 m2 m3 m4 (max c (g q)) nn g := hcy.1.below ⟨rfl, rfl, rfl, Nat.le_refl _, fun _ _ => rfl⟩
  have F2 : FrB bp bq w (w.setCell ⟨bp, 5, none⟩ (zI ((max c (g q) : Nat) : Int))).drew := hcy.2.trans (FrB.of_below ⟨rfl, rfl, rfl, Nat.le_refl _, fun _ _ => rfl⟩)
  obtain ⟨w2, hw2⟩ : ∃ w2, (w.setCell ⟨bp, 5, none⟩ (zI ((max c (g q) : Nat) : Int))).drew = w2 := ⟨_, rfl⟩
  rw [hw2] at P2 F2
  rw [hw2]
  clear hw2 hcy hmx k5 k6 f5 hl hld
  have k6 := P2.c6
  obtain ⟨D, d1, d2, d3⟩ := P2.mp
  replace P2 := hidI P2
  replace F2 := hidI F2
  replace d2 := hidI d2
  replace d3 := hidI d3
  go_wp2_with (at_delete; refine wpList_delete_own _ rfl (.tmp 21) (.tmp 22) 100 3 rfl 3 (Go.Maps.int_keyed Try.underlying3) Try.underlying100 _ bq nn D rfl d1 (.int .i64 (q : Int)) (.int .i64 q) rfl (key_q hq) ?_; intro w5 hown5 hturn5)
  have M5 : MpAt w5 bq nn (fun k => if k = q then 0 else g k) := by
    refine ⟨_, hown5, ?_, fun k hk => ?_⟩
    · obtain ⟨es, rfl⟩ := d2.out
      exact ⟨_, rfl⟩
    · show _ = DataW.lit (Lit.int .i64 ((if k = q then 0 else g k : Nat) : Int))
      by_cases e : k = q
      · subst e
        rw [Go.Maps.atKey_del_same, if_pos rfl]
        rfl
      · rw [Go.Maps.atKey_del_other (fun q' => e (by injection q' with q1 q2; omega)), if_neg e]
        exact d3.out k hk
  have T5 := P2.out.turn M5 (turned_oth hturn5)
  have FIN := hidI (⟨T5.1, F2.out.trans T5.2⟩ : _ ∧ _)
  go_end0
  exact ⟨rfl, FIN.out⟩
end Go.Proofs.Yteabbkagekdehaa
