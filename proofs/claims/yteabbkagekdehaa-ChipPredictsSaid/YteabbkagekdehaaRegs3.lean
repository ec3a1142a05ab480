/- chip.Registers: whatever lives and count, the registers that it gives, or the error. -/
import Derived.Test.YteabbkagekdehaaRegs2
import Derived.Test.YteabbkagekdehaaSort1
import Derived.Test.YteabbkagekdehaaCrowd1
import Derived.OwnWalk
import Derived.Deep.LoopGhost
set_option linter.unusedVariables false
set_option linter.unusedSimpArgs false
namespace Go.Proofs.Yteabbkagekdehaa
open Go.AE Go.RowKit Go.IntWalk Go.Greedy
theorem info3 : (Try.prog.info? 3).map (fun i => (i.zero, i.size, i.bytes)) = some (some (.int .i64 0), 1, 8) := by kernel_rfl
/-- n integers stand in block g, to be written -/
def RowAt (g n : Nat) (f : Nat → Int) (w : World) : Prop := ∀ t, t < n → w.cell? ⟨g, t, none⟩ = some (.int .i64 (f t)) ∧ w.frozen? ⟨g, t, none⟩ = false
theorem RowAt.block {g n : Nat} {f : Nat → Int} {w w' : World} (h : RowAt g n f w) (hb : w'.heap[g]? = w.heap[g]?) : RowAt g n f w' := fun t ht =>
  ⟨by rw [World.cell?_of_block (w := w) hb]; exact (h t ht).1, by rw [World.frozen?_of_block (w := w) hb]; exact (h t ht).2⟩
theorem RowAt.set {g n : Nat} {f : Nat → Int} {w : World} (h : RowAt g n f w) {i : Nat} (hi : i < n) (x : Int) : RowAt g n (fun t => if t = i then x else f t) (w.setCell ⟨g, i, none⟩ (.int .i64 x)) := fun t ht => by
  refine ⟨?_, by rw [World.frozen?_setCell]; exact (h t ht).2⟩
  by_cases e : t = i
  · subst e
    rw [World.cell?_setCell_same _ _ _ (h t ht).1]; simp
  · rw [World.cell?_setCell_other _ _ _ _ (by simp [e])]; simp only [if_neg e]; exact (h t ht).1
theorem RowAt.of_made {w : World} {base g n cap : Nat} (h : w.ownsRow base 3 1 (.slice (some ⟨g, 0, none⟩) n cap) n (madeCells (Value.int .i64 0).cells (n * 1)).toList) : RowAt g n (fun _ => 0) w := fun t ht => by
  refine ⟨?_, h.frozenAt t⟩
  rw [h.cellAt t (by omega)]
  have : (Value.int .i64 0).cells = #[.int .i64 0] := rfl
  rw [this, Nat.mul_one, toList_madeCells_one]
  simp [ht]
def Bad (L : List LifeV) (j : Nat) : Prop := LF L j < 0 ∨ LT L j < LF L j
/-- what Registers answers -/
def RegsPost (L : List LifeV) (count : Int) (w : World) (e : Ending) (w' : World) : Prop := Go.RowKit.Below w.heap.size w w' ∧ ∃ (gv : Value) (err : Int), e = .returned (.tuple #[gv, .int .i64 err]) ∧
  (((∃ j, j < L.length ∧ Bad L j) ∧ gv = .slice none 0 0 ∧ err = 1) ∨
   ((∀ j, j < L.length → ¬ Bad L j) ∧ (count < 1 ∨ 64 < count) ∧ gv = .slice none 0 0 ∧ err = 9) ∨
   ((∀ j, j < L.length → ¬ Bad L j) ∧ 1 ≤ count ∧ count ≤ 64 ∧ (∃ i, i < L.length ∧ count < cnt (LF L) (LT L) L.length i) ∧ gv = .slice none 0 0 ∧ err = 16) ∨
   ((∀ j, j < L.length → ¬ Bad L j) ∧ 1 ≤ count ∧ count ≤ 64 ∧ err = 0 ∧ ∃ (out : Nat → Nat) (l : List Nat) (go cap : Nat), gv = .slice (some ⟨go, 0, none⟩) L.length cap ∧ w.heap.size ≤ go ∧
      RowAt go L.length (fun t => (out t : Int)) w' ∧ Greedy.Good (LF L) (LT L) out l ∧ (∀ i, i < L.length → i ∈ l) ∧ (∀ i, i < L.length → (out i : Int) < count) ∧ l.Nodup ∧ ∀ j ∈ l, j < L.length))
theorem RowAt.congr {g n : Nat} {f f' : Nat → Int} {w : World} (h : RowAt g n f w) (e : ∀ t, t < n → f t = f' t) : RowAt g n f' w := fun t ht => by rw [← e t ht]; exact h t ht
theorem stable_nil (g cap bl : Nat) (w : World) : Calls Try.prog 62 #[.slice (some ⟨g, 0, none⟩) 0 cap, .func (.func 63) #[] #[.pointer (some ⟨bl, 0, none⟩)]] w fun e w' => e = .returned (.tuple #[]) ∧ w' = w := by
  have h105 : Calls Try.prog 105 #[.slice (some ⟨g, 0, none⟩) 0 cap, .int .i64 0, .int .i64 0, .func (.func 63) #[] #[.pointer (some ⟨bl, 0, none⟩)]] w fun e w' => e = .returned (.tuple #[]) ∧ w' = w := by
    go_enter Try.func105, Try.ntmps105
    go_wp2_with fail
    go_loopw [8] (fun b wr => b = .int .i64 1 ∧ wr = w) (fun _ _ => 0)
    case atStart => exact ⟨rfl, rfl⟩
    case round =>
      obtain ⟨rfl, rfl⟩ := hrel
      go_wp2_with fail
      go_end0
      exact ⟨rfl, rfl⟩
  have h86 : Calls Try.prog 86 #[.slice (some ⟨g, 0, none⟩) 0 cap, .int .i64 0, .func (.func 63) #[] #[.pointer (some ⟨bl, 0, none⟩)]] w fun e w' => e = .returned (.tuple #[]) ∧ w' = w := by
    go_enter Try.func86, Try.ntmps86
    go_wp2_with fail
    go_loopw [7, 8] (fun a b wr => a = .int .i64 0 ∧ b = .int .i64 20 ∧ wr = w) (fun _ _ _ => 0)
    case atStart => exact ⟨rfl, rfl, rfl⟩
    case round =>
      obtain ⟨rfl, rfl, rfl⟩ := hrel
      go_wp2_with fail
      refine h105.mono ?_
      rintro e w1 ⟨rfl, rfl⟩
      go_wp2_with fail
      go_loopw [6] (fun b wr => b = .int .i64 20 ∧ wr = w1) (fun _ _ => 0)
      case atStart => exact ⟨rfl, rfl⟩
      case round =>
        obtain ⟨rfl, rfl⟩ := hrel
        go_wp2_with fail
        go_end0
        exact ⟨rfl, rfl⟩
  go_enter Try.func62, Try.ntmps62
  go_wp2_with fail
  refine h86.mono ?_
  rintro e w1 ⟨rfl, rfl⟩
  go_wp2_with fail
  go_end0
  exact ⟨rfl, rfl⟩
set_option maxHeartbeats 1000000 in
set_option maxRecDepth 10000 in
theorem regs_c {a : Option Addr} {cap : Nat} {L : List LifeV} {w : World} {count : Int} (h13 : L.length ≤ 13) (hok : ∀ x ∈ L, x.ok) (hg : ∀ j, j < L.length → ∃ g, a = some ⟨g, 0, none⟩ ∧ g < w.heap.size ∧ LivesAt g L w) :
    Calls Try.prog 28 #[.slice a L.length cap, .int .i64 count] w (RegsPost L count w) := by
  have HG : Hid _ := hg
  have HOK : Hid _ := hok
  obtain ⟨i0, hi, hz0, hz1, hz2'⟩ := info_parts info3
  have HP : Hid (RegsPost L count w = RegsPost L count w) := rfl
  generalize hR : RegsPost L count w = R at HP ⊢
  have HR : Hid _ := hR
  clear hg hok hR HP
  generalize hn : L.length = n at *
  have HN : Hid _ := hn
  clear hn
  obtain ⟨B, hB⟩ : ∃ B, w.heap.size = B := ⟨_, rfl⟩
  have fin1 : Hid (∀ w' k, Go.RowKit.Below B w w' → k < n → Bad L k → R (.returned (.tuple #[.slice none 0 0, .int .i64 1])) w') := fun w' k b hk hbad => by
    rw [← HR.out]; exact ⟨by rw [hB]; exact b, _, _, rfl, .inl ⟨⟨k, by rw [HN.out]; exact hk, hbad⟩, rfl, rfl⟩⟩
  have fin9 : Hid (∀ w', Go.RowKit.Below B w w' → (∀ k, k < n → ¬ Bad L k) → (count < 1 ∨ 64 < count) → R (.returned (.tuple #[.slice none 0 0, .int .i64 9])) w') := fun w' b hbad hc => by
    rw [← HR.out]; exact ⟨by rw [hB]; exact b, _, _, rfl, .inr (.inl ⟨fun j hj => hbad j (by rw [← HN.out]; exact hj), hc, rfl, rfl⟩)⟩
  go_enter Try.func28, Try.ntmps28
  go_wp2_with fail
  go_loopw [18] (fun i wr => ∃ k : Nat, i = .int .i64 k ∧ k ≤ n ∧ Hid (∀ j, j < k → ¬ Bad L j) ∧ wr.cell? ⟨B, 0, none⟩ = some (.slice a n cap) ∧ B < wr.heap.size ∧ Go.RowKit.Below B w wr)
    (fun i _ => n - (intOf i).toNat)
  case atStart => exact ⟨0, rfl, by omega, fun j h => by omega, by rw [← hB, cell_of_row _ w.heap.size 0 _ 52 (0, 0) (heap_alloc_new w _)]; rfl, by simp [hB], by rw [← hB]; exact below_alloc w _⟩
  case round =>
    obtain ⟨k, rfl, hk, hbad, hbox, hsz, B1⟩ := hrel
    by_cases hlt : k < n
    · obtain ⟨g, rfl, hgw, hl⟩ := HG.out k hlt
      have hl1 : LivesAt g L wr := hl.block (B1.block g (by omega))
      obtain ⟨c0, c1, c2, c3⟩ := hl1 k (by have := HN.out; omega)
      have hz : (k : Int) < (n : Int) := by omega
      have nxt : Hid (∀ cs e, (wr.alloc (.cells cs e)).cell? ⟨B, 0, none⟩ = some (.slice (some ⟨g, 0, none⟩) n cap) ∧ B < (wr.alloc (.cells cs e)).heap.size ∧ Go.RowKit.Below B w (wr.alloc (.cells cs e))) := fun cs e =>
            ⟨by rw [World.cell?_of_block (w := wr) (Below.heap_alloc _ _ _ hsz)]; exact hbox, by simp; omega, B1.alloc (by omega) _⟩
      clear hl hl1
      by_cases q : Bad L k
      · have Q : Hid _ := q
        rcases q with q | q
        · go_wp2_with fail
          exact fin1.out _ k (nxt.out _ _).2.2 hlt Q.out
        · go_wp2_with fail
          all_goals exact fin1.out _ k (nxt.out _ _).2.2 hlt Q.out
      · have Q : Hid _ := q
        have q1 : ¬ LF L k < 0 := fun h => q (.inl h)
        have q2 : ¬ LT L k < LF L k := fun h => q (.inr h)
        clear q
        go_wp2_with fail
        go_roundw
        case rel => exact ⟨k + 1, by go_num, by omega, fun j hj => by
          by_cases e : j = k
          · rw [e]; exact Q.out
          · exact hbad.out j (by omega), (nxt.out _ _).1, (nxt.out _ _).2.1, (nxt.out _ _).2.2⟩
        case measure => simp [intOf]; omega
    · have hz : ¬ (k : Int) < (n : Int) := by omega
      have hkn : n = k := by omega
      subst hkn
      by_cases hc : count < 1 ∨ 64 < count
      · have HC : Hid _ := hc
        rcases hc with hc | hc
        · go_wp2_with fail
          exact fin9.out _ B1 hbad.out HC.out
        · go_wp2_with fail
          all_goals exact fin9.out _ B1 hbad.out HC.out
      · have hc1 : 1 ≤ count := by omega
        have hc2 : count ≤ 64 := by omega
        obtain ⟨G, hG⟩ : ∃ G, wr.heap.size = G := ⟨_, rfl⟩
        clear hc fin1 fin9
        go_wp2_with (at_make; refine wpList_make_full _ rfl (.tmp 40) (.tmp 40) 22 rfl B 3 i0 _ 1 Try.underlying22 hi hz0 hz1 .i64 .i64 _ _ n rfl rfl rfl rfl (by rw [hz2']; omega) (by unfold maxLen; omega) (by omega) ?_; intro w1 hmk hgrow)
        have hmk' : w1.ownsRow B 3 1 (.slice (some ⟨G, 0, none⟩) n n) n (madeCells (Value.int .i64 0).cells (n * 1)).toList := by first | exact hmk | (rw [← hG]; exact hmk)
        have hrow0 : RowAt G n (fun _ => 0) w1 := RowAt.of_made hmk'
        have hGl : G < w1.heap.size := (hmk'.lt G rfl).2
        have hGB : B < G := by omega
        have B2 : Go.RowKit.Below B w w1 := B1.grown hgrow (by omega) (fun k h => by cases h)
        have hbox1 : w1.cell? ⟨B, 0, none⟩ = some (.slice a n cap) := by rw [World.cell?_of_block (w := wr) (hgrow.block B hsz (by simp))]; exact hbox
        have hbadn : Hid (∀ j, j < n → ¬ Bad L j) := hbad
        clear hmk hmk' hgrow hbox B1 hsz hG hz hlt hk hbad
        go_loopw [44] (fun i wr => ∃ k : Nat, i = .int .i64 k ∧ k ≤ n ∧ RowAt G n (fun t => if t < k then (t : Int) else 0) wr ∧ wr.cell? ⟨B, 0, none⟩ = some (.slice a n cap) ∧ G < wr.heap.size ∧ Go.RowKit.Below B w wr)
          (fun i _ => n - (intOf i).toNat)
        case atStart => exact ⟨0, rfl, by omega, hrow0.congr fun t ht => by simp, hbox1, hGl, B2⟩
        case round =>
          clear hrow0 hbox1 hGl B2
          obtain ⟨k, rfl, hk, hrow, hbox, hGl, B1⟩ := hrel
          by_cases hlt : k < n
          · obtain ⟨e1, e2⟩ := hrow k hlt
            have hz : (k : Int) < (n : Int) := by omega
            have HROW : Hid (RowAt G n (fun t => if t < k then (t : Int) else 0) wr) := hrow
            clear hrow
            go_wp2_with fail
            go_roundw
            case rel =>
              refine ⟨k + 1, by go_num, by omega, (HROW.out.set hlt (k : Int)).congr fun t ht => ?_, ?_, by simp [World.setCell]; exact hGl, B1.setCell (by simp only; omega) _⟩
              · by_cases e : t = k
                · subst e; simp
                · have : (t < k + 1) = (t < k) := by rw [eq_iff_iff]; omega
                  simp [e, this]
              · rw [World.cell?_setCell_other _ _ _ _ (by simp only [ne_eq, Addr.mk.injEq, not_and]; omega)]; exact hbox
            case measure => simp [intOf]; omega
          · have hz : ¬ (k : Int) < (n : Int) := by omega
            have hkn : n = k := by omega
            subst hkn
            have hord : RowAt G n (fun t => (t : Int)) wr := hrow.congr fun t ht => by simp [ht]
            clear hrow
            have hsort : Calls Try.prog 62 #[.slice (some ⟨G, 0, none⟩) n n, .func (.func 63) #[] #[.pointer (some ⟨B, 0, none⟩)]] wr fun e w' => e = .returned (.tuple #[]) ∧
                ∃ σ : List Nat, σ.Perm (List.range n) ∧ σ.Pairwise (fun a b => LF L a ≤ LF L b) ∧ (∀ t, t < n → w'.cell? ⟨G, t, none⟩ = some (.int .i64 (σ.getD t 0))) ∧ Oth G wr w' ∧ w'.heap.size = wr.heap.size := by
              by_cases h0 : n = 0
              · subst h0
                refine (stable_nil G 0 B wr).mono ?_
                rintro e w2 ⟨rfl, rfl⟩
                exact ⟨rfl, [], List.Perm.refl _, List.Pairwise.nil, fun t ht => by omega, Oth.refl _ _, rfl⟩
              · obtain ⟨g, rfl, hgw, hl⟩ := HG.out 0 (by omega)
                have h := stable_c (bl := B) (g := g) (blk := G) (cap := cap) (capo := n) (L := L) (w := wr) (by rw [HN.out]; omega) (by rw [HN.out]; exact h13) (by rw [HN.out]; exact hbox) (hl.block (B1.block g (by omega))) HOK.out (fun t ht => hord t (by rw [← HN.out]; exact ht)) (by omega) (by omega)
                rw [HN.out] at h
                exact h
            go_wp2_with fail
            refine hsort.mono ?_
            rintro e w2 ⟨rfl, σ, hperm, hpair, hσ, O2, hz2⟩
            have hbox2 : w2.cell? ⟨B, 0, none⟩ = some (.slice a n cap) := by rw [O2.cell (by simp only; omega) (by simp only; omega)]; exact hbox
            have B2 : Go.RowKit.Below B w w2 := B1.trans (O2.below (by omega) (by omega))
            have hGl2 : G < w2.heap.size := by omega
            clear hsort hord hbox B1 hGl O2 hz2 hz hlt hk
            obtain ⟨G2, hG2⟩ : ∃ G2, w2.heap.size = G2 := ⟨_, rfl⟩
            go_wp2_with (at_make; refine wpList_make_full _ rfl (.tmp 56) (.tmp 56) 22 rfl B 3 i0 _ 1 Try.underlying22 hi hz0 hz1 .i64 .i64 _ _ n rfl rfl rfl rfl (by rw [hz2']; omega) (by unfold maxLen; omega) (by omega) ?_; intro w3 hmk hgrow; obtain ⟨X, hX⟩ : ∃ X, w3.heap.size = X := ⟨_, rfl⟩)
            have hmk' : w3.ownsRow B 3 1 (.slice (some ⟨G2, 0, none⟩) n n) n (madeCells (Value.int .i64 0).cells (n * 1)).toList := by first | exact hmk | (rw [← hG2]; exact hmk)
            have hrow3 : RowAt G2 n (fun _ => 0) w3 := RowAt.of_made hmk'
            have hG2l : G2 < X := by have := (hmk'.lt G2 rfl).2; omega
            have hGG : G < G2 := by omega
            have hbox3 : w3.cell? ⟨B, 0, none⟩ = some (.slice a n cap) := by rw [World.cell?_of_block (w := w2) (hgrow.block B (by omega) (by simp))]; exact hbox2
            have hσ3 : ∀ t, t < n → w3.cell? ⟨G, t, none⟩ = some (.int .i64 (σ.getD t 0)) := fun t ht => by rw [World.cell?_of_block (w := w2) (hgrow.block G hGl2 (by simp))]; exact hσ t ht
            have B3 : Go.RowKit.Below B w w3 := B2.grown hgrow (by omega) (fun k h => by cases h)
            have hlenσ : σ.length = n := by simpa using hperm.length_eq
            have hnod : σ.Nodup := hperm.nodup_iff.2 List.nodup_range
            have HPERM : Hid (σ.Perm (List.range n) ∧ σ.Pairwise (fun a b => LF L a ≤ LF L b) ∧ σ.length = n ∧ σ.Nodup) := ⟨hperm, hpair, hlenσ, hnod⟩
            clear hmk hmk' hgrow hbox2 hσ B2 hGl2 hG2 hperm hpair hlenσ hnod
            go_loopw [60] (fun i wr => ∃ (k : Nat) (out : Nat → Nat), i = .int .i64 k ∧ k ≤ n ∧ RowAt G2 n (fun t => (out t : Int)) wr ∧ Hid (Greedy.Good (LF L) (LT L) out (σ.take k).reverse ∧ (∀ j, j ∉ σ.take k → out j = 0) ∧ (∀ j ∈ σ.take k, (out j : Int) < count)) ∧ wr.cell? ⟨B, 0, none⟩ = some (.slice a n cap) ∧
                wr.cell? ⟨X, 0, none⟩ = some (.slice (some ⟨G2, 0, none⟩) n n) ∧ Hid (∀ t, t < n → wr.cell? ⟨G, t, none⟩ = some (.int .i64 (σ.getD t 0))) ∧ X < wr.heap.size ∧ Go.RowKit.Below B w wr)
              (fun i _ => n - (intOf i).toNat)
            case atStart =>
              have hb : ∀ k, k < X → (w3.alloc (.cells #[.slice (some ⟨G2, 0, none⟩) n n] 22)).heap[k]? = w3.heap[k]? := fun k hk => Below.heap_alloc _ _ _ (by omega)
              refine ⟨0, fun _ => 0, rfl, by omega, hrow3.block (hb G2 hG2l), ⟨by simpa using Greedy.Good.nil, fun j _ => rfl, fun j h => by simp at h⟩, ?_, ?_, fun t ht => ?_, by simp [hX], B3.alloc (by omega) _⟩
              · rw [World.cell?_of_block (w := w3) (hb B (by omega))]; exact hbox3
              · rw [← hX, cell_of_row _ w3.heap.size 0 _ 22 (0, 0) (heap_alloc_new w3 _)]; rfl
              · rw [World.cell?_of_block (w := w3) (hb G (by omega))]; exact hσ3 t ht
            case round =>
              clear hrow3 hbox3 hσ3 B3 hX
              obtain ⟨k, out, rfl, hk, hrow, hI, hbox, hboX, hσ, hXl, B1⟩ := hrel
              by_cases hlt : k < n
              · have hz : (k : Int) < (n : Int) := by omega
                have hck := hσ.out k hlt
                obtain ⟨Y, hY⟩ : ∃ Y, wr.heap.size = Y := ⟨_, rfl⟩
                have hYX : X < Y := by omega
                have HROW : Hid (RowAt G2 n (fun t => (out t : Int)) wr) := hrow
                have HT := fun c least => Greedy.tried (F := LF L) (T := LT L) (out := out) (c := c) HPERM.out.1 HPERM.out.2.1 hlt (fun j hj => by have h := hbadn.out j hj; unfold Bad at h; omega) least
                have HTR : Hid _ := HT
                have hin : σ.getD k 0 < n := (HT 0 (fun c' h => by omega)).1
                clear hrow HT
                obtain ⟨I, hI2⟩ : ∃ I, σ.getD k 0 = I := ⟨_, rfl⟩
                rw [hI2] at hck hin
                have HI2 : Hid (σ.getD k 0 = I) := hI2
                clear hI2
                have hb : Hid (∀ (v : Value) k, k < Y → (wr.alloc (.cells #[v] 3)).heap[k]? = wr.heap[k]?) := fun v k hk => Below.heap_alloc _ _ _ (by omega)
                go_wp2_with fail
                go_loopg [] (n + 1) (fun g wr4 => ∃ c : Nat, n + 1 - c ≤ g ∧ RowAt G2 n (fun t => ((if t = I then c else out t : Nat) : Int)) wr4 ∧ Hid (∀ c', c' < c → ∃ j ∈ (σ.take k).reverse, out j = c' ∧ LF L (σ.getD k 0) ≤ LT L j) ∧ wr4.cell? ⟨B, 0, none⟩ = some (.slice a n cap) ∧
                    wr4.cell? ⟨X, 0, none⟩ = some (.slice (some ⟨G2, 0, none⟩) n n) ∧ wr4.cell? ⟨Y, 0, none⟩ = some (.int .i64 I) ∧ Hid (∀ t, t < n → wr4.cell? ⟨G, t, none⟩ = some (.int .i64 (σ.getD t 0))) ∧ Y < wr4.heap.size ∧ Go.RowKit.Below B w wr4)
                case atStart =>
                  refine ⟨0, by omega, (HROW.out.block (hb.out _ G2 (by omega))).congr fun t ht => ?_, fun c' h => by omega, ?_, ?_, ?_, fun t ht => ?_, by simp [hY], B1.alloc (by omega) _⟩
                  · by_cases e : t = I
                    · have := hI.out.2.1 I (by rw [← HI2.out]; exact Greedy.notin_take HPERM.out.2.2.2 (by have := HPERM.out.2.2.1; omega))
                      rw [e, this]; simp
                    · simp [e]
                  · rw [World.cell?_of_block (w := wr) (hb.out _ B (by omega))]; exact hbox
                  · rw [World.cell?_of_block (w := wr) (hb.out _ X (by omega))]; exact hboX
                  · rw [← hY, cell_of_row _ wr.heap.size 0 _ 3 (0, 0) (heap_alloc_new wr _)]; rfl
                  · rw [World.cell?_of_block (w := wr) (hb.out _ G (by omega))]; exact hσ.out t ht
                case round =>
                  clear hb hbox hboX hσ hck hY B1 hXl
                  obtain ⟨c, hgc, hrow, hleast, hbox, hboX, hboY, hσ, hYl, B1⟩ := hrel
                  have hHT := HTR.out c hleast.out
                  have hcn : c < n := Nat.lt_of_lt_of_le hHT.2 (by unfold Greedy.cnt; exact Nat.le_trans (List.length_filter_le _ _) (by simp))
                  have HC : Hid _ := hHT.2
                  obtain ⟨g, rfl, hgw, hl⟩ := HG.out I hin
                  have hany := any_c (gr := G) (cap := n) (m := k) (ord := fun t => ((σ.getD t 0 : Nat) : Int)) (bo := X) (bi := Y) (bl := B) (w := wr)
                    (p := fun t => decide (((if σ.getD t 0 = I then c else out (σ.getD t 0) : Nat) : Int) = ((if I = I then c else out I : Nat) : Int)) && decide (LF L I ≤ LT L (σ.getD t 0))) (by omega) (fun t ht => hσ.out t (by omega))
                    (fun t ht q => pred_c (w := wr.drewN q) (g := g) (go := G2) (capo := n) (cap := cap) (O := fun t => ((if t = I then c else out t : Nat) : Int)) (L := L) (by rw [HN.out]; exact hboX) hboY (by rw [HN.out]; exact hbox) (hl.block (B1.block g (by omega))) (fun t ht => (hrow t (by rw [← HN.out]; exact ht)).1) (by rw [HN.out]; exact hin) (by
                      rw [HN.out]
                      exact (Greedy.tried (F := LF L) (T := LT L) (out := out) (c := 0) HPERM.out.1 HPERM.out.2.1 (show t < n by omega) (fun j hj => by have h := hbadn.out j hj; unfold Bad at h; omega) (fun c' h => by omega)).1))
                  have hkz : (k : Int) ≤ (n : Int) := by omega
                  have hcI : wr.cell? ⟨G2, I, none⟩ = some (.int .i64 c) := by have h := (hrow I hin).1; simp only [if_true] at h; exact h
                  have hfI := (hrow I hin).2
                  have HROW2 : Hid (RowAt G2 n (fun t => ((if t = I then c else out t : Nat) : Int)) wr) := hrow
                  have hIz : (I : Int) < (n : Int) := by omega
                  clear hHT hl hrow HROW
                  go_wp2_with fail
                  refine hany.mono ?_
                  rintro e w5 ⟨b, rfl, hb, q, rfl⟩
                  clear hany
                  have hbox5 : (wr.drewN q).cell? ⟨B, 0, none⟩ = some (.slice (some ⟨g, 0, none⟩) n cap) := hbox
                  have hboX5 : (wr.drewN q).cell? ⟨X, 0, none⟩ = some (.slice (some ⟨G2, 0, none⟩) n n) := hboX
                  have hboY5 : (wr.drewN q).cell? ⟨Y, 0, none⟩ = some (.int .i64 I) := hboY
                  have hcI5 : (wr.drewN q).cell? ⟨G2, I, none⟩ = some (.int .i64 c) := hcI
                  have hfI5 : (wr.drewN q).frozen? ⟨G2, I, none⟩ = false := hfI
                  have hσ5 : Hid (∀ t, t < n → (wr.drewN q).cell? ⟨G, t, none⟩ = some (.int .i64 (σ.getD t 0))) := hσ
                  have HROW5 : Hid (RowAt G2 n (fun t => ((if t = I then c else out t : Nat) : Int)) (wr.drewN q)) := HROW2
                  have hYl5 : Y < (wr.drewN q).heap.size := hYl
                  have B5 : Go.RowKit.Below B w (wr.drewN q) := ⟨B1.os, B1.tape, B1.output, B1.size, B1.block⟩
                  clear hbox hboX hboY hcI hfI hσ HROW2 hYl B1
                  generalize wr.drewN q = w6 at hbox5 hboX5 hboY5 hcI5 hfI5 hσ5 HROW5 hYl5 B5 ⊢
                  rcases hb with ⟨rfl, hall⟩ | ⟨rfl, t, ht, hpt⟩
                  · have HALL : Hid _ := hall
                    clear hall
                    go_wp2_with fail
                    · have hcc : count ≤ (c : Int) := by assumption
                      have h1 := HC.out
                      rw [← HR.out]
                      exact ⟨by rw [hB]; exact B5, .slice none 0 0, 16, rfl, .inr (.inr (.inl ⟨fun j hj => hbadn.out j (by rw [← HN.out]; exact hj), hc1, hc2, ⟨σ.getD k 0, by rw [HI2.out, HN.out]; exact hin, by rw [HN.out]; omega⟩, rfl, rfl⟩))⟩
                    · have hcc : ¬ count ≤ (c : Int) := by omega
                      have hnotin : I ∉ σ.take k := by rw [← HI2.out]; exact Greedy.notin_take HPERM.out.2.2.2 (by have := HPERM.out.2.2.1; omega)
                      have hgs := Greedy.good_step (F := LF L) (T := LT L) (out := out) (c := c) HPERM.out.2.2.2 HPERM.out.2.1 (show k < σ.length by have := HPERM.out.2.2.1; omega) hI.out.1 hleast.out (fun t ht hh => by
                        have h := HALL.out t ht
                        have hne : σ.getD t 0 ≠ I := fun e => hnotin (by rw [← e]; exact Greedy.mem_take_of ht (by have := HPERM.out.2.2.1; omega))
                        rw [HI2.out] at hh
                        simp only [if_neg hne, if_true, hh.1, decide_true, Bool.true_and, decide_eq_false_iff_not] at h
                        exact h hh.2)
                      rw [HI2.out] at hgs
                      have htn : σ.take (k + 1) = σ.take k ++ [I] := by rw [Greedy.take_next (by have := HPERM.out.2.2.1; omega), HI2.out]
                      go_roundw
                      case rel =>
                        refine ⟨k + 1, fun t => if t = I then c else out t, by go_num, by omega, HROW5.out, ⟨hgs, fun j hj => ?_, fun j hj => ?_⟩, hbox5, hboX5, hσ5, by omega, B5⟩
                        · rw [htn, List.mem_append, not_or, List.mem_singleton] at hj
                          simp only [if_neg hj.2]; exact hI.out.2.1 j hj.1
                        · rw [htn, List.mem_append, List.mem_singleton] at hj
                          by_cases e : j = I
                          · simp only [if_pos e]; omega
                          · simp only [if_neg e]; exact hI.out.2.2 j (hj.resolve_right e)
                      case measure => simp [intOf]; omega
                  · simp only [Bool.and_eq_true, decide_eq_true_eq] at hpt
                    have HPT : Hid _ := hpt
                    clear hpt
                    go_wp2_with fail
                    go_roundg (n + 1 - (c + 1))
                    case measure => omega
                    case rel =>
                      refine ⟨c + 1, Nat.le_refl _, (HROW5.out.set hin ((c : Int) + 1)).congr fun t ht => ?_, fun c' hc' => ?_, ?_, ?_, ?_, fun t ht => ?_, by simp [World.setCell]; exact hYl5, B5.setCell (by simp only; omega) _⟩
                      · by_cases e : t = I
                        · simp [e]
                        · simp [e]
                      · by_cases e : c' = c
                        · have hlk : k ≤ σ.length := by have := HPERM.out.2.2.1; omega
                          have hmem := Greedy.mem_take_of (σ := σ) ht hlk
                          have hnotin : I ∉ σ.take k := by rw [← HI2.out]; exact Greedy.notin_take HPERM.out.2.2.2 (by have := HPERM.out.2.2.1; omega)
                          have hne : σ.getD t 0 ≠ I := fun e => hnotin (by rw [← e]; exact hmem)
                          have h := HPT.out
                          simp only [if_neg hne, if_true] at h
                          exact ⟨σ.getD t 0, List.mem_reverse.2 hmem, by rw [e]; omega, by rw [HI2.out]; exact h.2⟩
                        · exact hleast.out c' (by omega)
                      · rw [World.cell?_setCell_other _ _ _ _ (by simp only [ne_eq, Addr.mk.injEq, not_and]; omega)]; exact hbox5
                      · rw [World.cell?_setCell_other _ _ _ _ (by simp only [ne_eq, Addr.mk.injEq, not_and]; omega)]; exact hboX5
                      · rw [World.cell?_setCell_other _ _ _ _ (by simp only [ne_eq, Addr.mk.injEq, not_and]; omega)]; exact hboY5
                      · rw [World.cell?_setCell_other _ _ _ _ (by simp only [ne_eq, Addr.mk.injEq, not_and]; omega)]; exact hσ5.out t ht
              · have hz : ¬ (k : Int) < (n : Int) := by omega
                have hkn : n = k := by omega
                subst hkn
                go_wp2_with fail
                have htk : σ.take n = σ := List.take_of_length_le (by have := HPERM.out.2.2.1; omega)
                rw [← HR.out]
                have h := hI.out
                rw [htk] at h
                refine ⟨by rw [hB]; exact B1, .slice (some ⟨G2, 0, none⟩) n n, 0, rfl, .inr (.inr (.inr ⟨fun j hj => hbadn.out j (by rw [← HN.out]; exact hj), hc1, hc2, rfl, out, σ.reverse, G2, n, by rw [HN.out], by omega, by rw [HN.out]; exact hrow, h.1, fun i hi => ?_, fun i hi => ?_, ?_, fun j hj => ?_⟩))⟩
                · exact List.mem_reverse.2 (HPERM.out.1.mem_iff.2 (List.mem_range.2 (by rw [← HN.out]; exact hi)))
                · exact h.2.2 i (HPERM.out.1.mem_iff.2 (List.mem_range.2 (by rw [← HN.out]; exact hi)))
                · rw [List.Nodup, List.pairwise_reverse]
                  exact HPERM.out.2.2.2.imp fun h e => h e.symm
                · rw [HN.out]; exact List.mem_range.1 (HPERM.out.1.mem_iff.1 (List.mem_reverse.1 hj))
end Go.Proofs.Yteabbkagekdehaa
