/- slices.insertionSortCmpFunc at integers: the shelf's contract at this program. -/
import Derived.Test.YteabbkagekdehaaRegs1
import Derived.Shelf.SlSortCmp.Insertion
set_option linter.unusedVariables false
set_option linter.unusedSimpArgs false
namespace Go.Proofs.Yteabbkagekdehaa
open Go.AE Go.RowKit Go.IntWalk Go.Shelf
def sRen : Ren := ⟨fun n => if n = 20 then 105 else n, fun n => if n = 24 then 3 else if n = 25 then 63 else n, fun n => n⟩
theorem sLay : SlLaysF.n20 Try.prog sRen := {
  mixed := by kernel_rfl
  f20 := ⟨Try.f105.name, by kernel_rfl, by kernel_rfl⟩
  t0 := Try.underlying0
  a0 := Try.isAgg0
  z0 := Try.sizeOf0
  v0 := Try.zeroValue0
  t3 := Try.underlying3
  a3 := Try.isAgg3
  z3 := Try.sizeOf3
  v3 := Try.zeroValue3
  t4 := Try.underlying4
  a4 := Try.isAgg4
  z4 := Try.sizeOf4
  v4 := Try.zeroValue4
  t22 := Try.underlying22
  a22 := Try.isAgg22
  z22 := Try.sizeOf22
  v22 := Try.zeroValue22
  a24 := Try.isAgg3
  z24 := Try.sizeOf3
  t25 := Try.underlying63
  a25 := Try.isAgg63
  z25 := Try.sizeOf63
  v25 := Try.zeroValue63 }
theorem extract_full {α : Type} (d : Array α) {n : Nat} (h : d.size = n) : d.extract 0 n = d := by subst h; simp
def fenc {m : Nat} (i : Fin (m + 1)) : Value := .int .i64 (i.val : Int)
theorem oth_putRow {α : Type} [Inhabited α] (enc : α → Value) (w : World) (blk off : Nat) (d : Array α) (n : Nat) : Oth blk w ((Sort.putRow enc w blk off d).drewN n) :=
  ⟨rfl, rfl, rfl, by show w.heap.size ≤ (Sort.putRow enc w blk off d).heap.size; rw [Sort.size_putRow]; exact Nat.le_refl _, fun k _ hk => by
    show (Sort.putRow enc w blk off d).heap[k]? = _
    simp only [Sort.putRow, Sort.mapBlock, Array.getElem?_modify]
    rw [if_neg (fun e => hk e.symm)]⟩
theorem sort_c {bl g blk cap capo : Nat} {L : List LifeV} {w : World} (hn : 0 < L.length) (h13 : L.length ≤ 1000) (hb : w.cell? ⟨bl, 0, none⟩ = some (.slice (some ⟨g, 0, none⟩) L.length cap)) (hl : LivesAt g L w) (hok : ∀ x ∈ L, x.ok)
    (hrow : ∀ t, t < L.length → w.cell? ⟨blk, t, none⟩ = some (.int .i64 t) ∧ w.frozen? ⟨blk, t, none⟩ = false) (hne1 : bl ≠ blk) (hne2 : g ≠ blk) :
    Calls Try.prog 105 #[.slice (some ⟨blk, 0, none⟩) L.length capo, .int .i64 0, .int .i64 L.length, .func (.func 63) #[] #[.pointer (some ⟨bl, 0, none⟩)]] w fun e w' => e = .returned (.tuple #[]) ∧
      ∃ σ : List Nat, σ.Perm (List.range L.length) ∧ σ.Pairwise (fun a b => LF L a ≤ LF L b) ∧ (∀ t, t < L.length → w'.cell? ⟨blk, t, none⟩ = some (.int .i64 (σ.getD t 0))) ∧ Oth blk w w' ∧ w'.heap.size = w.heap.size := by
  obtain ⟨m, hm⟩ : ∃ m, L.length = m + 1 := ⟨L.length - 1, by omega⟩
  let d : Array (Fin (m + 1)) := (List.finRange (m + 1)).toArray
  have hds : d.size = m + 1 := by simp [d]
  have hdj : ∀ j, j < m + 1 → d[j]!.val = j := fun j hj => by
    rw [getElem!_pos d j (by omega)]
    simp [d]
  let cf : Fin (m + 1) → Fin (m + 1) → Int := fun x y => LF L x.val - LF L y.val
  have hH : Sort.Holds fenc w blk 0 d := fun j hj => by
    have h := hrow j (by omega)
    simp only [Nat.zero_add, fenc]
    rw [hdj j (by omega)]
    exact h
  have hcmp : CmpReads Try.prog 63 #[.pointer (some ⟨bl, 0, none⟩)] fenc cf blk 0 d.size w := fun q os dk hdk x y => by
    have hcell : ∀ b, b ≠ blk → b < w.heap.size → ∀ o, (sortWorld fenc w blk 0 q dk os).cell? ⟨b, o, none⟩ = w.cell? ⟨b, o, none⟩ := fun b h1 h2 o => by
      unfold sortWorld
      rw [Sort.cell?_grow _ _ _ (by rw [Sort.size_putRow]; exact h2), Sort.cell?_putRow_other _ _ _ _ _ _ (Or.inl h1)]
      rfl
    have hgb := cell_lt (hl 0 hn).1
    have h1 : (sortWorld fenc w blk 0 q dk os).cell? ⟨bl, 0, none⟩ = some (.slice (some ⟨g, 0, none⟩) L.length cap) := by rw [hcell bl hne1 (cell_lt hb)]; exact hb
    have h2 : LivesAt g L (sortWorld fenc w blk 0 q dk os) := fun j hj => by
      obtain ⟨a0, a1, a2, a3⟩ := hl j hj
      exact ⟨by rw [hcell g hne2 hgb]; exact a0, by rw [hcell g hne2 hgb]; exact a1, by rw [hcell g hne2 hgb]; exact a2, by rw [hcell g hne2 hgb]; exact a3⟩
    exact cmp_c h1 h2 hok x.val y.val (by have := x.isLt; omega) (by have := y.isLt; omega)
  have eg : ∀ args w, (callFunc 63 args).run Try.prog w = .ok (.enter 63 args) w := enters_of Try.func63 (by kernel_rfl) rfl
  have hS : Sort.SWO (ltOf cf) := ⟨fun x => by simp [ltOf, cf], fun x y z h1 h2 => by simp only [ltOf, cf, decide_eq_true_eq] at *; omega, fun x y z h1 h2 => by simp only [ltOf, cf, decide_eq_false_iff_not] at *; omega⟩
  have hcon := Any.insertionSortCmpFunc_one sLay fenc (fun _ => rfl) cf 63 #[.pointer (some ⟨bl, 0, none⟩)] blk 0 capo 0 d.size d w eg hcmp hH (Nat.zero_le _) (Nat.le_refl _) (by omega)
  obtain ⟨p1, p2⟩ := Sort.insertionSort_holds hS d 0 d.size (Nat.zero_le _) (Nat.le_refl _)
  change Calls Try.prog 105 _ _ _ at hcon
  rw [hds] at hcon p1 p2
  rw [hm]
  refine hcon.mono ?_
  rintro e w' ⟨rfl, n, rfl⟩
  refine ⟨rfl, ?_⟩
  generalize Sort.insertionSort (ltOf cf) d 0 (m + 1) = d' at p1 p2 ⊢
  obtain ⟨s1, _, s3⟩ := p1
  have hd' : d'.size = m + 1 := by omega
  have he1 : (d'.extract 0 (m + 1)) = d' := extract_full d' hd'
  have he2 : (d.extract 0 (m + 1)) = d := extract_full d hds
  rw [he1, he2] at s3
  refine ⟨d'.toList.map (·.val), ?_, ?_, ?_, oth_putRow _ _ _ _ _ _, by show (Sort.putRow _ _ _ _ _).heap.size = _; rw [Sort.size_putRow]⟩
  · have h := s3.map (·.val)
    have e : d.toList.map (·.val) = List.range (m + 1) := by
      simp only [d]
      exact List.ext_getElem (by simp) (by intro i h1 h2; simp)
    rw [e] at h
    exact h
  · rw [List.pairwise_map, List.pairwise_iff_getElem]
    intro i j hi hj hij
    simp only [Array.length_toList] at hi hj
    have h := p2 i j (Nat.zero_le _) hij (by omega)
    rw [getElem!_pos d' i hi, getElem!_pos d' j hj] at h
    simp only [ltOf, cf, decide_eq_false_iff_not] at h
    simp only [Array.getElem_toList]
    omega
  · intro t ht
    have h := (Sort.holds_putRow fenc w blk 0 d d' hH (by omega)) t (by omega)
    have h1 := h.1
    simp only [Nat.zero_add, fenc] at h1
    show (Sort.putRow fenc w blk 0 d').cell? _ = _
    rw [h1, getElem!_pos d' t (by omega)]
    simp [List.getD, hd', ht]
theorem stable_c {bl g blk cap capo : Nat} {L : List LifeV} {w : World} (hn : 0 < L.length) (h13 : L.length ≤ 13) (hb : w.cell? ⟨bl, 0, none⟩ = some (.slice (some ⟨g, 0, none⟩) L.length cap)) (hl : LivesAt g L w) (hok : ∀ x ∈ L, x.ok)
    (hrow : ∀ t, t < L.length → w.cell? ⟨blk, t, none⟩ = some (.int .i64 t) ∧ w.frozen? ⟨blk, t, none⟩ = false) (hne1 : bl ≠ blk) (hne2 : g ≠ blk) :
    Calls Try.prog 62 #[.slice (some ⟨blk, 0, none⟩) L.length capo, .func (.func 63) #[] #[.pointer (some ⟨bl, 0, none⟩)]] w fun e w' => e = .returned (.tuple #[]) ∧
      ∃ σ : List Nat, σ.Perm (List.range L.length) ∧ σ.Pairwise (fun a b => LF L a ≤ LF L b) ∧ (∀ t, t < L.length → w'.cell? ⟨blk, t, none⟩ = some (.int .i64 (σ.getD t 0))) ∧ Oth blk w w' ∧ w'.heap.size = w.heap.size := by
  have hc := sort_c (capo := capo) hn (by omega) hb hl hok hrow hne1 hne2
  generalize hR : (fun (e : Ending) (w' : World) => e = .returned (.tuple #[]) ∧ ∃ σ : List Nat, σ.Perm (List.range L.length) ∧ σ.Pairwise (fun a b => LF L a ≤ LF L b) ∧ (∀ t, t < L.length → w'.cell? ⟨blk, t, none⟩ = some (.int .i64 (σ.getD t 0))) ∧ Oth blk w w' ∧ w'.heap.size = w.heap.size) = R at hc ⊢
  have hend : Hid (∀ e w', R e w' → e = .returned (.tuple #[])) := fun e w' h => by rw [← hR] at h; exact h.1
  clear hR hb hl hok hrow hne1 hne2
  generalize L.length = n at *
  have h86 : Calls Try.prog 86 #[.slice (some ⟨blk, 0, none⟩) n capo, .int .i64 n, .func (.func 63) #[] #[.pointer (some ⟨bl, 0, none⟩)]] w R := by
    go_enter Try.func86, Try.ntmps86
    go_wp2_with fail
    go_loopw [7, 8] (fun a b wr => a = .int .i64 0 ∧ b = .int .i64 20 ∧ wr = w) (fun _ _ _ => 0)
    case atStart => exact ⟨rfl, rfl, rfl⟩
    case round =>
      obtain ⟨rfl, rfl, rfl⟩ := hrel
      go_wp2_with fail
      refine hc.mono ?_
      intro e w1 h1
      obtain rfl := hend.out e w1 h1
      have H1 : Hid _ := h1
      clear h1
      go_wp2_with fail
      go_loopw [6] (fun b wr => b = .int .i64 20 ∧ wr = w1) (fun _ _ => 0)
      case atStart => exact ⟨rfl, rfl⟩
      case round =>
        obtain ⟨rfl, rfl⟩ := hrel
        go_wp2_with fail
        go_end0
        exact H1.out
  go_enter Try.func62, Try.ntmps62
  go_wp2_with fail
  refine h86.mono ?_
  intro e w1 h1
  obtain rfl := hend.out e w1 h1
  have H1 : Hid _ := h1
  clear h1
  go_wp2_with fail
  go_end0
  exact H1.out
end Go.Proofs.Yteabbkagekdehaa
