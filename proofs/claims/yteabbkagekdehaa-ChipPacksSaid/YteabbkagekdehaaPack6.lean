/- weftref2.FewestTogether: how few pairs come together. -/
import Derived.Test.YteabbkagekdehaaPack5
import Derived.Laws.EntriesVeiled
set_option linter.unusedVariables false
set_option linter.unusedSimpArgs false
namespace Go.Proofs.Yteabbkagekdehaa
open Go.AE Go.RowKit Go.IntWalk Go.PackLaw
theorem make_int (n : Nat) (hn : n ≤ 1000) (w : World) : (Instr.makeSlice 22 (.int .i64 n) (.int .i64 n)).run Try.prog w = .ok (.slice (some ⟨w.heap.size, 0, none⟩) n n) (w.alloc (.cells (madeCells #[.int .i64 0] n) 3)) := by
  obtain ⟨i0, hi, hz0, hz1, hz2⟩ := info_parts info3
  have h := run_make (P := Try.prog) w 22 3 i0 _ Try.underlying22 hi hz0 .i64 .i64 n n (by omega) (Int.le_refl _) (by rw [hz2]; omega) (by omega)
  rw [hz1] at h
  have e : (Value.int .i64 0).cells = #[.int .i64 0] := rfl
  rw [e] at h
  simpa using h
theorem made_row {w : World} {g n : Nat} (h : w.heap[g]? = some (.cells (madeCells #[.int .i64 0] n) 3 (0, 0))) : RowAt g n (fun _ => 0) w := fun t ht => by
  refine ⟨?_, frozen_of_row w g t _ 3 h⟩
  rw [cell_of_row w g t _ 3 (0, 0) h]
  have e := toList_madeCells_one (.int .i64 0) n
  rw [← Array.getElem?_toList, e]
  simp [ht]
theorem heap_allocs : ∀ (os : List Obj) (w : World) (k : Nat) (o : Obj), os[k]? = some o → (os.foldl World.alloc w).heap[w.heap.size + k]? = some o
  | [], _, _, _, h => by simp at h
  | x :: os, w, k, o, h => by
    have low : ∀ (os : List Obj) (w : World) (j : Nat), j < w.heap.size → (os.foldl World.alloc w).heap[j]? = w.heap[j]? := by
      intro os
      induction os with
      | nil => intro w j _; rfl
      | cons y os ih =>
        intro w j hj
        simp only [List.foldl_cons]
        rw [ih (w.alloc y) j (by simp; omega)]
        exact Below.heap_alloc _ _ _ hj
    match k, h with
    | 0, h =>
      simp at h; subst h
      simp only [List.foldl_cons, Nat.add_zero]
      rw [low os (w.alloc x) w.heap.size (by simp)]
      exact heap_alloc_new w _
    | k + 1, h =>
      simp only [List.foldl_cons]
      have := heap_allocs os (w.alloc x) k o (by simpa using h)
      have hsz : (w.alloc x).heap.size = w.heap.size + 1 := by simp
      rw [hsz] at this
      rw [show w.heap.size + (k + 1) = w.heap.size + 1 + k from by omega]
      exact this
theorem below_allocs : ∀ (os : List Obj) (w : World), Go.RowKit.Below w.heap.size w (os.foldl World.alloc w)
  | [], w => Below.refl _ _
  | x :: os, w => (below_alloc w x).trans ((below_allocs os (w.alloc x)).mono (by simp))
theorem size_allocs : ∀ (os : List Obj) (w : World), (os.foldl World.alloc w).heap.size = w.heap.size + os.length
  | [], w => rfl
  | x :: os, w => by simp only [List.foldl_cons, List.length_cons]; rw [size_allocs os (w.alloc x)]; simp; omega
set_option maxHeartbeats 2000000 in
set_option maxRecDepth 10000 in
theorem fewest_c {n K m : Nat} {aS : Option Addr} {capS : Nat} {aP : Option Addr} {capP : Nat} {S : Nat → Int} {C : Int} {PP : List Pr} {w : World} (G : Giv n K S C PP) (hm : PP.length = m)
    (hs : ∀ t, t < n → ∃ g, aS = some ⟨g, 0, none⟩ ∧ g < w.heap.size ∧ w.cell? ⟨g, t, none⟩ = some (.int .i64 (S t)))
    (hp : ∀ j, j < m → ∃ g, aP = some ⟨g, 0, none⟩ ∧ g < w.heap.size ∧ w.cell? ⟨g, j * 2, none⟩ = some (.int .i64 ((PP.getD j (0, 0)).1)) ∧ w.cell? ⟨g, j * 2 + 1, none⟩ = some (.int .i64 ((PP.getD j (0, 0)).2))) :
    Calls Try.prog 21 #[.slice aS n capS, .slice aP m capP, .int .i64 K, .int .i64 C] w fun e w' => ∃ (l : Int) (b' : List Nat), e = .returned (.int .i64 l) ∧ Res PP S C K n [] (fun _ => 0) K (-1) l [] b' ∧ Go.RowKit.Below w.heap.size w w' := by
  have hn6 := G.n6
  have hk8 := G.k8
  have hm1 := make_int n (by omega)
  have hm2 := make_int K (by omega)
  have HS : Hid _ := hs
  have HP : Hid _ := hp
  obtain ⟨W, hW⟩ : ∃ W, w.heap.size = W := ⟨_, rfl⟩
  clear hs hp
  go_enter Try.func21, Try.ntmps21
  go_wp2_with fail
  obtain ⟨u, hu⟩ : ∃ u, (((((((((w.alloc (.cells #[.slice aS n capS] 22)).alloc (.cells #[.slice aP m capP] 39)).alloc (.cells #[.int .i64 K] 3)).alloc (.cells #[.int .i64 C] 3)).alloc (.cells #[.int .i64 (-1)] 3)).alloc (.cells (madeCells #[.int .i64 0] n) 3)).alloc
    (.cells #[.slice (some ⟨W + 1 + 1 + 1 + 1 + 1, 0, none⟩) n n] 22)).alloc (.cells (madeCells #[.int .i64 0] K) 3)).alloc (.cells #[.slice (some ⟨W + 1 + 1 + 1 + 1 + 1 + 1 + 1, 0, none⟩) K K] 22)) = u := ⟨_, rfl⟩
  rw [hu]
  have husz : u.heap.size = W + 1 + 1 + 1 + 1 + 1 + 1 + 1 + 1 + 1 := by rw [← hu]; simp [hW]
  have hcf : (u.alloc (.cells #[.nilFunc] 91)).cell? ⟨W + 1 + 1 + 1 + 1 + 1 + 1 + 1 + 1 + 1, 0, none⟩ = some .nilFunc := by rw [← husz, cell_of_row _ u.heap.size 0 _ 91 (0, 0) (heap_alloc_new u _)]; rfl
  have hff : (u.alloc (.cells #[.nilFunc] 91)).frozen? ⟨W + 1 + 1 + 1 + 1 + 1 + 1 + 1 + 1 + 1, 0, none⟩ = false := by rw [← husz]; exact frozen_of_row _ u.heap.size 0 _ 91 (heap_alloc_new u _)
  go_wp2_with fail
  obtain ⟨wF, hwF⟩ : ∃ wF, u.alloc (.cells #[.func (.func 54) #[] (caps W)] 91) = wF := ⟨_, rfl⟩
  have hL : wF = List.foldl World.alloc w [.cells #[.slice aS n capS] 22, .cells #[.slice aP m capP] 39, .cells #[.int .i64 K] 3, .cells #[.int .i64 C] 3, .cells #[.int .i64 (-1)] 3, .cells (madeCells #[.int .i64 0] n) 3, .cells #[.slice (some ⟨W + 5, 0, none⟩) n n] 22, .cells (madeCells #[.int .i64 0] K) 3, .cells #[.slice (some ⟨W + 7, 0, none⟩) K K] 22, .cells #[.func (.func 54) #[] (caps W)] 91] := by rw [← hwF, ← hu]; rfl
  have hF : ∀ k o, ([.cells #[.slice aS n capS] 22, .cells #[.slice aP m capP] 39, .cells #[.int .i64 K] 3, .cells #[.int .i64 C] 3, .cells #[.int .i64 (-1)] 3, .cells (madeCells #[.int .i64 0] n) 3, .cells #[.slice (some ⟨W + 5, 0, none⟩) n n] 22, .cells (madeCells #[.int .i64 0] K) 3, .cells #[.slice (some ⟨W + 7, 0, none⟩) K K] 22, .cells #[.func (.func 54) #[] (caps W)] 91] : List Obj)[k]? = some o → wF.heap[W + k]? = some o := fun k o h => by
    rw [hL, ← hW]; exact heap_allocs _ w k o (by rw [hW]; exact h)
  have BF : Go.RowKit.Below w.heap.size w wF := by rw [hL]; exact below_allocs _ _
  have hszF : wF.heap.size = W + 10 := by rw [hL, size_allocs, hW]; rfl
  have one : ∀ k v e, wF.heap[W + k]? = some (.cells #[v] e (0, 0)) → wF.cell? ⟨W + k, 0, none⟩ = some v := fun k v e h => by rw [cell_of_row wF (W + k) 0 _ e (0, 0) h]; rfl
  have hst : FSt W n K m aS capS aP capP S C PP (fun _ => 0) (fun _ => 0) (-1) wF := by
    refine ⟨by omega, one 0 _ _ (hF 0 _ rfl), one 6 _ _ (hF 6 _ rfl), one 1 _ _ (hF 1 _ rfl), one 4 _ _ (hF 4 _ rfl), frozen_of_row wF (W + 4) 0 _ 3 (hF 4 _ rfl), one 2 _ _ (hF 2 _ rfl), one 8 _ _ (hF 8 _ rfl), one 3 _ _ (hF 3 _ rfl), one 9 _ _ (hF 9 _ rfl), fun t ht => ?_, fun j hj => ?_, made_row (hF 5 _ rfl), made_row (hF 7 _ rfl)⟩
    · obtain ⟨g, h1, h2, h3⟩ := HS.out t ht
      exact ⟨g, h1, by omega, by rw [BF.cell (by exact h2)]; exact h3⟩
    · obtain ⟨g, h1, h2, h3, h4⟩ := HP.out j hj
      exact ⟨g, h1, by omega, by rw [BF.cell (by exact h2)]; exact h3, by rw [BF.cell (by exact h2)]; exact h4⟩
  have htry := try_c G hm n (N := []) (I := fun _ => 0) (U := fun _ => 0) (l := -1) (w := wF) [] (by simp) (by omega) (fun t _ => by omega) (fun t ht => by simp at ht) hst
  rw [← hwF] at htry
  have HB : Hid (Go.RowKit.Below w.heap.size w wF) := BF
  clear hF one hst BF hL hm1 hm2 hcf hff hu husz
  refine (show Calls Try.prog 54 _ _ _ from htry).mono ?_
  rintro e w6 ⟨rfl, l, I', b', hP, _, hO, hR⟩
  rw [hwF] at hO
  have h4 := hP.c4
  have hB6 : Hid (Go.RowKit.Below w.heap.size w w6) := HB.out.trans (by rw [hW]; exact hO)
  have HR : Hid _ := hR
  clear htry hwF hO hR hP
  go_wp2_with fail
  go_ret
  exact ⟨l, b', rfl, HR.out, hB6.out⟩
end Go.Proofs.Yteabbkagekdehaa
