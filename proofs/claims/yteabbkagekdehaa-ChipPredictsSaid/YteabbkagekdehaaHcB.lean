/- The coder's 'one': the rest behind the switch. -/
import Derived.Test.YteabbkagekdehaaHcA
import Derived.Deep.Cut
import Derived.Deep.CutBlock
section
set_option linter.unusedVariables false
set_option linter.unusedSimpArgs false
set_option maxRecDepth 100000
namespace Go.Proofs.Yteabbkagekdehaa
open Go.AE Go.RowKit Go.IntWalk
/-! functions that only read, at blocks of the call's own -/
def ExtP1 (f : FuncId) (τs : List Ty) (x : HRes) : Prop := x.loud = false ∧ ∀ {B : Nat} {blk : Nat → Nat} {w : World}, B ≤ w.heap.size → ∀ {us : List Value}, Tys B blk w τs us →
    Calls Try.prog f us.toArray w fun e w' => ∃ u, e = .returned u ∧ HasTy B blk w' x.ty u ∧ Below B w w' ∧ OwnKeep B w w'
def ExtP (ext : FuncId → List Ty → Option HRes) : Prop := ∀ {f τs x}, ext f τs = some x → ExtP1 f τs x
theorem prun {ext : FuncId → List Ty → Option HRes} (hX : ExtP ext) {fuel f : Nat} {F : Func} (hF : Try.prog.funcs[f]? = some F) {tys : List Ty} {x : HRes} (hx : notOwn x.ty = true)
    (h : ckFn (envOf Try.prog) ⟨[], ext⟩ x.k x.n fuel F tys = some x) (hl : x.loud = false) : ExtP1 f tys x := by
  refine ⟨hl, fun {B blk w} hB {us} hus => ?_⟩
  let J : HInv Try.prog ⟨[], ext⟩ blk x.k x.n := {
    Inv := fun B' _ _ w' => B' = B ∧ B ≤ w'.heap.size ∧ Below B w w' ∧ OwnKeep B w w'
    named := fun {B' K N w'} h => ⟨by simp, fun i j hi => by simp at hi, fun i hi => by simp at hi, fun i cs hi => by simp at hi, fun i cs j k hi => by simp at hi, fun i cs hi => by simp at hi⟩
    bw := fun {B' K N w'} ⟨e, h, _⟩ => by subst e; exact h
    keep := fun {B' K N w' w''} ⟨e, h1, h2, h3⟩ hb hk => by
      subst e
      exact ⟨rfl, Nat.le_trans h1 hb.size, h2.trans hb, h3.trans hk⟩
    mono := fun h _ _ => h
    quiet := fun {g τs y} hy hlo {B' K N w'} ⟨e, h1, h2, h3⟩ _ {us'} hus' => by
      subst e
      refine ((hX hy).2 h1 hus').mono ?_
      rintro e w'' ⟨u, rfl, q1, q2, q3⟩
      exact ⟨u, rfl, q1, ⟨rfl, Nat.le_trans h1 q2.size, h2.trans q2, h3.trans q3⟩, q3⟩
    loud := fun {g τs y} hy hlo => by have := (hX hy).1; rw [hlo] at this; cases this }
  refine (fn_sound (I := J) hmixed hF h (B := B) ⟨rfl, hB, Below.refl _ _, OwnKeep.refl _ _⟩ hus).mono ?_
  rintro e w' ⟨u, B', rfl, hu, rfl, h1, h2, h3⟩
  exact ⟨u, rfl, hu, h2, h3⟩
def rIdx : HRes := ⟨.rng (-1) 5, 0, 0, false⟩
def rCon : HRes := ⟨.bool, 0, 0, false⟩
def extHI : FuncId → List Ty → Option HRes := extAdd 120 [.sl 6 1, .num] rIdx fun _ _ => none
theorem idx_run : ckFn (envOf Try.prog) ⟨[], fun _ _ => none⟩ rIdx.k rIdx.n 10 Try.f120 [.sl 6 1, .num] = some rIdx := by kernel_rfl
theorem con_run : ckFn (envOf Try.prog) ⟨[], extHI⟩ rCon.k rCon.n 10 Try.f103 [.sl 6 1, .num] = some rCon := by kernel_rfl
theorem extHI_ok : ExtP extHI := by
  intro g τs y h
  unfold extHI extAdd at h
  cases hc : (Nat.beq g 120 && decide (τs = [.sl 6 1, .num])) with
  | false => rw [hc] at h; cases h
  | true =>
    rw [hc] at h
    simp only [cond_true, Option.some.injEq] at h
    simp only [Bool.and_eq_true, Nat.beq_eq, decide_eq_true_eq] at hc
    obtain ⟨rfl, rfl⟩ := hc
    subst h
    exact prun (x := rIdx) (fun h => by cases h) Try.func120 rfl idx_run rfl
theorem contains_c {w : World} {cs : Array Value} {xs : List Int} (hx : xs.length = 6) (hcs : (xs.map (Value.int .i64)).toArray = cs) (z : Int) :
    Calls Try.prog 103 #[.slice (some ⟨w.heap.size, 0, none⟩) 6 6, .int .i64 z] (w.alloc (.cells cs 3)) fun e w' => ∃ v : Bool, e = .returned (.bool v) ∧ Below w.heap.size w w' := by
  have hown : OwnB 6 w.heap.size (w.alloc (.cells cs 3)) := by
    subst hcs
    refine ⟨_, _, heap_alloc_new w _, by simp [hx], fun i hi => ?_⟩
    simp only [List.getElem?_toArray, List.getElem?_map]
    rw [List.getElem?_eq_getElem (show i < xs.length by omega)]
    exact ⟨_, rfl⟩
  have hX : ExtP1 103 [.sl 6 1, .num] rCon := prun (x := rCon) extHI_ok Try.func103 rfl con_run rfl
  refine (hX.2 (B := w.heap.size) (blk := fun _ => 0) (w := w.alloc (.cells cs 3)) (by simp) (us := [.slice (some ⟨w.heap.size, 0, none⟩) 6 6, .int .i64 z]) (.cons ⟨w.heap.size, rfl, fun n hn => by cases hn; exact ⟨Nat.le_refl _, hown⟩⟩ (.cons ⟨0, ⟨z, rfl⟩, fun n hn => by cases hn⟩ .nil))).mono ?_
  rintro e w' ⟨u, rfl, ⟨_, ⟨v, rfl⟩, _⟩, hb, _⟩
  exact ⟨v, rfl, (below_alloc w _).trans hb⟩
section
variable {r : Raw} {n0 s b base K n : Nat} {l q st : Int} {w0 w : World}
/-- a number is stored in the code -/
theorem CS.stored (h : CS r n0 s b base l q st w0 K n w) {g cap : Nat} (c6 : w.cell? ⟨b, 6, none⟩ = some (.slice (some ⟨g, 0, none⟩) n cap)) (j : Nat) (z : Int) : CS r n0 s b base l q st w0 K n (w.setCell ⟨g, j, none⟩ (.int .i64 z)) := by
  obtain ⟨C, O⟩ := h
  obtain ⟨k, hk, S⟩ := C.S
  obtain ⟨a', cap', zs, c6', hown⟩ := C.row
  rw [c6] at c6'
  cases c6'
  have hg := hown.lt g rfl
  have hlt := C.lt
  have hgb : g ≠ b := by omega
  have hgs : g ≠ s := by omega
  obtain ⟨r1, g1⟩ := hown.stored j (.int .i64 z)
  have hset : (zcells zs).set j (.int .i64 z) = zcells (zs.set j z) := by simp [zcells, List.map_set]
  rw [hset] at r1
  have bl : ∀ k, k ≠ g → (w.setCell ⟨g, j, none⟩ (.int .i64 z)).heap[k]? = w.heap[k]? := fun k hk => Below.heap_setCell _ _ _ _ (by exact hk)
  have c : ∀ o, (w.setCell ⟨g, j, none⟩ (.int .i64 z)).cell? ⟨b, o, none⟩ = w.cell? ⟨b, o, none⟩ := fun o => World.cell?_of_block (w := w) (bl b hgb.symm)
  refine ⟨⟨⟨k, hk, S.keep fun x hx => bl x (by have := S.lo; omega)⟩, ⟨hlt.1, hlt.2.1, hlt.2.2.1, hlt.2.2.2.1, by rw [csize_set]; exact hlt.2.2.2.2⟩, by rw [c]; exact C.cP, by rw [c]; exact C.cL, by rw [c]; exact C.cQ, ⟨_, _, _, by rw [c]; exact c6, r1⟩, by rw [c]; exact C.cS, fun o => by rw [World.frozen?_setCell]; exact C.fz o⟩,
    ⟨O.os, O.tape, O.output, by rw [csize_set]; exact O.size, fun k h1 h2 h3 => (bl k (by omega)).trans (O.block k h1 h2 h3)⟩⟩
end
theorem lit207 (t : Array Value) (h : t.size = 207) : t = #[t.getD 0 undef, t.getD 1 undef, t.getD 2 undef, t.getD 3 undef, t.getD 4 undef, t.getD 5 undef, t.getD 6 undef, t.getD 7 undef, t.getD 8 undef, t.getD 9 undef, t.getD 10 undef, t.getD 11 undef, t.getD 12 undef, t.getD 13 undef, t.getD 14 undef, t.getD 15 undef, t.getD 16 undef, t.getD 17 undef, t.getD 18 undef, t.getD 19 undef, t.getD 20 undef, t.getD 21 undef, t.getD 22 undef, t.getD 23 undef, t.getD 24 undef, t.getD 25 undef, t.getD 26 undef, t.getD 27 undef, t.getD 28 undef, t.getD 29 undef, t.getD 30 undef, t.getD 31 undef, t.getD 32 undef, t.getD 33 undef, t.getD 34 undef, t.getD 35 undef, t.getD 36 undef, t.getD 37 undef, t.getD 38 undef, t.getD 39 undef, t.getD 40 undef, t.getD 41 undef, t.getD 42 undef, t.getD 43 undef, t.getD 44 undef, t.getD 45 undef, t.getD 46 undef, t.getD 47 undef, t.getD 48 undef, t.getD 49 undef, t.getD 50 undef, t.getD 51 undef, t.getD 52 undef, t.getD 53 undef, t.getD 54 undef, t.getD 55 undef, t.getD 56 undef, t.getD 57 undef, t.getD 58 undef, t.getD 59 undef, t.getD 60 undef, t.getD 61 undef, t.getD 62 undef, t.getD 63 undef, t.getD 64 undef, t.getD 65 undef, t.getD 66 undef, t.getD 67 undef, t.getD 68 undef, t.getD 69 undef, t.getD 70 undef, t.getD 71 undef, t.getD 72 undef, t.getD 73 undef, t.getD 74 undef, t.getD 75 undef, t.getD 76 undef, t.getD 77 undef, t.getD 78 undef, t.getD 79 undef, t.getD 80 undef, t.getD 81 undef, t.getD 82 undef, t.getD 83 undef, t.getD 84 undef, t.getD 85 undef, t.getD 86 undef, t.getD 87 undef, t.getD 88 undef, t.getD 89 undef, t.getD 90 undef, t.getD 91 undef, t.getD 92 undef, t.getD 93 undef, t.getD 94 undef, t.getD 95 undef, t.getD 96 undef, t.getD 97 undef, t.getD 98 undef, t.getD 99 undef, t.getD 100 undef, t.getD 101 undef, t.getD 102 undef, t.getD 103 undef, t.getD 104 undef, t.getD 105 undef, t.getD 106 undef, t.getD 107 undef, t.getD 108 undef, t.getD 109 undef, t.getD 110 undef, t.getD 111 undef, t.getD 112 undef, t.getD 113 undef, t.getD 114 undef, t.getD 115 undef, t.getD 116 undef, t.getD 117 undef, t.getD 118 undef, t.getD 119 undef, t.getD 120 undef, t.getD 121 undef, t.getD 122 undef, t.getD 123 undef, t.getD 124 undef, t.getD 125 undef, t.getD 126 undef, t.getD 127 undef, t.getD 128 undef, t.getD 129 undef, t.getD 130 undef, t.getD 131 undef, t.getD 132 undef, t.getD 133 undef, t.getD 134 undef, t.getD 135 undef, t.getD 136 undef, t.getD 137 undef, t.getD 138 undef, t.getD 139 undef, t.getD 140 undef, t.getD 141 undef, t.getD 142 undef, t.getD 143 undef, t.getD 144 undef, t.getD 145 undef, t.getD 146 undef, t.getD 147 undef, t.getD 148 undef, t.getD 149 undef, t.getD 150 undef, t.getD 151 undef, t.getD 152 undef, t.getD 153 undef, t.getD 154 undef, t.getD 155 undef, t.getD 156 undef, t.getD 157 undef, t.getD 158 undef, t.getD 159 undef, t.getD 160 undef, t.getD 161 undef, t.getD 162 undef, t.getD 163 undef, t.getD 164 undef, t.getD 165 undef, t.getD 166 undef, t.getD 167 undef, t.getD 168 undef, t.getD 169 undef, t.getD 170 undef, t.getD 171 undef, t.getD 172 undef, t.getD 173 undef, t.getD 174 undef, t.getD 175 undef, t.getD 176 undef, t.getD 177 undef, t.getD 178 undef, t.getD 179 undef, t.getD 180 undef, t.getD 181 undef, t.getD 182 undef, t.getD 183 undef, t.getD 184 undef, t.getD 185 undef, t.getD 186 undef, t.getD 187 undef, t.getD 188 undef, t.getD 189 undef, t.getD 190 undef, t.getD 191 undef, t.getD 192 undef, t.getD 193 undef, t.getD 194 undef, t.getD 195 undef, t.getD 196 undef, t.getD 197 undef, t.getD 198 undef, t.getD 199 undef, t.getD 200 undef, t.getD 201 undef, t.getD 202 undef, t.getD 203 undef, t.getD 204 undef, t.getD 205 undef, t.getD 206 undef] := by
  have e : t = ((List.range 207).map fun i => t.getD i undef).toArray := by
    apply Array.ext
    · simp [h]
    · intro i h1 h2
      simp [Array.getD, h1]
  exact e
def cl : Code → Code
  | .seq a _ => a
  | c => c
def cr : Code → Code
  | .seq _ b => b
  | c => c
noncomputable def b83 : Code := match Try.f83.body with
  | some c => cr (cl (cr c))
  | none => .skip
noncomputable def t83 : Code := match Try.f83.body with
  | some c => cr (cr c)
  | none => .skip
def PostC (r : Raw) (n0 s b base : Nat) (l q st : Int) (W0 : World) (n K N : Nat) : Ending → World → Prop := fun e w' => ∃ u, e = .returned u ∧ ∃ n', n ≤ n' ∧ n' ≤ n + N ∧ CS r n0 s b base l q st W0 K n' w'
section
variable {r : Raw} {n0 s b base K n : Nat} {l q st : Int} {W0 w : World}
set_option maxHeartbeats 4000000 in
theorem tail83 {N m : Nat} (C : CS r n0 s b base l q st W0 K m w) (h1 : n ≤ m) (h2 : m ≤ n + N) (hK : K + 2 ≤ 900000) {a : Act} (hs : a.tmps.size = 207) (hd : a.defers = []) (h0 : a.tmps.getD 0 undef = .pointer (some ⟨b, 0, none⟩)) (h4 : a.tmps.getD 4 undef = .int .i64 n) :
    t83.wp Try.prog (bodyPost Try.prog Try.f83 (PostC r n0 s b base l q st W0 n (K + 2) N)) a w := by
  obtain ⟨f, hf⟩ : ∃ f : Nat → Value, ∀ i, a.tmps.getD i undef = f i := ⟨_, fun _ => rfl⟩
  have ha : a = { tmps := a.tmps, defers := [] } := by cases a; simp only at hd; subst hd; rfl
  rw [ha, lit207 a.tmps hs]
  rw [h0, h4]
  simp only [hf]
  clear ha hf hs hd h0 h4
  obtain ⟨a6, cap, zs, c6, hown⟩ := C.c.row
  have hP := C.h1
  have e83 : t83 = t83 := rfl
  conv at e83 => rhs; unfold t83 Try.f83; dsimp only [cr]
  rw [e83]
  clear e83
  have FIN : ∀ (w' : World) (u : Value) (K' : Nat), K' ≤ K + 2 → CS r n0 s b base l q st W0 K' m w' → PostC r n0 s b base l q st W0 n (K + 2) N (.returned u) w' := fun _ _ _ hk C' => ⟨_, rfl, m, h1, h2, C'.mono hk⟩
  have FIN : Hid _ := FIN
  by_cases hlt : n < m
  · have hlt' : ((n : Int) < (m : Int)) := by omega
    go_wp2_with fail
    refine (cflip C (by omega) (by omega) (by omega)).mono ?_
    rintro e w1 ⟨v, rfl, C1⟩
    cases v
    · go_wp2_with fail
      go_end0
      exact FIN.out _ _ _ (by omega) C1
    · obtain ⟨a7, cap7, zs7, c67, hown7⟩ := C1.c.row
      have hP1 := C1.h1
      obtain ⟨g, rfl⟩ : ∃ g, a7 = some ⟨g, 0, none⟩ := by
        rcases hown7.2 with ⟨h, h0⟩ | ⟨g, cap, cur, h, _⟩
        · omega
        · simp only [Value.slice.injEq] at h; exact ⟨g, h.1⟩
      have hz : ∃ z, w1.cell? ⟨g, n * 9, none⟩ = some (.int .i64 z) := by
        have hl : (zcells zs7).length = m * 9 := hown7.1
        rw [hown7.cellAt (n * 9) (by omega), List.getElem?_eq_getElem (by omega)]
        simp [zcells]
      obtain ⟨z, hz⟩ := hz
      have B2 := below_alloc w1 (.cells #[.int .i64 1, .int .i64 2, .int .i64 5, .int .i64 6, .int .i64 7, .int .i64 8] 3)
      have hgl : g < w1.heap.size := (hown7.lt g rfl).2
      have hbl : b < w1.heap.size := by have := C1.c.lt; omega
      have d6 : ∀ cs e, (w1.alloc (.cells cs e)).cell? ⟨b, 6, none⟩ = some (.slice (some ⟨g, 0, none⟩) m cap7) := fun cs e => by rw [(below_alloc w1 _).cell (by exact hbl)]; exact c67
      have dz : ∀ cs e, (w1.alloc (.cells cs e)).cell? ⟨g, n * 9, none⟩ = some (.int .i64 z) := fun cs e => by rw [(below_alloc w1 _).cell (by exact hgl)]; exact hz
      go_wp2_with fail
      refine (contains_c (xs := [1, 2, 5, 6, 7, 8]) rfl rfl z).mono ?_
      rintro e w3 ⟨v, rfl, hb3⟩
      have C3 := C1.below hb3
      cases v
      · go_wp2_with fail
        go_end0
        exact FIN.out _ _ _ (by omega) C3
      · have e6 : w3.cell? ⟨b, 6, none⟩ = some (.slice (some ⟨g, 0, none⟩) m cap7) := by rw [hb3.cell (by exact hbl)]; exact c67
        have e0 : w3.cell? ⟨b, 0, none⟩ = some (.pointer (some ⟨s, 0, none⟩)) := C3.h1
        clear d6 dz hz c67 hown7 hP1 C1 B2 C hown c6 hP hb3
        have hltN : (0 : Int) ≤ (n : Int) := by omega
        go_wp2_with fail
        go_region_held3 (fun w' => w'.cell? ⟨b, 0, none⟩ = some (.pointer (some ⟨s, 0, none⟩)) ∧ w'.cell? ⟨b, 6, none⟩ = some (.slice (some ⟨g, 0, none⟩) m cap7))
          (first | exact ⟨e0, e6⟩ | exact ⟨e0', e6'⟩ | exact ⟨C5.out.h1, E6.out⟩)
          (first
            | (go_at_call 34
               refine (crange (lo := 1) (hi := 5) C3.drew (by omega) (by omega) (by omega) (by omega) (by omega)).mono ?_
               rintro e w4 ⟨v, rfl, v0, v1, C4, hz4, O4⟩
               have e0' : w4.cell? ⟨b, 0, none⟩ = some (.pointer (some ⟨s, 0, none⟩)) := C4.h1
               have e6' : w4.cell? ⟨b, 6, none⟩ = some (.slice (some ⟨g, 0, none⟩) m cap7) := by
                 have hl := C3.c.lt
                 rw [O4.cell (by show b < _; exact Nat.lt_of_lt_of_le hl.2.2.2.1 hl.2.2.2.2) (by show b ≠ s; omega)]; exact e6
               obtain ⟨a8, cap8, zs8, c68, hown8⟩ := C4.c.row
               rw [e6'] at c68
               cases c68
               have hst : ∃ x, w4.cell? ⟨g, n * 9 + 6, none⟩ = some x := by
                 rw [hown8.cellAt (n * 9 + 6) (by omega), List.getElem?_eq_getElem (by have := hown8.1; omega)]
                 exact ⟨_, rfl⟩
               obtain ⟨x8, hst⟩ := hst
               have hfz := hown8.frozenAt (n * 9 + 6)
               have C5 := C4.stored e6' (n * 9 + 6) v
               have C5 : Hid _ := C5
               have E6 : (w4.setCell ⟨g, n * 9 + 6, none⟩ (.int .i64 v)).cell? ⟨b, 6, none⟩ = some (.slice (some ⟨g, 0, none⟩) m cap7) := by
                 have hgb : g ≠ b := by have := (hown8.lt g rfl).1; have := C4.c.lt; omega
                 rw [World.cell?_setCell_other _ _ _ _ (fun e => hgb (by first | exact congrArg Addr.block e | exact (congrArg Addr.block e).symm))]; exact e6'
               have E6 : Hid _ := E6
               clear hown8 C4 O4 v0 v1 hz4))
        all_goals go_end0
        all_goals exact FIN.out _ _ _ (by omega) C5.out
  · have hnm : m = n := by omega
    subst hnm
    go_wp2_with fail
    go_end0
    exact FIN.out _ _ _ (by omega) C
end
end Go.Proofs.Yteabbkagekdehaa
end
section
/- The coder's 'one', for each depth. -/
set_option linter.unusedVariables false
set_option linter.unusedSimpArgs false
set_option maxRecDepth 100000
namespace Go.Proofs.Yteabbkagekdehaa
open Go.AE Go.RowKit Go.IntWalk
def T83 (d : Int) : TT := (((Tr.leaf.set 0 (.fld 1 0)).set 1 (.rng d d)).set 4 (.cnt 1000)).set 5 (.rng 0 11)
def okS (k n : Nat) (all : Bool) : Option HS → Bool
  | none => true
  | some S => Nat.ble S.K k && Nat.ble S.N n && (!all || (decide (S.T.get 0 = some (.fld 1 0)) && decide (S.T.get 4 = some (.cnt 1000))))
def chkR (k n : Nat) : Option HR → Bool
  | none => false
  | some R => R.exs.isEmpty && okS k n true R.nrm && okS (k + 2) n false R.rt
theorem okS_some {k n : Nat} {all : Bool} {S : HS} (h : okS k n all (some S) = true) : S.K ≤ k ∧ S.N ≤ n ∧ (all = true → S.T.get 0 = some (.fld 1 0) ∧ S.T.get 4 = some (.cnt 1000)) := by
  simp only [okS, Bool.and_eq_true] at h
  obtain ⟨⟨h1, h2⟩, h3⟩ := h
  refine ⟨Nat.le_of_ble_eq_true h1, Nat.le_of_ble_eq_true h2, fun ha => ?_⟩
  subst ha
  simpa using h3
section
variable {r : Raw} {n0 s b base : Nat} {l q st : Int} {W0 : World}
set_option maxHeartbeats 4000000 in
theorem one83 {ext : FuncId → List Ty → Option HRes} (hX : LoudX r n0 s b base l q st W0 ext) (hl : 1 ≤ l ∧ l ≤ 8) (hq : 1 ≤ q ∧ q ≤ 4) {d : Int} {k m fuel : Nat} {x : HRes} (hrun : chkR k m (ckCode (envOf Try.prog) ⟨nbD st, ext⟩ (k + 2) m 207 fuel b83 ⟨T83 d, 0, 0⟩) = true)
    (hxk : x.k = k + 3) (hxn : x.n = m) (hlo : x.loud = true) (hun : x.ty = .unit) : Loud1 r n0 s b base l q st W0 83 [.fld 1 0, .rng d d] x := by
  refine ⟨hlo, hun, fun {K n B w blk} h0 h1 C hK hN {us} hus => ?_⟩
  cases hus with | cons u0 hus =>
  cases hus with | cons u1 hus =>
  cases hus
  obtain ⟨_, t0, _⟩ := u0
  obtain ⟨_, ⟨dz, rfl, d1, d2⟩, _⟩ := u1
  obtain rfl : dz = d := by omega
  have t0 : _ = Value.pointer (some ⟨blk 1, 0, none⟩) := t0
  subst t0
  rw [h1]
  obtain ⟨R, hR⟩ : ∃ R, ckCode (envOf Try.prog) ⟨nbD st, ext⟩ (k + 2) m 207 fuel b83 ⟨T83 dz, 0, 0⟩ = some R := by
    cases hc : ckCode (envOf Try.prog) ⟨nbD st, ext⟩ (k + 2) m 207 fuel b83 ⟨T83 dz, 0, 0⟩ with
    | none => rw [hc] at hrun; cases hrun
    | some R => exact ⟨R, rfl⟩
  rw [hR] at hrun
  simp only [chkR, Bool.and_eq_true] at hrun
  obtain ⟨⟨r1, r2⟩, r3⟩ := hrun
  obtain ⟨a, cap, zs, c6, hown⟩ := C.c.row
  have hP := C.h1
  let blk' : Nat → Nat := fun i => if i = 0 then s else if i = 1 then b else n
  have GO : Hid (∀ (v : Int) (w1 : World) (tm : Array Value) (Q : Exit → Act → World → Prop), CS r n0 s b base l q st W0 (K + 1) n w1 → 0 ≤ v → v < 12 → tm.size = 207 → tm.getD 0 undef = .pointer (some ⟨b, 0, none⟩) → tm.getD 1 undef = .int .i64 dz → tm.getD 4 undef = .int .i64 n → tm.getD 5 undef = .int .i64 v →
      (∀ a w, t83.wp Try.prog (bodyPost Try.prog Try.f83 (PostC r n0 s b base l q st W0 n (K + x.k) x.n)) a w → Q .normal a w) → (∀ a w, bodyPost Try.prog Try.f83 (PostC r n0 s b base l q st W0 n (K + x.k) x.n) .ret a w → Q .ret a w) → b83.wp Try.prog Q ⟨tm, []⟩ w1) := by
    intro v w1 tm Q C1 v0 v1 s1 s2 s3 s4 s5 hQ1 hQ2
    have hst : At1 (linv hX (blk := blk') rfl rfl hl hq (K + 1) n (k + 2) m (by omega) (by omega)) 207 [] ⟨T83 dz, 0, 0⟩ ⟨tm, []⟩ w1 := by
      refine ⟨w1.heap.size, LI.start C1, s1, rfl, fun t τ ht => ?_⟩
      simp only [T83, Tr.get_set] at ht
      split at ht
      · rename_i e; subst e; cases ht; exact ⟨0, ⟨v, s5, v0, by omega⟩, fun n hn => by cases hn⟩
      · split at ht
        · rename_i e; subst e; cases ht; exact ⟨0, s4, fun n hn => by cases hn⟩
        · split at ht
          · rename_i e; subst e; cases ht; exact ⟨0, ⟨dz, s3, Int.le_refl _, Int.le_refl _⟩, fun n hn => by cases hn⟩
          · split at ht
            · rename_i e; subst e; cases ht; exact ⟨0, s2, fun n hn => by cases hn⟩
            · have : (Tr.leaf : TT).get t = none := Tr.getF_leaf _ _
              rw [this] at ht; cases ht
    refine code_sound2 hmixed b83 _ R hR _ _ _ hst ⟨fun S hS a' w' hA => ?_, fun p hp => ?_, fun S hS a' w' hA => ?_⟩
    · rw [hS] at r2
      obtain ⟨k1, k2, k3⟩ := okS_some r2
      obtain ⟨k4, k5⟩ := k3 rfl
      obtain ⟨B', HA⟩ := hA
      obtain ⟨n', g1, g2, C2⟩ := HA.inv.cs
      obtain ⟨_, q1, _⟩ := HA.ty 0 _ k4
      obtain ⟨_, q2, _⟩ := HA.ty 4 _ k5
      refine hQ1 _ _ ?_
      have := tail83 (N := x.n) (C2.mono (show K + 1 + S.K ≤ K + 1 + k by omega)) g1 (by omega) (by omega) HA.n HA.ds q1 q2
      rw [show K + 1 + k + 2 = K + x.k by omega] at this
      exact this
    · have : R.exs = [] := by simpa using r1
      rw [this] at hp; cases hp
    · rw [hS] at r3
      obtain ⟨k1, k2, _⟩ := okS_some r3
      obtain ⟨B', HA⟩ := hA
      obtain ⟨n', g1, g2, C2⟩ := HA.inv.cs
      refine hQ2 _ _ ⟨HA.ds, _, results_none rfl _ _ _, _, rfl, n', g1, by omega, C2.mono (by omega)⟩
  clear hR r1 r2 r3
  have GO' : Hid _ := GO
  clear GO
  show Calls Try.prog 83 _ w (PostC r n0 s b base l q st W0 n (K + x.k) x.n)
  go_enter Try.func83, Try.ntmps83
  go_wp2_with fail
  refine (cnext C (by omega) (by omega) (by omega)).mono ?_
  rintro e w1 ⟨v, rfl, v0, v1, C1, -, -⟩
  go_upto_block 0 with fail
  refine GO'.out v w1 _ _ C1 v0 v1 rfl rfl rfl rfl rfl (fun a w h => ?_) (fun a w h => h)
  apply_assumption
  exact h
def extM := extAdd 101 [.fld 1 0] rMem extA
theorem extM_ok (hst : st = 0 ∨ st = 16) (hl : 1 ≤ l ∧ l ≤ 8) (hq : 1 ≤ q ∧ q ≤ 4) : LoudX r n0 s b base l q st W0 extM := loudAdd_ok (mem_L hst hl hq) (extA_ok hst)
def rOne0 : HRes := ⟨.unit, 15, 2, true⟩
def rOne1 : HRes := ⟨.unit, 66, 10, true⟩
def rOne2 : HRes := ⟨.unit, 270, 42, true⟩
def rOne3 : HRes := ⟨.unit, 1086, 170, true⟩
def extN0 := extAdd 83 [.fld 1 0, .rng 0 0] rOne0 extM
def extN1 := extAdd 83 [.fld 1 0, .rng 1 1] rOne1 extM
def extN2 := extAdd 83 [.fld 1 0, .rng 2 2] rOne2 extM
theorem one_0_0 : chkR 12 2 (ckCode (envOf Try.prog) ⟨nbD 0, extM⟩ (12 + 2) 2 207 10 b83 ⟨T83 0, 0, 0⟩) = true := by kernel_rfl
theorem one_0_16 : chkR 12 2 (ckCode (envOf Try.prog) ⟨nbD 16, extM⟩ (12 + 2) 2 207 10 b83 ⟨T83 0, 0, 0⟩) = true := by kernel_rfl
theorem one_1_0 : chkR 63 10 (ckCode (envOf Try.prog) ⟨nbD 0, extN0⟩ (63 + 2) 10 207 10 b83 ⟨T83 1, 0, 0⟩) = true := by kernel_rfl
theorem one_1_16 : chkR 63 10 (ckCode (envOf Try.prog) ⟨nbD 16, extN0⟩ (63 + 2) 10 207 10 b83 ⟨T83 1, 0, 0⟩) = true := by kernel_rfl
theorem one_2_0 : chkR 267 42 (ckCode (envOf Try.prog) ⟨nbD 0, extN1⟩ (267 + 2) 42 207 10 b83 ⟨T83 2, 0, 0⟩) = true := by kernel_rfl
theorem one_2_16 : chkR 267 42 (ckCode (envOf Try.prog) ⟨nbD 16, extN1⟩ (267 + 2) 42 207 10 b83 ⟨T83 2, 0, 0⟩) = true := by kernel_rfl
theorem one_3_0 : chkR 1083 170 (ckCode (envOf Try.prog) ⟨nbD 0, extN2⟩ (1083 + 2) 170 207 10 b83 ⟨T83 3, 0, 0⟩) = true := by kernel_rfl
theorem one_3_16 : chkR 1083 170 (ckCode (envOf Try.prog) ⟨nbD 16, extN2⟩ (1083 + 2) 170 207 10 b83 ⟨T83 3, 0, 0⟩) = true := by kernel_rfl
theorem one_L0 (hst : st = 0 ∨ st = 16) (hl : 1 ≤ l ∧ l ≤ 8) (hq : 1 ≤ q ∧ q ≤ 4) : Loud1 r n0 s b base l q st W0 83 [.fld 1 0, .rng 0 0] rOne0 := by
  have hX : LoudX r n0 s b base l q st W0 extM := extM_ok hst hl hq
  rcases hst with rfl | rfl
  · exact one83 hX hl hq (x := rOne0) one_0_0 rfl rfl rfl rfl
  · exact one83 hX hl hq (x := rOne0) one_0_16 rfl rfl rfl rfl
theorem one_L1 (hst : st = 0 ∨ st = 16) (hl : 1 ≤ l ∧ l ≤ 8) (hq : 1 ≤ q ∧ q ≤ 4) : Loud1 r n0 s b base l q st W0 83 [.fld 1 0, .rng 1 1] rOne1 := by
  have hX : LoudX r n0 s b base l q st W0 extN0 := loudAdd_ok (one_L0 hst hl hq) (extM_ok hst hl hq)
  rcases hst with rfl | rfl
  · exact one83 hX hl hq (x := rOne1) one_1_0 rfl rfl rfl rfl
  · exact one83 hX hl hq (x := rOne1) one_1_16 rfl rfl rfl rfl
theorem one_L2 (hst : st = 0 ∨ st = 16) (hl : 1 ≤ l ∧ l ≤ 8) (hq : 1 ≤ q ∧ q ≤ 4) : Loud1 r n0 s b base l q st W0 83 [.fld 1 0, .rng 2 2] rOne2 := by
  have hX : LoudX r n0 s b base l q st W0 extN1 := loudAdd_ok (one_L1 hst hl hq) (extM_ok hst hl hq)
  rcases hst with rfl | rfl
  · exact one83 hX hl hq (x := rOne2) one_2_0 rfl rfl rfl rfl
  · exact one83 hX hl hq (x := rOne2) one_2_16 rfl rfl rfl rfl
theorem one_L3 (hst : st = 0 ∨ st = 16) (hl : 1 ≤ l ∧ l ≤ 8) (hq : 1 ≤ q ∧ q ≤ 4) : Loud1 r n0 s b base l q st W0 83 [.fld 1 0, .rng 3 3] rOne3 := by
  have hX : LoudX r n0 s b base l q st W0 extN2 := loudAdd_ok (one_L2 hst hl hq) (extM_ok hst hl hq)
  rcases hst with rfl | rfl
  · exact one83 hX hl hq (x := rOne3) one_3_0 rfl rfl rfl rfl
  · exact one83 hX hl hq (x := rOne3) one_3_16 rfl rfl rfl rfl
end
end Go.Proofs.Yteabbkagekdehaa
end
