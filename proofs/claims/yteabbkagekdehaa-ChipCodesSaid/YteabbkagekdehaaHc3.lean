/- The coder's 'one': the rest behind the switch. -/
import Derived.Test.YteabbkagekdehaaHc2
import Derived.Deep.Cut
import Derived.Deep.CutBlock
set_option linter.unusedVariables false
set_option linter.unusedSimpArgs false
set_option maxRecDepth 100000
namespace Go.Proofs.Yteabbkagekdehaa
open Go.AE Go.RowKit Go.IntWalk
/-! functions that only read, at blocks of the call's own -/
def ExtP1 (f : FuncId) (τs : List Ty) (x : HRes) : Prop := x.loud = false ∧ ∀ {B : Nat} {blk : Nat → Nat} {w : World}, B ≤ w.heap.size → ∀ {us : List Value}, Tys B blk w τs us →
    Calls Try.prog f us.toArray w fun e w' => ∃ u, e = .returned u ∧ HasTy B blk w' x.ty u ∧ Below B w w' ∧ OwnKeep B w w'
def ExtP (ext : FuncId → List Ty → Option HRes) : Prop := ∀ {f τs x}, ext f τs = some x → ExtP1 f τs x
theorem prun {ext : FuncId → List Ty → Option HRes} (hX : ExtP ext) {fuel f : Nat} {F : Func} (hF : Try.prog.funcs[f]? = some F) {tys : List Ty} {x : HRes} (hx : notOwn x.ty = true)
    (h : ckFn (envOf Try.prog) ⟨[], ext⟩ x.k x.n fuel F tys = some x) (hl : x.loud = false) : ExtP1 f tys x := by
  refine ⟨hl, fun {B blk w} hB {us} hus => ?_⟩
  let J : HInv Try.prog ⟨[], ext⟩ blk x.k x.n := {
    Inv := fun B' _ _ w' => B' = B ∧ B ≤ w'.heap.size ∧ Below B w w' ∧ OwnKeep B w w'
    named := fun {B' K N w'} h => ⟨by simp, fun i j hi => by simp at hi, fun i hi => by simp at hi, fun i cs hi => by simp at hi, fun i cs j k hi => by simp at hi, fun i cs hi => by simp at hi⟩
    bw := fun {B' K N w'} ⟨e, h, _⟩ => by subst e; exact h
    keep := fun {B' K N w' w''} ⟨e, h1, h2, h3⟩ hb hk => by
      subst e
      exact ⟨rfl, Nat.le_trans h1 hb.size, h2.trans hb, h3.trans hk⟩
    mono := fun h _ _ => h
    quiet := fun {g τs y} hy hlo {B' K N w'} ⟨e, h1, h2, h3⟩ _ {us'} hus' => by
      subst e
      refine ((hX hy).2 h1 hus').mono ?_
      rintro e w'' ⟨u, rfl, q1, q2, q3⟩
      exact ⟨u, rfl, q1, ⟨rfl, Nat.le_trans h1 q2.size, h2.trans q2, h3.trans q3⟩, q3⟩
    loud := fun {g τs y} hy hlo => by have := (hX hy).1; rw [hlo] at this; cases this }
  refine (fn_sound (I := J) hmixed hF h (B := B) ⟨rfl, hB, Below.refl _ _, OwnKeep.refl _ _⟩ hus).mono ?_
  rintro e w' ⟨u, B', rfl, hu, rfl, h1, h2, h3⟩
  exact ⟨u, rfl, hu, h2, h3⟩
def rIdx : HRes := ⟨.rng (-1) 5, 0, 0, false⟩
def rCon : HRes := ⟨.bool, 0, 0, false⟩
def extHI : FuncId → List Ty → Option HRes := extAdd 120 [.sl 6 1, .num] rIdx fun _ _ => none
theorem idx_run : ckFn (envOf Try.prog) ⟨[], fun _ _ => none⟩ rIdx.k rIdx.n 10 Try.f120 [.sl 6 1, .num] = some rIdx := by kernel_rfl
theorem con_run : ckFn (envOf Try.prog) ⟨[], extHI⟩ rCon.k rCon.n 10 Try.f103 [.sl 6 1, .num] = some rCon := by kernel_rfl
theorem extHI_ok : ExtP extHI := by
  intro g τs y h
  unfold extHI extAdd at h
  cases hc : (Nat.beq g 120 && decide (τs = [.sl 6 1, .num])) with
  | false => rw [hc] at h; cases h
  | true =>
    rw [hc] at h
    simp only [cond_true, Option.some.injEq] at h
    simp only [Bool.and_eq_true, Nat.beq_eq, decide_eq_true_eq] at hc
    obtain ⟨rfl, rfl⟩ := hc
    subst h
    exact prun (x := rIdx) (fun h => by cases h) Try.func120 rfl idx_run rfl
theorem contains_c {w : World} {cs : Array Value} {xs : List Int} (hx : xs.length = 6) (hcs : (xs.map (Value.int .i64)).toArray = cs) (z : Int) :
    Calls Try.prog 103 #[.slice (some ⟨w.heap.size, 0, none⟩) 6 6, .int .i64 z] (w.alloc (.cells cs 3)) fun e w' => ∃ v : Bool, e = .returned (.bool v) ∧ Below w.heap.size w w' := by
  have hown : OwnB 6 w.heap.size (w.alloc (.cells cs 3)) := by
    subst hcs
    refine ⟨_, _, heap_alloc_new w _, by simp [hx], fun i hi => ?_⟩
    simp only [List.getElem?_toArray, List.getElem?_map]
    rw [List.getElem?_eq_getElem (show i < xs.length by omega)]
    exact ⟨_, rfl⟩
  have hX : ExtP1 103 [.sl 6 1, .num] rCon := prun (x := rCon) extHI_ok Try.func103 rfl con_run rfl
  refine (hX.2 (B := w.heap.size) (blk := fun _ => 0) (w := w.alloc (.cells cs 3)) (by simp) (us := [.slice (some ⟨w.heap.size, 0, none⟩) 6 6, .int .i64 z]) (.cons ⟨w.heap.size, rfl, fun n hn => by cases hn; exact ⟨Nat.le_refl _, hown⟩⟩ (.cons ⟨0, ⟨z, rfl⟩, fun n hn => by cases hn⟩ .nil))).mono ?_
  rintro e w' ⟨u, rfl, ⟨_, ⟨v, rfl⟩, _⟩, hb, _⟩
  exact ⟨v, rfl, (below_alloc w _).trans hb⟩
section
variable {r : Raw} {n0 s b base K n : Nat} {l q st : Int} {w0 w : World}
/-- a number is stored in the code -/
theorem CS.stored (h : CS r n0 s b base l q st w0 K n w) {g cap : Nat} (c6 : w.cell? ⟨b, 6, none⟩ = some (.slice (some ⟨g, 0, none⟩) n cap)) (j : Nat) (z : Int) : CS r n0 s b base l q st w0 K n (w.setCell ⟨g, j, none⟩ (.int .i64 z)) := by
  obtain ⟨C, O⟩ := h
  obtain ⟨k, hk, S⟩ := C.S
  obtain ⟨a', cap', zs, c6', hown⟩ := C.row
  rw [c6] at c6'
  cases c6'
  have hg := hown.lt g rfl
  have hlt := C.lt
  have hgb : g ≠ b := by omega
  have hgs : g ≠ s := by omega
  obtain ⟨r1, g1⟩ := hown.stored j (.int .i64 z)
  have hset : (zcells zs).set j (.int .i64 z) = zcells (zs.set j z) := by simp [zcells, List.map_set]
  rw [hset] at r1
  have bl : ∀ k, k ≠ g → (w.setCell ⟨g, j, none⟩ (.int .i64 z)).heap[k]? = w.heap[k]? := fun k hk => Below.heap_setCell _ _ _ _ (by exact hk)
  have c : ∀ o, (w.setCell ⟨g, j, none⟩ (.int .i64 z)).cell? ⟨b, o, none⟩ = w.cell? ⟨b, o, none⟩ := fun o => World.cell?_of_block (w := w) (bl b hgb.symm)
  refine ⟨⟨⟨k, hk, S.keep fun x hx => bl x (by have := S.lo; omega)⟩, ⟨hlt.1, hlt.2.1, hlt.2.2.1, hlt.2.2.2.1, by rw [csize_set]; exact hlt.2.2.2.2⟩, by rw [c]; exact C.cP, by rw [c]; exact C.cL, by rw [c]; exact C.cQ, ⟨_, _, _, by rw [c]; exact c6, r1⟩, by rw [c]; exact C.cS, fun o => by rw [World.frozen?_setCell]; exact C.fz o⟩,
    ⟨O.os, O.tape, O.output, by rw [csize_set]; exact O.size, fun k h1 h2 h3 => (bl k (by omega)).trans (O.block k h1 h2 h3)⟩⟩
end
theorem lit207 (t : Array Value) (h : t.size = 207) : t = #[t.getD 0 undef, t.getD 1 undef, t.getD 2 undef, t.getD 3 undef, t.getD 4 undef, t.getD 5 undef, t.getD 6 undef, t.getD 7 undef, t.getD 8 undef, t.getD 9 undef, t.getD 10 undef, t.getD 11 undef, t.getD 12 undef, t.getD 13 undef, t.getD 14 undef, t.getD 15 undef, t.getD 16 undef, t.getD 17 undef, t.getD 18 undef, t.getD 19 undef, t.getD 20 undef, t.getD 21 undef, t.getD 22 undef, t.getD 23 undef, t.getD 24 undef, t.getD 25 undef, t.getD 26 undef, t.getD 27 undef, t.getD 28 undef, t.getD 29 undef, t.getD 30 undef, t.getD 31 undef, t.getD 32 undef, t.getD 33 undef, t.getD 34 undef, t.getD 35 undef, t.getD 36 undef, t.getD 37 undef, t.getD 38 undef, t.getD 39 undef, t.getD 40 undef, t.getD 41 undef, t.getD 42 undef, t.getD 43 undef, t.getD 44 undef, t.getD 45 undef, t.getD 46 undef, t.getD 47 undef, t.getD 48 undef, t.getD 49 undef, t.getD 50 undef, t.getD 51 undef, t.getD 52 undef, t.getD 53 undef, t.getD 54 undef, t.getD 55 undef, t.getD 56 undef, t.getD 57 undef, t.getD 58 undef, t.getD 59 undef, t.getD 60 undef, t.getD 61 undef, t.getD 62 undef, t.getD 63 undef, t.getD 64 undef, t.getD 65 undef, t.getD 66 undef, t.getD 67 undef, t.getD 68 undef, t.getD 69 undef, t.getD 70 undef, t.getD 71 undef, t.getD 72 undef, t.getD 73 undef, t.getD 74 undef, t.getD 75 undef, t.getD 76 undef, t.getD 77 undef, t.getD 78 undef, t.getD 79 undef, t.getD 80 undef, t.getD 81 undef, t.getD 82 undef, t.getD 83 undef, t.getD 84 undef, t.getD 85 undef, t.getD 86 undef, t.getD 87 undef, t.getD 88 undef, t.getD 89 undef, t.getD 90 undef, t.getD 91 undef, t.getD 92 undef, t.getD 93 undef, t.getD 94 undef, t.getD 95 undef, t.getD 96 undef, t.getD 97 undef, t.getD 98 undef, t.getD 99 undef, t.getD 100 undef, t.getD 101 undef, t.getD 102 undef, t.getD 103 undef, t.getD 104 undef, t.getD 105 undef, t.getD 106 undef, t.getD 107 undef, t.getD 108 undef, t.getD 109 undef, t.getD 110 undef, t.getD 111 undef, t.getD 112 undef, t.getD 113 undef, t.getD 114 undef, t.getD 115 undef, t.getD 116 undef, t.getD 117 undef, t.getD 118 undef, t.getD 119 undef, t.getD 120 undef, t.getD 121 undef, t.getD 122 undef, t.getD 123 undef, t.getD 124 undef, t.getD 125 undef, t.getD 126 undef, t.getD 127 undef, t.getD 128 undef, t.getD 129 undef, t.getD 130 undef, t.getD 131 undef, t.getD 132 undef, t.getD 133 undef, t.getD 134 undef, t.getD 135 undef, t.getD 136 undef, t.getD 137 undef, t.getD 138 undef, t.getD 139 undef, t.getD 140 undef, t.getD 141 undef, t.getD 142 undef, t.getD 143 undef, t.getD 144 undef, t.getD 145 undef, t.getD 146 undef, t.getD 147 undef, t.getD 148 undef, t.getD 149 undef, t.getD 150 undef, t.getD 151 undef, t.getD 152 undef, t.getD 153 undef, t.getD 154 undef, t.getD 155 undef, t.getD 156 undef, t.getD 157 undef, t.getD 158 undef, t.getD 159 undef, t.getD 160 undef, t.getD 161 undef, t.getD 162 undef, t.getD 163 undef, t.getD 164 undef, t.getD 165 undef, t.getD 166 undef, t.getD 167 undef, t.getD 168 undef, t.getD 169 undef, t.getD 170 undef, t.getD 171 undef, t.getD 172 undef, t.getD 173 undef, t.getD 174 undef, t.getD 175 undef, t.getD 176 undef, t.getD 177 undef, t.getD 178 undef, t.getD 179 undef, t.getD 180 undef, t.getD 181 undef, t.getD 182 undef, t.getD 183 undef, t.getD 184 undef, t.getD 185 undef, t.getD 186 undef, t.getD 187 undef, t.getD 188 undef, t.getD 189 undef, t.getD 190 undef, t.getD 191 undef, t.getD 192 undef, t.getD 193 undef, t.getD 194 undef, t.getD 195 undef, t.getD 196 undef, t.getD 197 undef, t.getD 198 undef, t.getD 199 undef, t.getD 200 undef, t.getD 201 undef, t.getD 202 undef, t.getD 203 undef, t.getD 204 undef, t.getD 205 undef, t.getD 206 undef] := by
  have e : t = ((List.range 207).map fun i => t.getD i undef).toArray := by
    apply Array.ext
    · simp [h]
    · intro i h1 h2
      simp [Array.getD, h1]
  exact e
def cl : Code → Code
  | .seq a _ => a
  | c => c
def cr : Code → Code
  | .seq _ b => b
  | c => c
noncomputable def b83 : Code := match Try.f83.body with
  | some c => cr (cl (cr c))
  | none => .skip
noncomputable def t83 : Code := match Try.f83.body with
  | some c => cr (cr c)
  | none => .skip
def PostC (r : Raw) (n0 s b base : Nat) (l q st : Int) (W0 : World) (n K N : Nat) : Ending → World → Prop := fun e w' => ∃ u, e = .returned u ∧ ∃ n', n ≤ n' ∧ n' ≤ n + N ∧ CS r n0 s b base l q st W0 K n' w'
section
variable {r : Raw} {n0 s b base K n : Nat} {l q st : Int} {W0 w : World}
set_option maxHeartbeats 4000000 in
theorem tail83 {N m : Nat} (C : CS r n0 s b base l q st W0 K m w) (h1 : n ≤ m) (h2 : m ≤ n + N) (hK : K + 2 ≤ 900000) {a : Act} (hs : a.tmps.size = 207) (hd : a.defers = []) (h0 : a.tmps.getD 0 undef = .pointer (some ⟨b, 0, none⟩)) (h4 : a.tmps.getD 4 undef = .int .i64 n) :
    t83.wp Try.prog (bodyPost Try.prog Try.f83 (PostC r n0 s b base l q st W0 n (K + 2) N)) a w := by
  obtain ⟨f, hf⟩ : ∃ f : Nat → Value, ∀ i, a.tmps.getD i undef = f i := ⟨_, fun _ => rfl⟩
  have ha : a = { tmps := a.tmps, defers := [] } := by cases a; simp only at hd; subst hd; rfl
  rw [ha, lit207 a.tmps hs]
  rw [h0, h4]
  simp only [hf]
  clear ha hf hs hd h0 h4
  obtain ⟨a6, cap, zs, c6, hown⟩ := C.c.row
  have hP := C.h1
  have e83 : t83 = t83 := rfl
  conv at e83 => rhs; unfold t83 Try.f83; dsimp only [cr]
  rw [e83]
  clear e83
  have FIN : ∀ (w' : World) (u : Value) (K' : Nat), K' ≤ K + 2 → CS r n0 s b base l q st W0 K' m w' → PostC r n0 s b base l q st W0 n (K + 2) N (.returned u) w' := fun _ _ _ hk C' => ⟨_, rfl, m, h1, h2, C'.mono hk⟩
  have FIN : Hid _ := FIN
  by_cases hlt : n < m
  · have hlt' : ((n : Int) < (m : Int)) := by omega
    go_wp2_with fail
    refine (cflip C (by omega) (by omega) (by omega)).mono ?_
    rintro e w1 ⟨v, rfl, C1⟩
    cases v
    · go_wp2_with fail
      go_end0
      exact FIN.out _ _ _ (by omega) C1
    · obtain ⟨a7, cap7, zs7, c67, hown7⟩ := C1.c.row
      have hP1 := C1.h1
      obtain ⟨g, rfl⟩ : ∃ g, a7 = some ⟨g, 0, none⟩ := by
        rcases hown7.2 with ⟨h, h0⟩ | ⟨g, cap, cur, h, _⟩
        · omega
        · simp only [Value.slice.injEq] at h; exact ⟨g, h.1⟩
      have hz : ∃ z, w1.cell? ⟨g, n * 9, none⟩ = some (.int .i64 z) := by
        have hl : (zcells zs7).length = m * 9 := hown7.1
        rw [hown7.cellAt (n * 9) (by omega), List.getElem?_eq_getElem (by omega)]
        simp [zcells]
      obtain ⟨z, hz⟩ := hz
      have B2 := below_alloc w1 (.cells #[.int .i64 1, .int .i64 2, .int .i64 5, .int .i64 6, .int .i64 7, .int .i64 8] 3)
      have hgl : g < w1.heap.size := (hown7.lt g rfl).2
      have hbl : b < w1.heap.size := by have := C1.c.lt; omega
      have d6 : ∀ cs e, (w1.alloc (.cells cs e)).cell? ⟨b, 6, none⟩ = some (.slice (some ⟨g, 0, none⟩) m cap7) := fun cs e => by rw [(below_alloc w1 _).cell (by exact hbl)]; exact c67
      have dz : ∀ cs e, (w1.alloc (.cells cs e)).cell? ⟨g, n * 9, none⟩ = some (.int .i64 z) := fun cs e => by rw [(below_alloc w1 _).cell (by exact hgl)]; exact hz
      go_wp2_with fail
      refine (contains_c (xs := [1, 2, 5, 6, 7, 8]) rfl rfl z).mono ?_
      rintro e w3 ⟨v, rfl, hb3⟩
      have C3 := C1.below hb3
      cases v
      · go_wp2_with fail
        go_end0
        exact FIN.out _ _ _ (by omega) C3
      · have e6 : w3.cell? ⟨b, 6, none⟩ = some (.slice (some ⟨g, 0, none⟩) m cap7) := by rw [hb3.cell (by exact hbl)]; exact c67
        have e0 : w3.cell? ⟨b, 0, none⟩ = some (.pointer (some ⟨s, 0, none⟩)) := C3.h1
        clear d6 dz hz c67 hown7 hP1 C1 B2 C hown c6 hP hb3
        have hltN : (0 : Int) ≤ (n : Int) := by omega
        go_wp2_with fail
        go_region_held3 (fun w' => w'.cell? ⟨b, 0, none⟩ = some (.pointer (some ⟨s, 0, none⟩)) ∧ w'.cell? ⟨b, 6, none⟩ = some (.slice (some ⟨g, 0, none⟩) m cap7))
          (first | exact ⟨e0, e6⟩ | exact ⟨e0', e6'⟩ | exact ⟨C5.out.h1, E6.out⟩)
          (first
            | (go_at_call 34
               refine (crange (lo := 1) (hi := 5) C3.drew (by omega) (by omega) (by omega) (by omega) (by omega)).mono ?_
               rintro e w4 ⟨v, rfl, v0, v1, C4, hz4, O4⟩
               have e0' : w4.cell? ⟨b, 0, none⟩ = some (.pointer (some ⟨s, 0, none⟩)) := C4.h1
               have e6' : w4.cell? ⟨b, 6, none⟩ = some (.slice (some ⟨g, 0, none⟩) m cap7) := by
                 have hl := C3.c.lt
                 rw [O4.cell (by show b < _; exact Nat.lt_of_lt_of_le hl.2.2.2.1 hl.2.2.2.2) (by show b ≠ s; omega)]; exact e6
               obtain ⟨a8, cap8, zs8, c68, hown8⟩ := C4.c.row
               rw [e6'] at c68
               cases c68
               have hst : ∃ x, w4.cell? ⟨g, n * 9 + 6, none⟩ = some x := by
                 rw [hown8.cellAt (n * 9 + 6) (by omega), List.getElem?_eq_getElem (by have := hown8.1; omega)]
                 exact ⟨_, rfl⟩
               obtain ⟨x8, hst⟩ := hst
               have hfz := hown8.frozenAt (n * 9 + 6)
               have C5 := C4.stored e6' (n * 9 + 6) v
               have C5 : Hid _ := C5
               have E6 : (w4.setCell ⟨g, n * 9 + 6, none⟩ (.int .i64 v)).cell? ⟨b, 6, none⟩ = some (.slice (some ⟨g, 0, none⟩) m cap7) := by
                 have hgb : g ≠ b := by have := (hown8.lt g rfl).1; have := C4.c.lt; omega
                 rw [World.cell?_setCell_other _ _ _ _ (fun e => hgb (by first | exact congrArg Addr.block e | exact (congrArg Addr.block e).symm))]; exact e6'
               have E6 : Hid _ := E6
               clear hown8 C4 O4 v0 v1 hz4))
        all_goals go_end0
        all_goals exact FIN.out _ _ _ (by omega) C5.out
  · have hnm : m = n := by omega
    subst hnm
    go_wp2_with fail
    go_end0
    exact FIN.out _ _ _ (by omega) C
end
end Go.Proofs.Yteabbkagekdehaa
