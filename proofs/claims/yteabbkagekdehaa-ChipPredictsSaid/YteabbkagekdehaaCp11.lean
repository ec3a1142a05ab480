/- The document's map of queues: what it reads at each queue. -/
import Derived.Test.YteabbkagekdehaaCp5
import Derived.Maps.OwnSet
import Derived.Maps.Views
set_option linter.unusedVariables false
set_option linter.unusedSimpArgs false
set_option maxRecDepth 100000
namespace Go.Proofs.Yteabbkagekdehaa
open Go.AE Go.RowKit Go.IntWalk
def MpAt (w : World) (b nn : Nat) (g : Nat → Nat) : Prop := ∃ D : DataW Unit, w.ownsMap Try.prog 3 (plainElem Try.prog 3) b nn D ∧ Go.Maps.IsMap D ∧ ∀ q : Nat, q < 4 → D.atKey (.int .i64 q) (.lit (.int .i64 0)) = .lit (.int .i64 (g q))
theorem wf_q {q : Int} (h0 : 0 ≤ q) (h1 : q ≤ 9000000000000000000) : (Lit.int .i64 q).wf = true := by
  have h := wrap64_wf q
  rwa [show wrap64 q = q by unfold wrap64; omega] at h
theorem key_q {q : Nat} (h : q < 4) : keyOf Try.prog 3 (.int .i64 (q : Int)) = some (.int .i64 q) := Go.Maps.keyOf_int_mk Try.underlying3 (wf_q (by omega) (by omega))
theorem zero3 (w : World) : (zeroValue 3).run Try.prog w = .ok (.int .i64 0) w := by
  have hz : Try.t3.zero = some (.int .i64 0) := by rfl
  simp [zeroValue, go_sem, hz]
theorem MpAt.look {w : World} {b nn : Nat} {g : Nat → Nat} (h : MpAt w b nn g) {q : Nat} (hq : q < 4) : (Instr.lookup 100 (.map (some b)) (.int .i64 (q : Int)) false).run Try.prog w = .ok (.int .i64 (g q : Nat)) w := by
  obtain ⟨D, h1, _, h3⟩ := h
  obtain ⟨c, hrun, hat, _⟩ := h1.lookup_int (Go.Maps.int_keyed Try.underlying3) Try.underlying100 Try.underlying3 (zero3 w) (key_q hq)
  rw [h3 q hq] at hat
  cases hat
  exact hrun
theorem pl_q {v : Nat} (h : v ≤ 9000000000000000000) : plainElem (H := Unit) Try.prog 3 (.int .i64 (v : Int)) = some (.lit (.int .i64 v), []) := plainElem_int Try.underlying3 (wf_q (by omega) (by omega))
theorem MpAt.upd {w : World} {b nn : Nat} {g : Nat → Nat} (h : MpAt w b nn g) (hn : nn < 9000000000000) {q v : Nat} (hq : q < 4) (hv : v ≤ 9000000000000000000) :
    ∃ w', (Instr.mapUpdate 100 (.map (some b)) (.int .i64 (q : Int)) (.int .i64 (v : Int))).run Try.prog w = .ok () w' ∧ MpAt w' b (nn + 1) (fun k => if k = q then v else g k) ∧ w.grownBy w' (some b) := by
  obtain ⟨D, h1, h2, h3⟩ := h
  obtain ⟨w', r1, r2, r3⟩ := h1.update (Go.Maps.int_keyed Try.underlying3) Try.underlying100 (by unfold maxLen; omega) (key_q hq) (pl_q hv)
  refine ⟨w', r1, ⟨_, r2, ?_, fun k hk => ?_⟩, r3⟩
  · obtain ⟨es, rfl⟩ := h2
    exact ⟨_, rfl⟩
  · show _ = DataW.lit (Lit.int .i64 ((if k = q then v else g k : Nat) : Int))
    by_cases e : k = q
    · subst e
      rw [Go.Maps.atKey_put_same h2 (by trivial), if_pos rfl]
    · rw [Go.Maps.atKey_put_other (fun q' => e (by injection q' with q1 q2; omega)), if_neg e]
      exact h3 k hk
theorem MpAt.del {w : World} {b nn : Nat} {g : Nat → Nat} (h : MpAt w b nn g) {q : Nat} (hq : q < 4) (ty : TypeId) :
    ∃ w', (Builtin.delete_ #[100, 3] ty #[.map (some b), .int .i64 (q : Int)]).run Try.prog w = .ok (.tuple #[]) w' ∧ MpAt w' b nn (fun k => if k = q then 0 else g k) ∧ w.mapTurned w' b := by
  obtain ⟨D, h1, h2, h3⟩ := h
  obtain ⟨w', r1, r2, r3⟩ := h1.drop (Go.Maps.int_keyed Try.underlying3) Try.underlying100 (key_q hq) ty
  refine ⟨w', r1, ⟨_, r2, ?_, fun k hk => ?_⟩, r3⟩
  · obtain ⟨es, rfl⟩ := h2
    exact ⟨_, rfl⟩
  · show _ = DataW.lit (Lit.int .i64 ((if k = q then 0 else g k : Nat) : Int))
    by_cases e : k = q
    · subst e
      rw [Go.Maps.atKey_del_same, if_pos rfl]
      rfl
    · rw [Go.Maps.atKey_del_other (fun q' => e (by injection q' with q1 q2; omega)), if_neg e]
      exact h3 k hk
theorem MpAt.made (w : World) : MpAt (w.alloc (.map #[] 0)) w.heap.size 0 (fun _ => 0) := ⟨_, World.ownsMap_made w Try.prog 3 _, ⟨[], rfl⟩, fun _ _ => rfl⟩
theorem MpAt.block {w w' : World} {b nn : Nat} {g : Nat → Nat} (h : MpAt w b nn g) (hb : w'.heap[b]? = w.heap[b]?) : MpAt w' b nn g := by
  obtain ⟨D, ⟨es, clock, h0, hr⟩, h2, h3⟩ := h
  exact ⟨D, ⟨es, clock, hb.trans h0, hr⟩, h2, h3⟩
theorem MpAt.mono {w : World} {b nn nn' : Nat} {g : Nat → Nat} (h : MpAt w b nn g) (hn : nn ≤ nn') : MpAt w b nn' g := by
  obtain ⟨D, h1, h2, h3⟩ := h
  exact ⟨D, h1.mono hn, h2, h3⟩
end Go.Proofs.Yteabbkagekdehaa
