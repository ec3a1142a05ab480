/-
  No cell of these rows narrows 'for every input' (looked for: loops, veiled, ifaces, maps, wideKeys, modest, calm, conditions, laid).
  DERIVED. THE GIVEN ROWS OF THIS SEAT. 3 by the template 'for every input the law returns true; each argument reads behind the call as it read before'; 0 by the template 'total and deterministic' (their statements: YthhhpaeheccelaaGreatTotals.lean).
  GIVEN WITH THE SEED: the statements are not yours to turn. If you find one false, say at which input.
  Laid BY PROGRAM, IN A SANDBOX (cutbox-rows.mjs): the forced cells as the released guide's own fill.sh prints them over the translation c42004d4ae5e7a11… (all of the seat's roots in one cut). By AI agents, Wed Nov 11 2026. No macro, syntax, notation, axiom, sorry.
-/
import Derived.Test.YthhhpaeheccelaaGreatChecked
import GoSem.Claim
import GoSem.ClaimJoined
import GoSem.ClaimMapViews
import Derived.JoinedTies
import Derived.KernelRfl
namespace Go.Proofs.YthhhpaeheccelaaGreat
/- THE CELL 'sum', in the pinned program and in every row, IS THE sha256 OF THE DUMP (.gsa) THAT YthhhpaeheccelaaGreatProg.lean LOADS. Nothing in Lean hashes anything: it is a label: what it is worth is what the hold of that sum in a sandbox is worth. -/
noncomputable def Tryz.pinned : Pinned := { name := "ythhhpaeheccelaagreat", sum := "c42004d4ae5e7a1121ed7bd577b86d4817047424dc11681800fe29120dc7f3a8", checked := Tryz.checked }
namespace Rows
def none {H : Type} : Left H := { results := [], args := [] }

/-- 'weftlaw2.ServeRanges': WHATEVER THE INPUT: true; the input reads as it did. -/
def serveRangesSpec : ChangeSpec := { name := "serveRanges", fn := fun _ => fun
  | [d1, d2] => { results := [.lit (.bool true)], args := [d1, d2] }
  | _ => none }
def serveRangesRow : OpenClaim := { program := "ythhhpaeheccelaagreat", sum := "c42004d4ae5e7a1121ed7bd577b86d4817047424dc11681800fe29120dc7f3a8", func := "weftworks/weftlaw2.ServeRanges", spec := "serveRanges", unfollowed := true, recurses := true, apart := false }
def ServeRangesSaid : Prop := serveRangesRow.holds Tryz.pinned (OpenSpec.ofChange serveRangesSpec)

/-- ITS FALSE NEIGHBOUR: 'it returns false'. Refute it at one input. -/
def serveRangesWrong : ChangeSpec := { name := "serveRanges", fn := fun _ => fun
  | [d1, d2] => { results := [.lit (.bool false)], args := [d1, d2] }
  | _ => none }
def ServeRangesWrongFalsely : Prop := serveRangesRow.holds Tryz.pinned (OpenSpec.ofChange serveRangesWrong)

/-- 'weftlaw2.ServeLimits': WHATEVER THE INPUT: true; the input reads as it did. -/
def serveLimitsSpec : ChangeSpec := { name := "serveLimits", fn := fun _ => fun
  | [d] => { results := [.lit (.bool true)], args := [d] }
  | _ => none }
def serveLimitsRow : OpenClaim := { program := "ythhhpaeheccelaagreat", sum := "c42004d4ae5e7a1121ed7bd577b86d4817047424dc11681800fe29120dc7f3a8", func := "weftworks/weftlaw2.ServeLimits", spec := "serveLimits", unfollowed := true, recurses := true, apart := false }
def ServeLimitsSaid : Prop := serveLimitsRow.holds Tryz.pinned (OpenSpec.ofChange serveLimitsSpec)

/-- ITS FALSE NEIGHBOUR: 'it returns false'. Refute it at one input. -/
def serveLimitsWrong : ChangeSpec := { name := "serveLimits", fn := fun _ => fun
  | [d] => { results := [.lit (.bool false)], args := [d] }
  | _ => none }
def ServeLimitsWrongFalsely : Prop := serveLimitsRow.holds Tryz.pinned (OpenSpec.ofChange serveLimitsWrong)

/-- 'weftlaw2.ServeRings': WHATEVER THE INPUT: true; the input reads as it did. -/
def serveRingsSpec : ChangeSpec := { name := "serveRings", fn := fun _ => fun
  | [d] => { results := [.lit (.bool true)], args := [d] }
  | _ => none }
def serveRingsRow : OpenClaim := { program := "ythhhpaeheccelaagreat", sum := "c42004d4ae5e7a1121ed7bd577b86d4817047424dc11681800fe29120dc7f3a8", func := "weftworks/weftlaw2.ServeRings", spec := "serveRings", unfollowed := true, recurses := true, apart := false }
def ServeRingsSaid : Prop := serveRingsRow.holds Tryz.pinned (OpenSpec.ofChange serveRingsSpec)

/-- ITS FALSE NEIGHBOUR: 'it returns false'. Refute it at one input. -/
def serveRingsWrong : ChangeSpec := { name := "serveRings", fn := fun _ => fun
  | [d] => { results := [.lit (.bool false)], args := [d] }
  | _ => none }
def ServeRingsWrongFalsely : Prop := serveRingsRow.holds Tryz.pinned (OpenSpec.ofChange serveRingsWrong)

/- THE SECOND FORM. 'bulk': how many values and letters a reading holds, each counted each time it is reached (what is shared counts as often as it is met; a slice's spare places count too). A statement '..UptoSaid' is the law's where the arguments, and the package variables that the reading takes, are together of bulk at most 1048576: NARROWER than '..Said'. Prove '..Said' where nothing that the law and all that it calls make is longer than what came in: it says more and counts as full. Else prove '..UptoSaid'. A law counts once. -/
mutual
def uptoBulk {H : Type} : DataW H → Nat
  | .lit (.string bytes) => bytes.length + 1
  | .lit _ => 1
  | .nil => 1
  | .ptr d => uptoBulk d + 1
  | .slice elems spare => uptoBulkAll elems + uptoBulkAll spare + 1
  | .agg parts => uptoBulkAll parts + 1
  | .iface _ d => uptoBulk d + 1
  | .map entries => uptoBulkEntries entries + 1
  | .held _ => 1
def uptoBulkAll {H : Type} : List (DataW H) → Nat
  | [] => 0
  | d :: r => uptoBulk d + uptoBulkAll r
def uptoBulkEntries {H : Type} : List (Lit × DataW H) → Nat
  | [] => 0
  | x :: r => uptoBulkEntry x + uptoBulkEntries r
def uptoBulkEntry {H : Type} : Lit × DataW H → Nat
  | (.string bytes, d) => bytes.length + uptoBulk d + 1
  | (_, d) => uptoBulk d + 1
 end
def uptoSmall : (H : Type) → List (DataW H) → Bool := fun _ ds => decide (uptoBulkAll ds ≤ 1048576)
def OpenSpec.upto (s : _root_.Go.ChangeSpec) : _root_.Go.OpenSpec := { _root_.Go.OpenSpec.ofChange s with cond := some uptoSmall }

/-- 'weftlaw2.ServeRanges', WHERE WHAT IT READS IS OF BULK AT MOST 1048576: true; the input reads as it did. -/
def serveRangesUptoRow : OpenClaim := { program := "ythhhpaeheccelaagreat", sum := "c42004d4ae5e7a1121ed7bd577b86d4817047424dc11681800fe29120dc7f3a8", func := "weftworks/weftlaw2.ServeRanges", spec := "serveRanges", unfollowed := true, recurses := true, apart := false, narrowed := true }
def ServeRangesUptoSaid : Prop := serveRangesUptoRow.holds Tryz.pinned (OpenSpec.upto serveRangesSpec)

/-- 'weftlaw2.ServeLimits', WHERE WHAT IT READS IS OF BULK AT MOST 1048576: true; the input reads as it did. -/
def serveLimitsUptoRow : OpenClaim := { program := "ythhhpaeheccelaagreat", sum := "c42004d4ae5e7a1121ed7bd577b86d4817047424dc11681800fe29120dc7f3a8", func := "weftworks/weftlaw2.ServeLimits", spec := "serveLimits", unfollowed := true, recurses := true, apart := false, narrowed := true }
def ServeLimitsUptoSaid : Prop := serveLimitsUptoRow.holds Tryz.pinned (OpenSpec.upto serveLimitsSpec)

/-- 'weftlaw2.ServeRings', WHERE WHAT IT READS IS OF BULK AT MOST 1048576: true; the input reads as it did. -/
def serveRingsUptoRow : OpenClaim := { program := "ythhhpaeheccelaagreat", sum := "c42004d4ae5e7a1121ed7bd577b86d4817047424dc11681800fe29120dc7f3a8", func := "weftworks/weftlaw2.ServeRings", spec := "serveRings", unfollowed := true, recurses := true, apart := false, narrowed := true }
def ServeRingsUptoSaid : Prop := serveRingsUptoRow.holds Tryz.pinned (OpenSpec.upto serveRingsSpec)

end Rows
end Go.Proofs.YthhhpaeheccelaaGreat
