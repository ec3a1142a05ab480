/-
  No cell of these rows narrows 'for every input' (looked for: loops, veiled, ifaces, maps, wideKeys, modest, calm, conditions, laid).
  DERIVED. THE GIVEN ROWS OF THIS SEAT. 6 by the template 'for every input the law returns true; each argument reads behind the call as it read before'; 0 by the template 'total and deterministic' (their statements: YteabbkagekdehaaTotals.lean).
  GIVEN WITH THE SEED: the statements are not yours to turn. If you find one false, say at which input.
  Laid BY PROGRAM, IN A SANDBOX (cutbox-rows.mjs): the forced cells as the released guide's own fill.sh prints them over the translation 6645236c988832e3… (all of the seat's roots in one cut). By AI agents, Wed Nov 11 2026. No macro, syntax, notation, axiom, sorry.
-/
import Derived.Test.YteabbkagekdehaaChecked
import GoSem.Claim
import GoSem.ClaimJoined
import GoSem.ClaimMapViews
import Derived.JoinedTies
import Derived.KernelRfl
namespace Go.Proofs.Yteabbkagekdehaa
/- THE CELL 'sum', in the pinned program and in every row, IS THE sha256 OF THE DUMP (.gsa) THAT YteabbkagekdehaaProg.lean LOADS. Nothing in Lean hashes anything: it is a label: what it is worth is what the hold of that sum in a sandbox is worth. -/
noncomputable def Try.pinned : Pinned := { name := "yteabbkagekdehaa", sum := "6645236c988832e3f8dc0ec5fb420f11d926f366987409b82177f0ceddc2745f", checked := Try.checked }
namespace Rows
def none {H : Type} : Left H := { results := [], args := [] }

/-- 'weftlaw2.ChipLimits': WHATEVER THE INPUT: true; the input reads as it did. -/
def chipLimitsSpec : ChangeSpec := { name := "chipLimits", fn := fun _ => fun
  | [d] => { results := [.lit (.bool true)], args := [d] }
  | _ => none }
def chipLimitsRow : OpenClaim := { program := "yteabbkagekdehaa", sum := "6645236c988832e3f8dc0ec5fb420f11d926f366987409b82177f0ceddc2745f", func := "weftworks/weftlaw2.ChipLimits", spec := "chipLimits", unfollowed := true, recurses := true, apart := false }
def ChipLimitsSaid : Prop := chipLimitsRow.holds Try.pinned (OpenSpec.ofChange chipLimitsSpec)

/-- ITS FALSE NEIGHBOUR: 'it returns false'. Refute it at one input. -/
def chipLimitsWrong : ChangeSpec := { name := "chipLimits", fn := fun _ => fun
  | [d] => { results := [.lit (.bool false)], args := [d] }
  | _ => none }
def ChipLimitsWrongFalsely : Prop := chipLimitsRow.holds Try.pinned (OpenSpec.ofChange chipLimitsWrong)

/-- 'weftlaw2.ChipPacks': WHATEVER THE INPUT: true; the input reads as it did. -/
def chipPacksSpec : ChangeSpec := { name := "chipPacks", fn := fun _ => fun
  | [d] => { results := [.lit (.bool true)], args := [d] }
  | _ => none }
def chipPacksRow : OpenClaim := { program := "yteabbkagekdehaa", sum := "6645236c988832e3f8dc0ec5fb420f11d926f366987409b82177f0ceddc2745f", func := "weftworks/weftlaw2.ChipPacks", spec := "chipPacks", unfollowed := true, recurses := true, apart := false }
def ChipPacksSaid : Prop := chipPacksRow.holds Try.pinned (OpenSpec.ofChange chipPacksSpec)

/-- ITS FALSE NEIGHBOUR: 'it returns false'. Refute it at one input. -/
def chipPacksWrong : ChangeSpec := { name := "chipPacks", fn := fun _ => fun
  | [d] => { results := [.lit (.bool false)], args := [d] }
  | _ => none }
def ChipPacksWrongFalsely : Prop := chipPacksRow.holds Try.pinned (OpenSpec.ofChange chipPacksWrong)

/-- 'weftlaw2.ChipChecks': WHATEVER THE INPUT: true; the input reads as it did. -/
def chipChecksSpec : ChangeSpec := { name := "chipChecks", fn := fun _ => fun
  | [d] => { results := [.lit (.bool true)], args := [d] }
  | _ => none }
def chipChecksRow : OpenClaim := { program := "yteabbkagekdehaa", sum := "6645236c988832e3f8dc0ec5fb420f11d926f366987409b82177f0ceddc2745f", func := "weftworks/weftlaw2.ChipChecks", spec := "chipChecks", inPlace := ["slices.overlaps[weftworks/api.Instr]"], unfollowed := true, recurses := true, apart := false }
def ChipChecksSaid : Prop := chipChecksRow.holds Try.pinned (OpenSpec.ofChange chipChecksSpec)

/-- ITS FALSE NEIGHBOUR: 'it returns false'. Refute it at one input. -/
def chipChecksWrong : ChangeSpec := { name := "chipChecks", fn := fun _ => fun
  | [d] => { results := [.lit (.bool false)], args := [d] }
  | _ => none }
def ChipChecksWrongFalsely : Prop := chipChecksRow.holds Try.pinned (OpenSpec.ofChange chipChecksWrong)

/-- 'weftlaw2.ChipRegisters': WHATEVER THE INPUT: true; the input reads as it did. -/
def chipRegistersSpec : ChangeSpec := { name := "chipRegisters", fn := fun _ => fun
  | [d] => { results := [.lit (.bool true)], args := [d] }
  | _ => none }
def chipRegistersRow : OpenClaim := { program := "yteabbkagekdehaa", sum := "6645236c988832e3f8dc0ec5fb420f11d926f366987409b82177f0ceddc2745f", func := "weftworks/weftlaw2.ChipRegisters", spec := "chipRegisters", unfollowed := true, recurses := true, apart := false }
def ChipRegistersSaid : Prop := chipRegistersRow.holds Try.pinned (OpenSpec.ofChange chipRegistersSpec)

/-- ITS FALSE NEIGHBOUR: 'it returns false'. Refute it at one input. -/
def chipRegistersWrong : ChangeSpec := { name := "chipRegisters", fn := fun _ => fun
  | [d] => { results := [.lit (.bool false)], args := [d] }
  | _ => none }
def ChipRegistersWrongFalsely : Prop := chipRegistersRow.holds Try.pinned (OpenSpec.ofChange chipRegistersWrong)

/-- 'weftlaw2.ChipCodes': WHATEVER THE INPUT: true; the input reads as it did. -/
def chipCodesSpec : ChangeSpec := { name := "chipCodes", fn := fun _ => fun
  | [d] => { results := [.lit (.bool true)], args := [d] }
  | _ => none }
def chipCodesRow : OpenClaim := { program := "yteabbkagekdehaa", sum := "6645236c988832e3f8dc0ec5fb420f11d926f366987409b82177f0ceddc2745f", func := "weftworks/weftlaw2.ChipCodes", spec := "chipCodes", inPlace := ["slices.overlaps[weftworks/api.Instr]"], unfollowed := true, recurses := true, apart := false }
def ChipCodesSaid : Prop := chipCodesRow.holds Try.pinned (OpenSpec.ofChange chipCodesSpec)

/-- ITS FALSE NEIGHBOUR: 'it returns false'. Refute it at one input. -/
def chipCodesWrong : ChangeSpec := { name := "chipCodes", fn := fun _ => fun
  | [d] => { results := [.lit (.bool false)], args := [d] }
  | _ => none }
def ChipCodesWrongFalsely : Prop := chipCodesRow.holds Try.pinned (OpenSpec.ofChange chipCodesWrong)

/-- 'weftlaw2.ChipPredicts': WHATEVER THE INPUT: true; the input reads as it did. -/
def chipPredictsSpec : ChangeSpec := { name := "chipPredicts", fn := fun _ => fun
  | [d] => { results := [.lit (.bool true)], args := [d] }
  | _ => none }
def chipPredictsRow : OpenClaim := { program := "yteabbkagekdehaa", sum := "6645236c988832e3f8dc0ec5fb420f11d926f366987409b82177f0ceddc2745f", func := "weftworks/weftlaw2.ChipPredicts", spec := "chipPredicts", inPlace := ["slices.overlaps[weftworks/api.Instr]"], unfollowed := true, recurses := true, apart := false }
def ChipPredictsSaid : Prop := chipPredictsRow.holds Try.pinned (OpenSpec.ofChange chipPredictsSpec)

/-- ITS FALSE NEIGHBOUR: 'it returns false'. Refute it at one input. -/
def chipPredictsWrong : ChangeSpec := { name := "chipPredicts", fn := fun _ => fun
  | [d] => { results := [.lit (.bool false)], args := [d] }
  | _ => none }
def ChipPredictsWrongFalsely : Prop := chipPredictsRow.holds Try.pinned (OpenSpec.ofChange chipPredictsWrong)

/- THE SECOND FORM. 'bulk': how many values and letters a reading holds, each counted each time it is reached (what is shared counts as often as it is met; a slice's spare places count too). A statement '..UptoSaid' is the law's where the arguments, and the package variables that the reading takes, are together of bulk at most 1048576: NARROWER than '..Said'. Prove '..Said' where nothing that the law and all that it calls make is longer than what came in: it says more and counts as full. Else prove '..UptoSaid'. A law counts once. -/
mutual
def uptoBulk {H : Type} : DataW H → Nat
  | .lit (.string bytes) => bytes.length + 1
  | .lit _ => 1
  | .nil => 1
  | .ptr d => uptoBulk d + 1
  | .slice elems spare => uptoBulkAll elems + uptoBulkAll spare + 1
  | .agg parts => uptoBulkAll parts + 1
  | .iface _ d => uptoBulk d + 1
  | .map entries => uptoBulkEntries entries + 1
  | .held _ => 1
def uptoBulkAll {H : Type} : List (DataW H) → Nat
  | [] => 0
  | d :: r => uptoBulk d + uptoBulkAll r
def uptoBulkEntries {H : Type} : List (Lit × DataW H) → Nat
  | [] => 0
  | x :: r => uptoBulkEntry x + uptoBulkEntries r
def uptoBulkEntry {H : Type} : Lit × DataW H → Nat
  | (.string bytes, d) => bytes.length + uptoBulk d + 1
  | (_, d) => uptoBulk d + 1
 end
def uptoSmall : (H : Type) → List (DataW H) → Bool := fun _ ds => decide (uptoBulkAll ds ≤ 1048576)
def OpenSpec.upto (s : _root_.Go.ChangeSpec) : _root_.Go.OpenSpec := { _root_.Go.OpenSpec.ofChange s with cond := some uptoSmall }

/-- 'weftlaw2.ChipLimits', WHERE WHAT IT READS IS OF BULK AT MOST 1048576: true; the input reads as it did. -/
def chipLimitsUptoRow : OpenClaim := { program := "yteabbkagekdehaa", sum := "6645236c988832e3f8dc0ec5fb420f11d926f366987409b82177f0ceddc2745f", func := "weftworks/weftlaw2.ChipLimits", spec := "chipLimits", unfollowed := true, recurses := true, apart := false, narrowed := true }
def ChipLimitsUptoSaid : Prop := chipLimitsUptoRow.holds Try.pinned (OpenSpec.upto chipLimitsSpec)

/-- 'weftlaw2.ChipPacks', WHERE WHAT IT READS IS OF BULK AT MOST 1048576: true; the input reads as it did. -/
def chipPacksUptoRow : OpenClaim := { program := "yteabbkagekdehaa", sum := "6645236c988832e3f8dc0ec5fb420f11d926f366987409b82177f0ceddc2745f", func := "weftworks/weftlaw2.ChipPacks", spec := "chipPacks", unfollowed := true, recurses := true, apart := false, narrowed := true }
def ChipPacksUptoSaid : Prop := chipPacksUptoRow.holds Try.pinned (OpenSpec.upto chipPacksSpec)

/-- 'weftlaw2.ChipChecks', WHERE WHAT IT READS IS OF BULK AT MOST 1048576: true; the input reads as it did. -/
def chipChecksUptoRow : OpenClaim := { program := "yteabbkagekdehaa", sum := "6645236c988832e3f8dc0ec5fb420f11d926f366987409b82177f0ceddc2745f", func := "weftworks/weftlaw2.ChipChecks", spec := "chipChecks", inPlace := ["slices.overlaps[weftworks/api.Instr]"], unfollowed := true, recurses := true, apart := false, narrowed := true }
def ChipChecksUptoSaid : Prop := chipChecksUptoRow.holds Try.pinned (OpenSpec.upto chipChecksSpec)

/-- 'weftlaw2.ChipRegisters', WHERE WHAT IT READS IS OF BULK AT MOST 1048576: true; the input reads as it did. -/
def chipRegistersUptoRow : OpenClaim := { program := "yteabbkagekdehaa", sum := "6645236c988832e3f8dc0ec5fb420f11d926f366987409b82177f0ceddc2745f", func := "weftworks/weftlaw2.ChipRegisters", spec := "chipRegisters", unfollowed := true, recurses := true, apart := false, narrowed := true }
def ChipRegistersUptoSaid : Prop := chipRegistersUptoRow.holds Try.pinned (OpenSpec.upto chipRegistersSpec)

/-- 'weftlaw2.ChipCodes', WHERE WHAT IT READS IS OF BULK AT MOST 1048576: true; the input reads as it did. -/
def chipCodesUptoRow : OpenClaim := { program := "yteabbkagekdehaa", sum := "6645236c988832e3f8dc0ec5fb420f11d926f366987409b82177f0ceddc2745f", func := "weftworks/weftlaw2.ChipCodes", spec := "chipCodes", inPlace := ["slices.overlaps[weftworks/api.Instr]"], unfollowed := true, recurses := true, apart := false, narrowed := true }
def ChipCodesUptoSaid : Prop := chipCodesUptoRow.holds Try.pinned (OpenSpec.upto chipCodesSpec)

/-- 'weftlaw2.ChipPredicts', WHERE WHAT IT READS IS OF BULK AT MOST 1048576: true; the input reads as it did. -/
def chipPredictsUptoRow : OpenClaim := { program := "yteabbkagekdehaa", sum := "6645236c988832e3f8dc0ec5fb420f11d926f366987409b82177f0ceddc2745f", func := "weftworks/weftlaw2.ChipPredicts", spec := "chipPredicts", inPlace := ["slices.overlaps[weftworks/api.Instr]"], unfollowed := true, recurses := true, apart := false, narrowed := true }
def ChipPredictsUptoSaid : Prop := chipPredictsUptoRow.holds Try.pinned (OpenSpec.upto chipPredictsSpec)

end Rows
end Go.Proofs.Yteabbkagekdehaa
