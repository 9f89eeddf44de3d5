/-
  No cell of these rows narrows 'for every input' (looked for: loops, veiled, ifaces, maps, wideKeys, modest, calm, conditions, laid).
  DERIVED. THE GIVEN ROWS OF THIS SEAT. 3 by the template 'for every input the law returns true; each argument reads behind the call as it read before'; 0 by the template 'total and deterministic' (their statements: YtfcifdddmcnjcaaTotals.lean).
  GIVEN WITH THE SEED: the statements are not yours to turn. If you find one false, say at which input.
  Laid BY PROGRAM, IN A SANDBOX (cutbox-rows.mjs): the forced cells as the released guide's own fill.sh prints them over the translation e0f5e1393b14a42b… (all of the seat's roots in one cut). By AI agents, Wed Nov 11 2026. No macro, syntax, notation, axiom, sorry.
-/
import Derived.Test.YtfcifdddmcnjcaaChecked
import GoSem.Claim
import GoSem.ClaimJoined
import GoSem.ClaimMapViews
import Derived.JoinedTies
import Derived.KernelRfl
namespace Go.Proofs.Ytfcifdddmcnjcaa
/- THE CELL 'sum', in the pinned program and in every row, IS THE sha256 OF THE DUMP (.gsa) THAT YtfcifdddmcnjcaaProg.lean LOADS. Nothing in Lean hashes anything: it is a label: what it is worth is what the hold of that sum in a sandbox is worth. -/
noncomputable def Try.pinned : Pinned := { name := "ytfcifdddmcnjcaa", sum := "e0f5e1393b14a42bbc3c48fb93d76641b65f017c1a3c6d79c07c54b8cbaf0913", checked := Try.checked }
namespace Rows
def none {H : Type} : Left H := { results := [], args := [] }

/-- 'firkinlaw27.ClockChance': WHATEVER THE INPUT: true; the input reads as it did. -/
def clockChanceSpec : ChangeSpec := { name := "clockChance", fn := fun _ => fun
  | [d1, d2] => { results := [.lit (.bool true)], args := [d1, d2] }
  | _ => none }
def clockChanceRow : OpenClaim := { program := "ytfcifdddmcnjcaa", sum := "e0f5e1393b14a42bbc3c48fb93d76641b65f017c1a3c6d79c07c54b8cbaf0913", func := "firkin/firkinlaw27.ClockChance", spec := "clockChance", unfollowed := true, recurses := true, apart := false }
def ClockChanceSaid : Prop := clockChanceRow.holds Try.pinned (OpenSpec.ofChange clockChanceSpec)

/-- ITS FALSE NEIGHBOUR: 'it returns false'. Refute it at one input. -/
def clockChanceWrong : ChangeSpec := { name := "clockChance", fn := fun _ => fun
  | [d1, d2] => { results := [.lit (.bool false)], args := [d1, d2] }
  | _ => none }
def ClockChanceWrongFalsely : Prop := clockChanceRow.holds Try.pinned (OpenSpec.ofChange clockChanceWrong)

/-- 'firkinlaw27.ClockPins': WHATEVER THE INPUT: true; the input reads as it did. -/
def clockPinsSpec : ChangeSpec := { name := "clockPins", fn := fun _ => fun
  | [d1, d2, d3] => { results := [.lit (.bool true)], args := [d1, d2, d3] }
  | _ => none }
def clockPinsRow : OpenClaim := { program := "ytfcifdddmcnjcaa", sum := "e0f5e1393b14a42bbc3c48fb93d76641b65f017c1a3c6d79c07c54b8cbaf0913", func := "firkin/firkinlaw27.ClockPins", spec := "clockPins", unfollowed := true, recurses := true, apart := false }
def ClockPinsSaid : Prop := clockPinsRow.holds Try.pinned (OpenSpec.ofChange clockPinsSpec)

/-- ITS FALSE NEIGHBOUR: 'it returns false'. Refute it at one input. -/
def clockPinsWrong : ChangeSpec := { name := "clockPins", fn := fun _ => fun
  | [d1, d2, d3] => { results := [.lit (.bool false)], args := [d1, d2, d3] }
  | _ => none }
def ClockPinsWrongFalsely : Prop := clockPinsRow.holds Try.pinned (OpenSpec.ofChange clockPinsWrong)

/-- 'firkinlaw27.ClockDoes': WHATEVER THE INPUT: true; the input reads as it did. -/
def clockDoesSpec : ChangeSpec := { name := "clockDoes", fn := fun _ => fun
  | [d1, d2] => { results := [.lit (.bool true)], args := [d1, d2] }
  | _ => none }
def clockDoesRow : OpenClaim := { program := "ytfcifdddmcnjcaa", sum := "e0f5e1393b14a42bbc3c48fb93d76641b65f017c1a3c6d79c07c54b8cbaf0913", func := "firkin/firkinlaw27.ClockDoes", spec := "clockDoes", unfollowed := true, recurses := true, apart := false }
def ClockDoesSaid : Prop := clockDoesRow.holds Try.pinned (OpenSpec.ofChange clockDoesSpec)

/-- ITS FALSE NEIGHBOUR: 'it returns false'. Refute it at one input. -/
def clockDoesWrong : ChangeSpec := { name := "clockDoes", fn := fun _ => fun
  | [d1, d2] => { results := [.lit (.bool false)], args := [d1, d2] }
  | _ => none }
def ClockDoesWrongFalsely : Prop := clockDoesRow.holds Try.pinned (OpenSpec.ofChange clockDoesWrong)

/- THE SECOND FORM. 'bulk': how many values and letters a reading holds, each counted each time it is reached (what is shared counts as often as it is met; a slice's spare places count too). A statement '..UptoSaid' is the law's where the arguments, and the package variables that the reading takes, are together of bulk at most 1048576: NARROWER than '..Said'. Prove '..Said' where nothing that the law and all that it calls make is longer than what came in: it says more and counts as full. Else prove '..UptoSaid'. A law counts once. -/
mutual
def uptoBulk {H : Type} : DataW H → Nat
  | .lit (.string bytes) => bytes.length + 1
  | .lit _ => 1
  | .nil => 1
  | .ptr d => uptoBulk d + 1
  | .slice elems spare => uptoBulkAll elems + uptoBulkAll spare + 1
  | .agg parts => uptoBulkAll parts + 1
  | .iface _ d => uptoBulk d + 1
  | .map entries => uptoBulkEntries entries + 1
  | .held _ => 1
def uptoBulkAll {H : Type} : List (DataW H) → Nat
  | [] => 0
  | d :: r => uptoBulk d + uptoBulkAll r
def uptoBulkEntries {H : Type} : List (Lit × DataW H) → Nat
  | [] => 0
  | x :: r => uptoBulkEntry x + uptoBulkEntries r
def uptoBulkEntry {H : Type} : Lit × DataW H → Nat
  | (.string bytes, d) => bytes.length + uptoBulk d + 1
  | (_, d) => uptoBulk d + 1
 end
def uptoSmall : (H : Type) → List (DataW H) → Bool := fun _ ds => decide (uptoBulkAll ds ≤ 1048576)
def OpenSpec.upto (s : _root_.Go.ChangeSpec) : _root_.Go.OpenSpec := { _root_.Go.OpenSpec.ofChange s with cond := some uptoSmall }

/-- 'firkinlaw27.ClockChance', WHERE WHAT IT READS IS OF BULK AT MOST 1048576: true; the input reads as it did. -/
def clockChanceUptoRow : OpenClaim := { program := "ytfcifdddmcnjcaa", sum := "e0f5e1393b14a42bbc3c48fb93d76641b65f017c1a3c6d79c07c54b8cbaf0913", func := "firkin/firkinlaw27.ClockChance", spec := "clockChance", unfollowed := true, recurses := true, apart := false, narrowed := true }
def ClockChanceUptoSaid : Prop := clockChanceUptoRow.holds Try.pinned (OpenSpec.upto clockChanceSpec)

/-- 'firkinlaw27.ClockPins', WHERE WHAT IT READS IS OF BULK AT MOST 1048576: true; the input reads as it did. -/
def clockPinsUptoRow : OpenClaim := { program := "ytfcifdddmcnjcaa", sum := "e0f5e1393b14a42bbc3c48fb93d76641b65f017c1a3c6d79c07c54b8cbaf0913", func := "firkin/firkinlaw27.ClockPins", spec := "clockPins", unfollowed := true, recurses := true, apart := false, narrowed := true }
def ClockPinsUptoSaid : Prop := clockPinsUptoRow.holds Try.pinned (OpenSpec.upto clockPinsSpec)

/-- 'firkinlaw27.ClockDoes', WHERE WHAT IT READS IS OF BULK AT MOST 1048576: true; the input reads as it did. -/
def clockDoesUptoRow : OpenClaim := { program := "ytfcifdddmcnjcaa", sum := "e0f5e1393b14a42bbc3c48fb93d76641b65f017c1a3c6d79c07c54b8cbaf0913", func := "firkin/firkinlaw27.ClockDoes", spec := "clockDoes", unfollowed := true, recurses := true, apart := false, narrowed := true }
def ClockDoesUptoSaid : Prop := clockDoesUptoRow.holds Try.pinned (OpenSpec.upto clockDoesSpec)

end Rows
end Go.Proofs.Ytfcifdddmcnjcaa
