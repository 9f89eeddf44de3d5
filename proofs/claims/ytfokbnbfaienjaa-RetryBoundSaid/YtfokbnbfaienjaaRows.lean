/-
  No cell of these rows narrows 'for every input' (looked for: loops, veiled, ifaces, maps, wideKeys, modest, calm, conditions, laid).
  DERIVED. THE GIVEN ROWS OF THIS SEAT. 3 by the template 'for every input the law returns true; each argument reads behind the call as it read before'; 0 by the template 'total and deterministic' (their statements: YtfokbnbfaienjaaTotals.lean).
  GIVEN WITH THE SEED: the statements are not yours to turn. If you find one false, say at which input.
  Laid BY PROGRAM, IN A SANDBOX (cutbox-rows.mjs): the forced cells as the released guide's own fill.sh prints them over the translation cf71f9a35bec588f… (all of the seat's roots in one cut). By AI agents, Wed Nov 11 2026. No macro, syntax, notation, axiom, sorry.
-/
import Derived.Test.YtfokbnbfaienjaaChecked
import GoSem.Claim
import GoSem.ClaimJoined
import GoSem.ClaimMapViews
import Derived.JoinedTies
import Derived.KernelRfl
namespace Go.Proofs.Ytfokbnbfaienjaa
/- THE CELL 'sum', in the pinned program and in every row, IS THE sha256 OF THE DUMP (.gsa) THAT YtfokbnbfaienjaaProg.lean LOADS. Nothing in Lean hashes anything: it is a label: what it is worth is what the hold of that sum in a sandbox is worth. -/
noncomputable def Try.pinned : Pinned := { name := "ytfokbnbfaienjaa", sum := "cf71f9a35bec588f1457cf24177abaa69e77803178e03e2ac7a51c771b16d76c", checked := Try.checked }
namespace Rows
def none {H : Type} : Left H := { results := [], args := [] }

/-- 'firkinlaw32.RetryDoes': WHATEVER THE INPUT: true; the input reads as it did. -/
def retryDoesSpec : ChangeSpec := { name := "retryDoes", fn := fun _ => fun
  | [d1, d2] => { results := [.lit (.bool true)], args := [d1, d2] }
  | _ => none }
def retryDoesRow : OpenClaim := { program := "ytfokbnbfaienjaa", sum := "cf71f9a35bec588f1457cf24177abaa69e77803178e03e2ac7a51c771b16d76c", func := "firkin/firkinlaw32.RetryDoes", spec := "retryDoes", unfollowed := true, recurses := true, apart := false }
def RetryDoesSaid : Prop := retryDoesRow.holds Try.pinned (OpenSpec.ofChange retryDoesSpec)

/-- ITS FALSE NEIGHBOUR: 'it returns false'. Refute it at one input. -/
def retryDoesWrong : ChangeSpec := { name := "retryDoes", fn := fun _ => fun
  | [d1, d2] => { results := [.lit (.bool false)], args := [d1, d2] }
  | _ => none }
def RetryDoesWrongFalsely : Prop := retryDoesRow.holds Try.pinned (OpenSpec.ofChange retryDoesWrong)

/-- 'firkinlaw32.RetryBound': WHATEVER THE INPUT: true; the input reads as it did. -/
def retryBoundSpec : ChangeSpec := { name := "retryBound", fn := fun _ => fun
  | [d] => { results := [.lit (.bool true)], args := [d] }
  | _ => none }
def retryBoundRow : OpenClaim := { program := "ytfokbnbfaienjaa", sum := "cf71f9a35bec588f1457cf24177abaa69e77803178e03e2ac7a51c771b16d76c", func := "firkin/firkinlaw32.RetryBound", spec := "retryBound", unfollowed := true, recurses := true, apart := false }
def RetryBoundSaid : Prop := retryBoundRow.holds Try.pinned (OpenSpec.ofChange retryBoundSpec)

/-- ITS FALSE NEIGHBOUR: 'it returns false'. Refute it at one input. -/
def retryBoundWrong : ChangeSpec := { name := "retryBound", fn := fun _ => fun
  | [d] => { results := [.lit (.bool false)], args := [d] }
  | _ => none }
def RetryBoundWrongFalsely : Prop := retryBoundRow.holds Try.pinned (OpenSpec.ofChange retryBoundWrong)

/-- 'firkinlaw32.RetryOnce': WHATEVER THE INPUT: true; the input reads as it did. -/
def retryOnceSpec : ChangeSpec := { name := "retryOnce", fn := fun _ => fun
  | [d1, d2] => { results := [.lit (.bool true)], args := [d1, d2] }
  | _ => none }
def retryOnceRow : OpenClaim := { program := "ytfokbnbfaienjaa", sum := "cf71f9a35bec588f1457cf24177abaa69e77803178e03e2ac7a51c771b16d76c", func := "firkin/firkinlaw32.RetryOnce", spec := "retryOnce", unfollowed := true, recurses := true, apart := false }
def RetryOnceSaid : Prop := retryOnceRow.holds Try.pinned (OpenSpec.ofChange retryOnceSpec)

/-- ITS FALSE NEIGHBOUR: 'it returns false'. Refute it at one input. -/
def retryOnceWrong : ChangeSpec := { name := "retryOnce", fn := fun _ => fun
  | [d1, d2] => { results := [.lit (.bool false)], args := [d1, d2] }
  | _ => none }
def RetryOnceWrongFalsely : Prop := retryOnceRow.holds Try.pinned (OpenSpec.ofChange retryOnceWrong)

/- THE SECOND FORM. 'bulk': how many values and letters a reading holds, each counted each time it is reached (what is shared counts as often as it is met; a slice's spare places count too). A statement '..UptoSaid' is the law's where the arguments, and the package variables that the reading takes, are together of bulk at most 1048576: NARROWER than '..Said'. Prove '..Said' where nothing that the law and all that it calls make is longer than what came in: it says more and counts as full. Else prove '..UptoSaid'. A law counts once. -/
mutual
def uptoBulk {H : Type} : DataW H → Nat
  | .lit (.string bytes) => bytes.length + 1
  | .lit _ => 1
  | .nil => 1
  | .ptr d => uptoBulk d + 1
  | .slice elems spare => uptoBulkAll elems + uptoBulkAll spare + 1
  | .agg parts => uptoBulkAll parts + 1
  | .iface _ d => uptoBulk d + 1
  | .map entries => uptoBulkEntries entries + 1
  | .held _ => 1
def uptoBulkAll {H : Type} : List (DataW H) → Nat
  | [] => 0
  | d :: r => uptoBulk d + uptoBulkAll r
def uptoBulkEntries {H : Type} : List (Lit × DataW H) → Nat
  | [] => 0
  | x :: r => uptoBulkEntry x + uptoBulkEntries r
def uptoBulkEntry {H : Type} : Lit × DataW H → Nat
  | (.string bytes, d) => bytes.length + uptoBulk d + 1
  | (_, d) => uptoBulk d + 1
 end
def uptoSmall : (H : Type) → List (DataW H) → Bool := fun _ ds => decide (uptoBulkAll ds ≤ 1048576)
def OpenSpec.upto (s : _root_.Go.ChangeSpec) : _root_.Go.OpenSpec := { _root_.Go.OpenSpec.ofChange s with cond := some uptoSmall }

/-- 'firkinlaw32.RetryDoes', WHERE WHAT IT READS IS OF BULK AT MOST 1048576: true; the input reads as it did. -/
def retryDoesUptoRow : OpenClaim := { program := "ytfokbnbfaienjaa", sum := "cf71f9a35bec588f1457cf24177abaa69e77803178e03e2ac7a51c771b16d76c", func := "firkin/firkinlaw32.RetryDoes", spec := "retryDoes", unfollowed := true, recurses := true, apart := false, narrowed := true }
def RetryDoesUptoSaid : Prop := retryDoesUptoRow.holds Try.pinned (OpenSpec.upto retryDoesSpec)

/-- 'firkinlaw32.RetryBound', WHERE WHAT IT READS IS OF BULK AT MOST 1048576: true; the input reads as it did. -/
def retryBoundUptoRow : OpenClaim := { program := "ytfokbnbfaienjaa", sum := "cf71f9a35bec588f1457cf24177abaa69e77803178e03e2ac7a51c771b16d76c", func := "firkin/firkinlaw32.RetryBound", spec := "retryBound", unfollowed := true, recurses := true, apart := false, narrowed := true }
def RetryBoundUptoSaid : Prop := retryBoundUptoRow.holds Try.pinned (OpenSpec.upto retryBoundSpec)

/-- 'firkinlaw32.RetryOnce', WHERE WHAT IT READS IS OF BULK AT MOST 1048576: true; the input reads as it did. -/
def retryOnceUptoRow : OpenClaim := { program := "ytfokbnbfaienjaa", sum := "cf71f9a35bec588f1457cf24177abaa69e77803178e03e2ac7a51c771b16d76c", func := "firkin/firkinlaw32.RetryOnce", spec := "retryOnce", unfollowed := true, recurses := true, apart := false, narrowed := true }
def RetryOnceUptoSaid : Prop := retryOnceUptoRow.holds Try.pinned (OpenSpec.upto retryOnceSpec)

end Rows
end Go.Proofs.Ytfokbnbfaienjaa
