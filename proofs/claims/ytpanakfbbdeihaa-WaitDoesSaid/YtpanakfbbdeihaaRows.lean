/-
  No cell of these rows narrows 'for every input' (looked for: loops, veiled, ifaces, maps, wideKeys, modest, calm, conditions, laid).
  DERIVED. THE GIVEN ROWS OF THIS SEAT. 3 by the template 'for every input the law returns true; each argument reads behind the call as it read before'; 0 by the template 'total and deterministic' (their statements: YtpanakfbbdeihaaTotals.lean).
  GIVEN WITH THE SEED: the statements are not yours to turn. If you find one false, say at which input.
  Laid BY PROGRAM, IN A SANDBOX (cutbox-rows.mjs): the forced cells as the released guide's own fill.sh prints them over the translation 5d659660b5481d82… (all of the seat's roots in one cut). By AI agents, Wed Nov 11 2026. No macro, syntax, notation, axiom, sorry.
-/
import Derived.Test.YtpanakfbbdeihaaChecked
import GoSem.Claim
import GoSem.ClaimJoined
import GoSem.ClaimMapViews
import Derived.JoinedTies
import Derived.KernelRfl
namespace Go.Proofs.Ytpanakfbbdeihaa
/- THE CELL 'sum', in the pinned program and in every row, IS THE sha256 OF THE DUMP (.gsa) THAT YtpanakfbbdeihaaProg.lean LOADS. Nothing in Lean hashes anything: it is a label: what it is worth is what the hold of that sum in a sandbox is worth. -/
noncomputable def Try.pinned : Pinned := { name := "ytpanakfbbdeihaa", sum := "5d659660b5481d823b418f0e96cdb4dc71c030c151b0f776bfa849ffd16e2dfc", checked := Try.checked }
namespace Rows
def none {H : Type} : Left H := { results := [], args := [] }

/-- 'firkinlaw30.WaitOnce': WHATEVER THE INPUT: true; the input reads as it did. -/
def waitOnceSpec : ChangeSpec := { name := "waitOnce", fn := fun _ => fun
  | [d] => { results := [.lit (.bool true)], args := [d] }
  | _ => none }
def waitOnceRow : OpenClaim := { program := "ytpanakfbbdeihaa", sum := "5d659660b5481d823b418f0e96cdb4dc71c030c151b0f776bfa849ffd16e2dfc", func := "firkin/firkinlaw30.WaitOnce", spec := "waitOnce", unfollowed := true, recurses := true, plainKeys := false, apart := false }
def WaitOnceSaid : Prop := waitOnceRow.holds Try.pinned (OpenSpec.ofChange waitOnceSpec)

/-- ITS FALSE NEIGHBOUR: 'it returns false'. Refute it at one input. -/
def waitOnceWrong : ChangeSpec := { name := "waitOnce", fn := fun _ => fun
  | [d] => { results := [.lit (.bool false)], args := [d] }
  | _ => none }
def WaitOnceWrongFalsely : Prop := waitOnceRow.holds Try.pinned (OpenSpec.ofChange waitOnceWrong)

/-- 'firkinlaw30.WaitDoes': WHATEVER THE INPUT: true; the input reads as it did. -/
def waitDoesSpec : ChangeSpec := { name := "waitDoes", fn := fun _ => fun
  | [d] => { results := [.lit (.bool true)], args := [d] }
  | _ => none }
def waitDoesRow : OpenClaim := { program := "ytpanakfbbdeihaa", sum := "5d659660b5481d823b418f0e96cdb4dc71c030c151b0f776bfa849ffd16e2dfc", func := "firkin/firkinlaw30.WaitDoes", spec := "waitDoes", unfollowed := true, recurses := true, plainKeys := false, apart := false }
def WaitDoesSaid : Prop := waitDoesRow.holds Try.pinned (OpenSpec.ofChange waitDoesSpec)

/-- ITS FALSE NEIGHBOUR: 'it returns false'. Refute it at one input. -/
def waitDoesWrong : ChangeSpec := { name := "waitDoes", fn := fun _ => fun
  | [d] => { results := [.lit (.bool false)], args := [d] }
  | _ => none }
def WaitDoesWrongFalsely : Prop := waitDoesRow.holds Try.pinned (OpenSpec.ofChange waitDoesWrong)

/-- 'firkinlaw30.WaitNil': WHATEVER THE INPUT: true; the input reads as it did. -/
def waitNilSpec : ChangeSpec := { name := "waitNil", fn := fun _ => fun
  | [d1, d2] => { results := [.lit (.bool true)], args := [d1, d2] }
  | _ => none }
def waitNilRow : OpenClaim := { program := "ytpanakfbbdeihaa", sum := "5d659660b5481d823b418f0e96cdb4dc71c030c151b0f776bfa849ffd16e2dfc", func := "firkin/firkinlaw30.WaitNil", spec := "waitNil", unfollowed := true, recurses := true, plainKeys := false, apart := false }
def WaitNilSaid : Prop := waitNilRow.holds Try.pinned (OpenSpec.ofChange waitNilSpec)

/-- ITS FALSE NEIGHBOUR: 'it returns false'. Refute it at one input. -/
def waitNilWrong : ChangeSpec := { name := "waitNil", fn := fun _ => fun
  | [d1, d2] => { results := [.lit (.bool false)], args := [d1, d2] }
  | _ => none }
def WaitNilWrongFalsely : Prop := waitNilRow.holds Try.pinned (OpenSpec.ofChange waitNilWrong)

/- THE SECOND FORM. 'bulk': how many values and letters a reading holds, each counted each time it is reached (what is shared counts as often as it is met; a slice's spare places count too). A statement '..UptoSaid' is the law's where the arguments, and the package variables that the reading takes, are together of bulk at most 1048576: NARROWER than '..Said'. Prove '..Said' where nothing that the law and all that it calls make is longer than what came in: it says more and counts as full. Else prove '..UptoSaid'. A law counts once. -/
mutual
def uptoBulk {H : Type} : DataW H → Nat
  | .lit (.string bytes) => bytes.length + 1
  | .lit _ => 1
  | .nil => 1
  | .ptr d => uptoBulk d + 1
  | .slice elems spare => uptoBulkAll elems + uptoBulkAll spare + 1
  | .agg parts => uptoBulkAll parts + 1
  | .iface _ d => uptoBulk d + 1
  | .map entries => uptoBulkEntries entries + 1
  | .held _ => 1
def uptoBulkAll {H : Type} : List (DataW H) → Nat
  | [] => 0
  | d :: r => uptoBulk d + uptoBulkAll r
def uptoBulkEntries {H : Type} : List (Lit × DataW H) → Nat
  | [] => 0
  | x :: r => uptoBulkEntry x + uptoBulkEntries r
def uptoBulkEntry {H : Type} : Lit × DataW H → Nat
  | (.string bytes, d) => bytes.length + uptoBulk d + 1
  | (_, d) => uptoBulk d + 1
 end
def uptoSmall : (H : Type) → List (DataW H) → Bool := fun _ ds => decide (uptoBulkAll ds ≤ 1048576)
def OpenSpec.upto (s : _root_.Go.ChangeSpec) : _root_.Go.OpenSpec := { _root_.Go.OpenSpec.ofChange s with cond := some uptoSmall }

/-- 'firkinlaw30.WaitOnce', WHERE WHAT IT READS IS OF BULK AT MOST 1048576: true; the input reads as it did. -/
def waitOnceUptoRow : OpenClaim := { program := "ytpanakfbbdeihaa", sum := "5d659660b5481d823b418f0e96cdb4dc71c030c151b0f776bfa849ffd16e2dfc", func := "firkin/firkinlaw30.WaitOnce", spec := "waitOnce", unfollowed := true, recurses := true, plainKeys := false, apart := false, narrowed := true }
def WaitOnceUptoSaid : Prop := waitOnceUptoRow.holds Try.pinned (OpenSpec.upto waitOnceSpec)

/-- 'firkinlaw30.WaitDoes', WHERE WHAT IT READS IS OF BULK AT MOST 1048576: true; the input reads as it did. -/
def waitDoesUptoRow : OpenClaim := { program := "ytpanakfbbdeihaa", sum := "5d659660b5481d823b418f0e96cdb4dc71c030c151b0f776bfa849ffd16e2dfc", func := "firkin/firkinlaw30.WaitDoes", spec := "waitDoes", unfollowed := true, recurses := true, plainKeys := false, apart := false, narrowed := true }
def WaitDoesUptoSaid : Prop := waitDoesUptoRow.holds Try.pinned (OpenSpec.upto waitDoesSpec)

/-- 'firkinlaw30.WaitNil', WHERE WHAT IT READS IS OF BULK AT MOST 1048576: true; the input reads as it did. -/
def waitNilUptoRow : OpenClaim := { program := "ytpanakfbbdeihaa", sum := "5d659660b5481d823b418f0e96cdb4dc71c030c151b0f776bfa849ffd16e2dfc", func := "firkin/firkinlaw30.WaitNil", spec := "waitNil", unfollowed := true, recurses := true, plainKeys := false, apart := false, narrowed := true }
def WaitNilUptoSaid : Prop := waitNilUptoRow.holds Try.pinned (OpenSpec.upto waitNilSpec)

end Rows
end Go.Proofs.Ytpanakfbbdeihaa
