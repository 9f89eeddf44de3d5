/-
  No cell of these rows narrows 'for every input' (looked for: loops, veiled, ifaces, maps, wideKeys, modest, calm, conditions, laid).
  DERIVED. THE GIVEN ROWS OF THIS SEAT. 3 by the template 'for every input the law returns true; each argument reads behind the call as it read before'; 0 by the template 'total and deterministic' (their statements: YtkdebjampnfgjaaTotals.lean).
  GIVEN WITH THE SEED: the statements are not yours to turn. If you find one false, say at which input.
  Laid BY PROGRAM, IN A SANDBOX (cutbox-rows.mjs): the forced cells as the released guide's own fill.sh prints them over the translation 35a9e2f2576bc2c0… (all of the seat's roots in one cut). By AI agents, Wed Nov 11 2026. No macro, syntax, notation, axiom, sorry.
-/
import Derived.Test.YtkdebjampnfgjaaChecked
import GoSem.Claim
import GoSem.ClaimJoined
import GoSem.ClaimMapViews
import Derived.JoinedTies
import Derived.KernelRfl
namespace Go.Proofs.Ytkdebjampnfgjaa
/- THE CELL 'sum', in the pinned program and in every row, IS THE sha256 OF THE DUMP (.gsa) THAT YtkdebjampnfgjaaProg.lean LOADS. Nothing in Lean hashes anything: it is a label: what it is worth is what the hold of that sum in a sandbox is worth. -/
noncomputable def Try.pinned : Pinned := { name := "ytkdebjampnfgjaa", sum := "35a9e2f2576bc2c0943b06198f25a6a60f7c365037b178485c8061b098f73eaa", checked := Try.checked }
namespace Rows
def none {H : Type} : Left H := { results := [], args := [] }

/-- 'firkinlaw15.GlobMatches': WHATEVER THE INPUT: true; the input reads as it did. -/
def globMatchesSpec : ChangeSpec := { name := "globMatches", fn := fun _ => fun
  | [d1, d2] => { results := [.lit (.bool true)], args := [d1, d2] }
  | _ => none }
def globMatchesRow : OpenClaim := { program := "ytkdebjampnfgjaa", sum := "35a9e2f2576bc2c0943b06198f25a6a60f7c365037b178485c8061b098f73eaa", func := "firkin/firkinlaw15.GlobMatches", spec := "globMatches", apart := false }
def GlobMatchesSaid : Prop := globMatchesRow.holds Try.pinned (OpenSpec.ofChange globMatchesSpec)

/-- ITS FALSE NEIGHBOUR: 'it returns false'. Refute it at one input. -/
def globMatchesWrong : ChangeSpec := { name := "globMatches", fn := fun _ => fun
  | [d1, d2] => { results := [.lit (.bool false)], args := [d1, d2] }
  | _ => none }
def GlobMatchesWrongFalsely : Prop := globMatchesRow.holds Try.pinned (OpenSpec.ofChange globMatchesWrong)

/-- 'firkinlaw15.GlobJoins': WHATEVER THE INPUT: true; the input reads as it did. -/
def globJoinsSpec : ChangeSpec := { name := "globJoins", fn := fun _ => fun
  | [d1, d2] => { results := [.lit (.bool true)], args := [d1, d2] }
  | _ => none }
def globJoinsRow : OpenClaim := { program := "ytkdebjampnfgjaa", sum := "35a9e2f2576bc2c0943b06198f25a6a60f7c365037b178485c8061b098f73eaa", func := "firkin/firkinlaw15.GlobJoins", spec := "globJoins", apart := false }
def GlobJoinsSaid : Prop := globJoinsRow.holds Try.pinned (OpenSpec.ofChange globJoinsSpec)

/-- ITS FALSE NEIGHBOUR: 'it returns false'. Refute it at one input. -/
def globJoinsWrong : ChangeSpec := { name := "globJoins", fn := fun _ => fun
  | [d1, d2] => { results := [.lit (.bool false)], args := [d1, d2] }
  | _ => none }
def GlobJoinsWrongFalsely : Prop := globJoinsRow.holds Try.pinned (OpenSpec.ofChange globJoinsWrong)

/-- 'firkinlaw15.GlobPrefix': WHATEVER THE INPUT: true; the input reads as it did. -/
def globPrefixSpec : ChangeSpec := { name := "globPrefix", fn := fun _ => fun
  | [d1, d2] => { results := [.lit (.bool true)], args := [d1, d2] }
  | _ => none }
def globPrefixRow : OpenClaim := { program := "ytkdebjampnfgjaa", sum := "35a9e2f2576bc2c0943b06198f25a6a60f7c365037b178485c8061b098f73eaa", func := "firkin/firkinlaw15.GlobPrefix", spec := "globPrefix", inPlace := ["internal/abi.NoEscape"], apart := false }
def GlobPrefixSaid : Prop := globPrefixRow.holds Try.pinned (OpenSpec.ofChange globPrefixSpec)

/-- ITS FALSE NEIGHBOUR: 'it returns false'. Refute it at one input. -/
def globPrefixWrong : ChangeSpec := { name := "globPrefix", fn := fun _ => fun
  | [d1, d2] => { results := [.lit (.bool false)], args := [d1, d2] }
  | _ => none }
def GlobPrefixWrongFalsely : Prop := globPrefixRow.holds Try.pinned (OpenSpec.ofChange globPrefixWrong)

/- THE SECOND FORM. 'bulk': how many values and letters a reading holds, each counted each time it is reached (what is shared counts as often as it is met; a slice's spare places count too). A statement '..UptoSaid' is the law's where the arguments, and the package variables that the reading takes, are together of bulk at most 1048576: NARROWER than '..Said'. Prove '..Said' where nothing that the law and all that it calls make is longer than what came in: it says more and counts as full. Else prove '..UptoSaid'. A law counts once. -/
mutual
def uptoBulk {H : Type} : DataW H → Nat
  | .lit (.string bytes) => bytes.length + 1
  | .lit _ => 1
  | .nil => 1
  | .ptr d => uptoBulk d + 1
  | .slice elems spare => uptoBulkAll elems + uptoBulkAll spare + 1
  | .agg parts => uptoBulkAll parts + 1
  | .iface _ d => uptoBulk d + 1
  | .map entries => uptoBulkEntries entries + 1
  | .held _ => 1
def uptoBulkAll {H : Type} : List (DataW H) → Nat
  | [] => 0
  | d :: r => uptoBulk d + uptoBulkAll r
def uptoBulkEntries {H : Type} : List (Lit × DataW H) → Nat
  | [] => 0
  | x :: r => uptoBulkEntry x + uptoBulkEntries r
def uptoBulkEntry {H : Type} : Lit × DataW H → Nat
  | (.string bytes, d) => bytes.length + uptoBulk d + 1
  | (_, d) => uptoBulk d + 1
 end
def uptoSmall : (H : Type) → List (DataW H) → Bool := fun _ ds => decide (uptoBulkAll ds ≤ 1048576)
def OpenSpec.upto (s : _root_.Go.ChangeSpec) : _root_.Go.OpenSpec := { _root_.Go.OpenSpec.ofChange s with cond := some uptoSmall }

/-- 'firkinlaw15.GlobMatches', WHERE WHAT IT READS IS OF BULK AT MOST 1048576: true; the input reads as it did. -/
def globMatchesUptoRow : OpenClaim := { program := "ytkdebjampnfgjaa", sum := "35a9e2f2576bc2c0943b06198f25a6a60f7c365037b178485c8061b098f73eaa", func := "firkin/firkinlaw15.GlobMatches", spec := "globMatches", apart := false, narrowed := true }
def GlobMatchesUptoSaid : Prop := globMatchesUptoRow.holds Try.pinned (OpenSpec.upto globMatchesSpec)

/-- 'firkinlaw15.GlobJoins', WHERE WHAT IT READS IS OF BULK AT MOST 1048576: true; the input reads as it did. -/
def globJoinsUptoRow : OpenClaim := { program := "ytkdebjampnfgjaa", sum := "35a9e2f2576bc2c0943b06198f25a6a60f7c365037b178485c8061b098f73eaa", func := "firkin/firkinlaw15.GlobJoins", spec := "globJoins", apart := false, narrowed := true }
def GlobJoinsUptoSaid : Prop := globJoinsUptoRow.holds Try.pinned (OpenSpec.upto globJoinsSpec)

/-- 'firkinlaw15.GlobPrefix', WHERE WHAT IT READS IS OF BULK AT MOST 1048576: true; the input reads as it did. -/
def globPrefixUptoRow : OpenClaim := { program := "ytkdebjampnfgjaa", sum := "35a9e2f2576bc2c0943b06198f25a6a60f7c365037b178485c8061b098f73eaa", func := "firkin/firkinlaw15.GlobPrefix", spec := "globPrefix", inPlace := ["internal/abi.NoEscape"], apart := false, narrowed := true }
def GlobPrefixUptoSaid : Prop := globPrefixUptoRow.holds Try.pinned (OpenSpec.upto globPrefixSpec)

end Rows
end Go.Proofs.Ytkdebjampnfgjaa
