/-
  PROVED: the contract of the statements' 'live'; 'Match' at what it answers. Conditions: each theorem's own premises.
-/
import Derived.Test.YtkdebjampnfgjaaJoin
namespace Go.Proofs.Ytkdebjampnfgjaa
open Go.RowKit
set_option linter.unusedVariables false

theorem match_b {p s : ByteArray} {b : Bool} (hp : p.size ≤ 300) (hs : s.size ≤ 300) (h : globB (folded p) (folded s) = b) (w : World) :
    Calls Try.prog 7 #[.string p, .string s] w fun e w' => e = .returned (.bool b) ∧ Below w.heap.size w w' :=
  (match_any p s hp hs w).mono fun e w' he => ⟨by rw [← h]; exact he.1, he.2⟩

theorem live_any (w : World) : Calls Try.prog 6 #[] w fun e w' => e = .returned (.bool true) ∧ Below w.heap.size w w' := by
  have A := Lib.hid (fun w => match_b (p := ⟨#[97, 37, 95]⟩) (s := ⟨#[195, 164, 98]⟩) (b := false) (by decide) (by decide) (by decide +kernel) w)
  have B := Lib.hid (fun w => match_b (p := ⟨#[97, 37, 95]⟩) (s := ⟨#[65, 120, 121]⟩) (b := true) (by decide) (by decide) (by decide +kernel) w)
  go_enter Try.func6, Try.ntmps6
  go_wp2_with fail
  refine (A.out _).mono ?_
  rintro e w1 ⟨rfl, b1⟩
  have B1 := Lib.hid b1
  clear b1
  go_wp2_with fail
  refine (B.out _).mono ?_
  rintro e w2 ⟨rfl, b2⟩
  have B2 := Lib.hid (B1.out.trans (b2.mono B1.out.size))
  clear b2
  go_wp2
  go_ret
  exact ⟨rfl, B2.out⟩

end Go.Proofs.Ytkdebjampnfgjaa
