/-
  PROVED: contracts of the clock's 'Taken', 'Hand', 'Set', 'Use', 'Pin', 'Unpin', 'Free'. Conditions: each theorem's own premises.
-/
import Derived.Test.YtfcifdddmcnjcaaAt
namespace Go.Proofs.Ytfcifdddmcnjcaa
open Go.RowKit
set_option linter.unusedVariables false

/-- Is there such a slot? -/
def within (n : Nat) (i : Int) : Bool := decide (0 ≤ i) && decide (i < n)
/-- Is it taken? -/
def has (n : Nat) (f : Nat → Slot) (i : Int) : Bool := within n i && (f i.toNat).t

theorem within_in {n i : Nat} (h : i < n) : within n i = true := by simp [within]; omega
theorem within_out {n : Nat} {i : Int} (h : i < 0 ∨ (n : Int) ≤ i) : within n i = false := by
  simp only [within, Bool.and_eq_false_iff, decide_eq_false_iff_not]
  omega
theorem in_or_out (n : Nat) (i : Int) : (∃ k : Nat, k < n ∧ i = k) ∨ (i < 0 ∨ (n : Int) ≤ i) := by
  by_cases h : 0 ≤ i ∧ i < n
  · exact .inl ⟨i.toNat, by omega, by omega⟩
  · exact .inr (by omega)

theorem taken_any {w : World} {B C A n : Nat} {f : Nat → Slot} {h : Nat} (k : ClockAt w B C A n f h) (i : Int) :
    Calls Try.prog 14 #[.pointer (some ⟨C, 0, none⟩), .int .i64 i] w fun e w' => e = .returned (.bool (has n f i)) ∧ w = w' := by
  rcases in_or_out n i with ⟨j, hj, rfl⟩ | ho
  · have A0 := Lib.hid (at_in k j hj)
    obtain ⟨x0, _, _⟩ := k.slots.cell j hj
    have hv : has n f (j : Int) = (f j).t := by simp [has, within_in hj]
    rw [hv]
    clear k
    generalize (f j).t = b at *
    go_enter Try.func14, Try.ntmps14
    go_wp2_with fail
    refine A0.out.mono ?_
    rintro e w' ⟨rfl, rfl⟩
    go_wp2
    go_ret
    all_goals exact ⟨rfl, rfl⟩
  · have A0 := Lib.hid (at_out k i ho)
    have hv : has n f i = false := by simp [has, within_out ho]
    rw [hv]
    clear k
    go_enter Try.func14, Try.ntmps14
    go_wp2_with fail
    refine A0.out.mono ?_
    rintro e w' ⟨rfl, rfl⟩
    go_wp2
    go_ret
    all_goals exact ⟨rfl, rfl⟩

theorem taken_nil (i : Int) (w : World) : Calls Try.prog 14 #[.pointer none, .int .i64 i] w fun e w' => e = .returned (.bool false) ∧ w = w' := by
  go_enter Try.func14, Try.ntmps14
  go_wp2_with fail
  refine (at_nil i w).mono ?_
  rintro e w' ⟨rfl, rfl⟩
  go_wp2
  go_ret
  all_goals exact ⟨rfl, rfl⟩

theorem hand_any {w : World} {B C A n : Nat} {f : Nat → Slot} {h : Nat} (k : ClockAt w B C A n f h) :
    Calls Try.prog 17 #[.pointer (some ⟨C, 0, none⟩)] w fun e w' => e = .returned (.int .i64 h) ∧ w = w' := by
  obtain ⟨x0, x1⟩ := k.cells
  go_enter Try.func17, Try.ntmps17
  go_wp2
  go_ret
  all_goals exact ⟨rfl, rfl⟩
theorem hand_nil (w : World) : Calls Try.prog 17 #[.pointer none] w fun e w' => e = .returned (.int .i64 0) ∧ w = w' := by
  go_enter Try.func17, Try.ntmps17
  go_wp2
  go_ret
  all_goals exact ⟨rfl, rfl⟩

end Go.Proofs.Ytfcifdddmcnjcaa
