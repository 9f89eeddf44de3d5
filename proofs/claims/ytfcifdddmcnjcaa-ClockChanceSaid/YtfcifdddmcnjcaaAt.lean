/-
  PROVED: contracts of the clock's 'at', 'Taken', 'Hand'. Conditions: each theorem's own premises.
-/
import Derived.Test.YtfcifdddmcnjcaaSlots
namespace Go.Proofs.Ytfcifdddmcnjcaa
open Go.RowKit
set_option linter.unusedVariables false

theorem ClockAt.cells {w : World} {B C A n : Nat} {f : Nat → Slot} {h : Nat} (k : ClockAt w B C A n f h) :
    w.cell? ⟨C, 0, none⟩ = some (.slice (some ⟨A, 0, none⟩) n n) ∧ w.cell? ⟨C, 1, none⟩ = some (.int .i64 h) := by
  have := k.c
  simp [World.cell?, this]

theorem at_in {w : World} {B C A n : Nat} {f : Nat → Slot} {h : Nat} (k : ClockAt w B C A n f h) (i : Nat) (hi : i < n) :
    Calls Try.prog 26 #[.pointer (some ⟨C, 0, none⟩), .int .i64 i] w fun e w' => e = .returned (.pointer (some ⟨A, i * 3, none⟩)) ∧ w = w' := by
  obtain ⟨x0, x1⟩ := k.cells
  have hle := k.le
  have hi' : (i : Int) < n := by omega
  have hi0 : ¬ (i : Int) < 0 := by omega
  have hi2 : ¬ (n : Int) ≤ i := by omega
  go_enter Try.func26, Try.ntmps26
  go_wp2
  go_ret
  all_goals exact ⟨rfl, rfl⟩

theorem at_out {w : World} {B C A n : Nat} {f : Nat → Slot} {h : Nat} (k : ClockAt w B C A n f h) (i : Int) (hi : i < 0 ∨ (n : Int) ≤ i) :
    Calls Try.prog 26 #[.pointer (some ⟨C, 0, none⟩), .int .i64 i] w fun e w' => e = .returned (.pointer none) ∧ w = w' := by
  obtain ⟨x0, x1⟩ := k.cells
  have hle := k.le
  by_cases h0 : i < 0
  · go_enter Try.func26, Try.ntmps26
    go_wp2
    go_ret
    all_goals exact ⟨rfl, rfl⟩
  · have h1 : (n : Int) ≤ i := by omega
    go_enter Try.func26, Try.ntmps26
    go_wp2
    go_ret
    all_goals exact ⟨rfl, rfl⟩

theorem at_nil (i : Int) (w : World) : Calls Try.prog 26 #[.pointer none, .int .i64 i] w fun e w' => e = .returned (.pointer none) ∧ w = w' := by
  go_enter Try.func26, Try.ntmps26
  go_wp2
  go_ret
  all_goals exact ⟨rfl, rfl⟩

end Go.Proofs.Ytfcifdddmcnjcaa
