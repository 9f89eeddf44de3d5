/-
  PROVED: the contract of the clock's 'New'. Conditions: each theorem's own premises.
-/
import Derived.Test.YtfcifdddmcnjcaaRound
namespace Go.Proofs.Ytfcifdddmcnjcaa
open Go.RowKit
set_option linter.unusedVariables false

/-- How many slots a clock of n has. -/
def clamp (n : Int) : Nat := (min (max n 0) 64).toNat
theorem clamp_le (n : Int) : clamp n ≤ 64 := by unfold clamp; omega

theorem Slot.info : (Try.prog.info? 49).map (fun i => (i.zero, i.size, i.bytes)) = some (some (.agg #[.bool false, .bool false, .int .i64 0]), 3, 16) := by kernel_rfl

/-- New slots. -/
theorem make_slots (n : Nat) (hn : n ≤ 64) : ∃ c : Array Value, c.size = n * 3 ∧ (∀ j, j < n → c[j * 3]? = some (.bool false) ∧ c[j * 3 + 1]? = some (.bool false) ∧ c[j * 3 + 2]? = some (.int .i64 0)) ∧ ∀ w : World,
    (Instr.makeSlice 44 (.int .i64 (n : Int)) (.int .i64 (n : Int))).run Try.prog w = .ok (.slice (some ⟨w.heap.size, 0, none⟩) n n) (w.alloc (.cells c 49)) := by
  obtain ⟨i0, hi, hz0, hz1, hz2⟩ := info_parts Slot.info
  have hc : (Value.agg #[.bool false, .bool false, .int .i64 0]).cells = #[.bool false, .bool false, .int .i64 0] := by rfl
  refine ⟨madeCells (Value.agg #[.bool false, .bool false, .int .i64 0]).cells (n * i0.size), by rw [size_madeCells, hz1], fun j hj => ?_, fun w => ?_⟩
  · rw [hz1, hc]
    have a0 : j * 3 < n * 3 := by omega
    have a1 : j * 3 + 1 < n * 3 := by omega
    have a2 : j * 3 + 2 < n * 3 := by omega
    have m0 : j * 3 % 3 = 0 := by omega
    have m1 : (j * 3 + 1) % 3 = 1 := by omega
    have m2 : (j * 3 + 2) % 3 = 2 := by omega
    simp [madeCells, a0, a1, a2, m0, m1, m2]
  · have := run_make (P := Try.prog) w 44 49 i0 (.agg #[.bool false, .bool false, .int .i64 0]) Try.underlying44 hi hz0 .i64 .i64 (n : Int) (n : Int) (by omega) (by omega) (by rw [hz2]; omega) (by omega)
    simpa using this

def NewEnd (w0 : World) (n : Nat) (e : Ending) (w : World) : Prop :=
  e = .returned (.pointer (some ⟨w0.heap.size + 1, 0, none⟩)) ∧ ClockAt w w0.heap.size (w0.heap.size + 1) w0.heap.size n (fun _ => zeroSlot) 0 ∧ Below w0.heap.size w0 w ∧ w.heap.size = w0.heap.size + 2

theorem new_end (w : World) (n : Int) (c : Array Value) (h1 : c.size = clamp n * 3) (h2 : ∀ j, j < clamp n → c[j * 3]? = some (.bool false) ∧ c[j * 3 + 1]? = some (.bool false) ∧ c[j * 3 + 2]? = some (.int .i64 0)) :
    NewEnd w (clamp n) (.returned (.pointer (some ⟨w.heap.size + 1, 0, none⟩))) ((w.alloc (.cells c 49)).alloc (.cells #[.slice (some ⟨w.heap.size, 0, none⟩) (clamp n) (clamp n), .int .i64 0] 46)) := by
  refine ⟨rfl, ⟨?_, ⟨c, ?_, h1, h2⟩, by omega, by omega, Nat.le_refl _, clamp_le n, .inr rfl⟩, ((Below.refl _ _).alloc (Nat.le_refl _) _).alloc (by simp) _, by simp⟩
  · have := newest (w.alloc (.cells c 49)) (.cells #[.slice (some ⟨w.heap.size, 0, none⟩) (clamp n) (clamp n), .int .i64 0] 46)
    simpa using this
  · rw [Below.heap_alloc _ _ _ (by simp)]
    exact newest w _

set_option maxHeartbeats 1000000 in
theorem new_any (n : Int) (w : World) : Calls Try.prog 7 #[.int .i64 n] w (NewEnd w (clamp n)) := by
  have hcl := clamp_le n
  obtain ⟨c, hc1, hc2, hm⟩ := make_slots (clamp n) hcl
  have HC := Lib.hid hc1
  have HC2 := Lib.hid hc2
  have he : Hid ((clamp n : Int) = min (max n 0) 64) := Lib.hid (by unfold clamp; omega)
  clear hc1 hc2
  rw [he.out] at hm
  by_cases h0 : n < 0
  · have e : min (max n 0) 64 = 0 := by omega
    rw [e] at hm
    go_enter Try.func7, Try.ntmps7
    go_wp2
    go_ret
    exact new_end w n c HC.out HC2.out
  · by_cases h1 : n ≤ 64
    · have e : min (max n 0) 64 = n := by omega
      rw [e] at hm
      go_enter Try.func7, Try.ntmps7
      go_wp2
      go_ret
      exact new_end w n c HC.out HC2.out
    · have e : min (max n 0) 64 = 64 := by omega
      rw [e] at hm
      go_enter Try.func7, Try.ntmps7
      go_wp2
      go_ret
      exact new_end w n c HC.out HC2.out

end Go.Proofs.Ytfcifdddmcnjcaa
