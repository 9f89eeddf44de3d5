/-
  PROVED: contracts of the clock's 'Many' and 'New'. Conditions: each theorem's own premises.
-/
import Derived.Test.YtfcifdddmcnjcaaFree
namespace Go.Proofs.Ytfcifdddmcnjcaa
open Go.RowKit
set_option linter.unusedVariables false

/-- How many of the first j are taken. -/
def count (f : Nat → Slot) : Nat → Nat
  | 0 => 0
  | j + 1 => count f j + (if (f j).t then 1 else 0)
theorem count_le (f : Nat → Slot) (j : Nat) : count f j ≤ j := by
  induction j with
  | zero => exact Nat.le_refl _
  | succ j ih => rw [count]; split <;> omega

def ManyLoop (W : World) (n : Nat) (f : Nat → Slot) (v3 v4 : Value) (w : World) : Prop := ∃ j : Nat, v4 = .int .i64 j ∧ j ≤ n ∧ v3 = .int .i64 (count f j) ∧ w = W

set_option maxHeartbeats 2000000 in
theorem many_any {w : World} {B C A n : Nat} {f : Nat → Slot} {h : Nat} (k : ClockAt w B C A n f h) :
    Calls Try.prog 15 #[.pointer (some ⟨C, 0, none⟩)] w fun e w' => e = .returned (.int .i64 (count f n)) ∧ w = w' := by
  have K := Lib.hid k
  have hle := k.le
  clear k
  go_enter Try.func15, Try.ntmps15
  go_wp2_with fail
  go_loopw [3, 4] (fun v3 v4 wr => ManyLoop w n f v3 v4 wr) (fun _ v4 _ => n - (intOf v4).toNat)
  case atStart => exact ⟨0, rfl, Nat.zero_le _, rfl, rfl⟩
  case round =>
    obtain ⟨j, rfl, hj, rfl, rfl⟩ := hrel
    have hcl := count_le f j
    by_cases hlt : j < n
    · have A0 := Lib.hid (at_in K.out j hlt)
      have T0 := Lib.hid (taken_any K.out (j : Int))
      have hv : has n f (j : Int) = (f j).t := by simp [has, within_in hlt]
      have hc : Hid (count f (j + 1) = count f j + (if (f j).t then 1 else 0)) := Lib.hid rfl
      rw [hv] at T0
      clear hv
      go_wp2_with fail
      refine A0.out.mono ?_
      rintro e w' ⟨rfl, rfl⟩
      go_wp2_with fail
      refine T0.out.mono ?_
      rintro e w' ⟨rfl, rfl⟩
      cases ht : (f j).t with
      | true =>
        go_wp2
        go_roundw
        case rel => exact ⟨j + 1, by go_num, by omega, by rw [hc.out, ht]; go_num, rfl⟩
        case measure => simp [intOf]; omega
      | false =>
        go_wp2
        go_roundw
        case rel => exact ⟨j + 1, by go_num, by omega, by rw [hc.out, ht]; simp, rfl⟩
        case measure => simp [intOf]; omega
    · obtain rfl : j = n := by omega
      have A0 := Lib.hid (at_out K.out (j : Int) (by omega))
      go_wp2_with fail
      refine A0.out.mono ?_
      rintro e w' ⟨rfl, rfl⟩
      go_wp2
      go_ret
      all_goals exact ⟨rfl, rfl⟩

end Go.Proofs.Ytfcifdddmcnjcaa
