/-
  PROVED: contracts of the clock's acts at nil; of 'live', 'do'. Conditions: each theorem's own premises.
-/
import Derived.Test.YtfcifdddmcnjcaaRTake
namespace Go.Proofs.Ytfcifdddmcnjcaa
open Go.RowKit
set_option linter.unusedVariables false

def NilEnd (w : World) (e : Ending) (w' : World) : Prop := e = .returned (.tuple #[]) ∧ w = w'
theorem set_nil (i : Int) (w : World) : Calls Try.prog 10 #[.pointer none, .int .i64 i] w (NilEnd w) := by
  have A0 := Lib.hid (at_nil i w)
  go_enter Try.func10, Try.ntmps10
  go_wp2_with fail
  refine A0.out.mono ?_
  rintro e w' ⟨rfl, rfl⟩
  go_wp2
  go_end0
  exact ⟨rfl, rfl⟩
theorem use_nil (i : Int) (w : World) : Calls Try.prog 9 #[.pointer none, .int .i64 i] w (NilEnd w) := by
  have A0 := Lib.hid (taken_nil i w)
  go_enter Try.func9, Try.ntmps9
  go_wp2_with fail
  refine A0.out.mono ?_
  rintro e w' ⟨rfl, rfl⟩
  go_wp2
  go_end0
  exact ⟨rfl, rfl⟩
theorem pin_nil (i : Int) (w : World) : Calls Try.prog 11 #[.pointer none, .int .i64 i] w (NilEnd w) := by
  have A0 := Lib.hid (taken_nil i w)
  go_enter Try.func11, Try.ntmps11
  go_wp2_with fail
  refine A0.out.mono ?_
  rintro e w' ⟨rfl, rfl⟩
  go_wp2
  go_end0
  exact ⟨rfl, rfl⟩
theorem unpin_nil (i : Int) (w : World) : Calls Try.prog 19 #[.pointer none, .int .i64 i] w (NilEnd w) := by
  have A0 := Lib.hid (taken_nil i w)
  go_enter Try.func19, Try.ntmps19
  go_wp2_with fail
  refine A0.out.mono ?_
  rintro e w' ⟨rfl, rfl⟩
  go_wp2
  go_end0
  exact ⟨rfl, rfl⟩
theorem free_nil (i : Int) (w : World) : Calls Try.prog 20 #[.pointer none, .int .i64 i] w (NilEnd w) := by
  have A0 := Lib.hid (at_nil i w)
  go_enter Try.func20, Try.ntmps20
  go_wp2_with fail
  refine A0.out.mono ?_
  rintro e w' ⟨rfl, rfl⟩
  go_wp2
  go_end0
  exact ⟨rfl, rfl⟩
theorem many_nil (w : World) : Calls Try.prog 15 #[.pointer none] w fun e w' => e = .returned (.int .i64 0) ∧ w = w' := by
  have A0 := Lib.hid (at_nil 0 w)
  go_enter Try.func15, Try.ntmps15
  go_wp2_with fail
  go_loopw [3, 4] (fun v3 v4 wr => v3 = .int .i64 0 ∧ v4 = .int .i64 0 ∧ wr = w) (fun _ _ _ => 0)
  case atStart => exact ⟨rfl, rfl, rfl⟩
  case round =>
    obtain ⟨rfl, rfl, rfl⟩ := hrel
    go_wp2_with fail
    refine A0.out.mono ?_
    rintro e w' ⟨rfl, rfl⟩
    go_wp2
    go_ret
    all_goals exact ⟨rfl, rfl⟩

def live0 : Nat → Slot := fun _ => zeroSlot
def live1 := takeR 2 live0 0
def live2 := takeR 2 live1.2.2.1 live1.2.2.2
def live3 := takeR 2 live2.2.2.1 live2.2.2.2
theorem live_facts : live1.1 = 0 ∧ live1.2.1 = true ∧ live2.1 = 1 ∧ live2.2.1 = true ∧ live3.1 = 0 ∧ live3.2.1 = true ∧ count live3.2.2.1 2 = 2 := ⟨rfl, rfl, rfl, rfl, rfl, rfl, rfl⟩
theorem live_pins : (∀ j, j < 2 → 0 ≤ (live0 j).p) ∧ (∀ j, j < 2 → 0 ≤ (live1.2.2.1 j).p) ∧ (∀ j, j < 2 → 0 ≤ (live2.2.2.1 j).p) := by
  refine ⟨fun j hj => ?_, fun j hj => ?_, fun j hj => ?_⟩ <;> (obtain rfl | rfl : j = 0 ∨ j = 1 := by omega) <;> decide

set_option maxHeartbeats 1000000 in
theorem live_any (w : World) : Calls Try.prog 6 #[] w fun e w' => e = .returned (.bool true) ∧ Below w.heap.size w w' := by
  have N := Lib.hid (new_any 2 w)
  have L := Lib.hid live_facts
  have LP := Lib.hid live_pins
  go_enter Try.func6, Try.ntmps6
  go_wp2_with fail
  refine N.out.mono ?_
  rintro e w1 ⟨rfl, k, hb, hs⟩
  have K := Lib.hid k
  have HB := Lib.hid hb
  clear k hb hs
  have T1 := Lib.hid (take_any (n := 2) K.out LP.out.1)
  go_wp2_with fail
  refine T1.out.mono ?_
  rintro e w2 ⟨rfl, k, o⟩
  have K2 := Lib.hid k
  have O2 := Lib.hid o
  clear k o
  have T2 := Lib.hid (take_any (n := 2) K2.out LP.out.2.1)
  go_wp2_with fail
  refine T2.out.mono ?_
  rintro e w3 ⟨rfl, k, o⟩
  have K3 := Lib.hid k
  have O3 := Lib.hid o
  clear k o
  have T3 := Lib.hid (take_any (n := 2) K3.out LP.out.2.2)
  go_wp2_with fail
  refine T3.out.mono ?_
  rintro e w4 ⟨rfl, k, o⟩
  have K4 := Lib.hid k
  have O4 := Lib.hid o
  clear k o
  have M := Lib.hid (many_any (n := 2) K4.out)
  obtain ⟨l1, l2, l3, l4, l5, l6, l7⟩ := L.out
  go_wp2_with fail
  have M2 : Hid (Calls Try.prog 15 #[.pointer (some ⟨w.heap.size + 1, 0, none⟩)] w4 fun e w' => e = .returned (.int .i64 2) ∧ w4 = w') := Lib.hid (M.out.mono (fun e w' h => ⟨by rw [h.1]; exact congrArg (fun x : Nat => Ending.returned (.int .i64 x)) l7, h.2⟩))
  refine M2.out.mono ?_
  rintro e w5 ⟨rfl, rfl⟩
  have BB := Lib.hid (HB.out.trans ((Only.trans (Only.trans O2.out O3.out (fun x hx => .inl hx)) O4.out (fun x hx => .inl hx)).below (B := w.heap.size) (by simp) HB.out.size))
  go_wp2
  go_ret
  exact ⟨rfl, BB.out⟩

end Go.Proofs.Ytfcifdddmcnjcaa
