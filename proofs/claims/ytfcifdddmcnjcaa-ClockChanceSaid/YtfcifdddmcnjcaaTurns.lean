/-
  PROVED: contracts of the clock's 'Set', 'Use', 'Pin'. Conditions: each theorem's own premises.
-/
import Derived.Test.YtfcifdddmcnjcaaActs
namespace Go.Proofs.Ytfcifdddmcnjcaa
open Go.RowKit
set_option linter.unusedVariables false

theorem put_put (f : Nat → Slot) (i : Nat) (x y : Slot) : put (put f i x) i y = put f i y := by
  funext j
  unfold put
  by_cases e : j = i <;> simp [e]
theorem put_at (f : Nat → Slot) (i : Nat) (x : Slot) : put f i x i = x := by simp [put]

/-- Behind an act that turns slots alone. -/
def TurnEnd (w : World) (B C A n : Nat) (f : Nat → Slot) (h : Nat) (e : Ending) (w' : World) : Prop :=
  e = .returned (.tuple #[]) ∧ ClockAt w' B C A n f h ∧ Only [A] w w'

theorem ClockAt.turn {w w' : World} {B C A n : Nat} {f f' : Nat → Slot} {h : Nat} (k : ClockAt w B C A n f h) (hs : SlotsF w' A f' n) (ho : Only [A] w w') : ClockAt w' B C A n f' h :=
  ⟨(ho.block C (lt_of_block' k.c) (by simp; exact Ne.symm k.ne)).trans k.c, hs, k.ne, k.bc, k.ba, k.le, k.hand⟩

def setS (n : Nat) (f : Nat → Slot) (i : Int) : Nat → Slot := if within n i then put f i.toNat ⟨true, true, (f i.toNat).p⟩ else f
def useS (n : Nat) (f : Nat → Slot) (i : Int) : Nat → Slot := if has n f i then put f i.toNat ⟨(f i.toNat).t, true, (f i.toNat).p⟩ else f
def pinS (n : Nat) (f : Nat → Slot) (i : Int) : Nat → Slot := if has n f i then put f i.toNat ⟨(f i.toNat).t, (f i.toNat).u, (f i.toNat).p + 1⟩ else f

set_option maxHeartbeats 1000000 in
theorem set_any {w : World} {B C A n : Nat} {f : Nat → Slot} {h : Nat} (k : ClockAt w B C A n f h) (i : Int) :
    Calls Try.prog 10 #[.pointer (some ⟨C, 0, none⟩), .int .i64 i] w (TurnEnd w B C A n (setS n f i) h) := by
  rcases in_or_out n i with ⟨j, hj, rfl⟩ | ho
  · have A0 := Lib.hid (at_in k j hj)
    obtain ⟨x0, x1, _⟩ := k.slots.cell j hj
    have f0 := k.slots.frozen (j * 3)
    have f1 := k.slots.frozen (j * 3 + 1)
    have K := Lib.hid k
    have E : Hid (setS n f (j : Int) = put f j ⟨true, true, (f j).p⟩) := Lib.hid (by simp [setS, within_in hj])
    clear k
    go_enter Try.func10, Try.ntmps10
    go_wp2_with fail
    refine A0.out.mono ?_
    rintro e w' ⟨rfl, rfl⟩
    go_wp2
    go_end0
    have s1 := K.out.slots.setT j hj true
    have s2 := s1.setU j hj true
    rw [put_put, put_at] at s2
    have o : Only [A] w ((w.setCell ⟨A, j * 3, none⟩ (.bool true)).setCell ⟨A, j * 3 + 1, none⟩ (.bool true)) := ((Only.refl [A] w).setCell (p := ⟨A, j * 3, none⟩) (.inl (by simp)) _).setCell (p := ⟨A, j * 3 + 1, none⟩) (.inl (by simp)) _
    exact ⟨rfl, by rw [E.out]; exact K.out.turn s2 o, o⟩
  · have A0 := Lib.hid (at_out k i ho)
    have K := Lib.hid k
    have E : Hid (setS n f i = f) := Lib.hid (by simp [setS, within_out ho])
    clear k
    go_enter Try.func10, Try.ntmps10
    go_wp2_with fail
    refine A0.out.mono ?_
    rintro e w' ⟨rfl, rfl⟩
    go_wp2
    go_end0
    exact ⟨rfl, by rw [E.out]; exact K.out, Only.refl _ _⟩

theorem has_in {n : Nat} {f : Nat → Slot} {i : Int} (h : has n f i = true) : ∃ j : Nat, j < n ∧ i = j ∧ (f j).t = true := by
  rcases in_or_out n i with ⟨j, hj, rfl⟩ | ho
  · simp [has, within_in hj] at h
    exact ⟨j, hj, rfl, h⟩
  · simp [has, within_out ho] at h

set_option maxHeartbeats 2000000 in
theorem use_any {w : World} {B C A n : Nat} {f : Nat → Slot} {h : Nat} (k : ClockAt w B C A n f h) (i : Int) :
    Calls Try.prog 9 #[.pointer (some ⟨C, 0, none⟩), .int .i64 i] w (TurnEnd w B C A n (useS n f i) h) := by
  have T := Lib.hid (taken_any k i)
  cases hh : has n f i with
  | true =>
    obtain ⟨j, hj, rfl, htk⟩ := has_in hh
    have E : Hid (useS n f (j : Int) = put f j ⟨(f j).t, true, (f j).p⟩) := Lib.hid (by simp [useS, hh])
    obtain ⟨y0, y1⟩ := k.cells
    obtain ⟨x0, x1, x2⟩ := k.slots.cell j hj
    have hle := k.le
    have hj' : (j : Int) < n := by omega
    have f1 := k.slots.frozen (j * 3 + 1)
    have K := Lib.hid k
    rw [hh] at T
    clear k hh
    go_enter Try.func9, Try.ntmps9
    go_wp2_with fail
    refine T.out.mono ?_
    rintro e w' ⟨rfl, rfl⟩
    go_wp2
    go_end0
    have s1 := K.out.slots.setU j hj true
    have o : Only [A] w (w.setCell ⟨A, j * 3 + 1, none⟩ (.bool true)) := (Only.refl [A] w).setCell (p := ⟨A, j * 3 + 1, none⟩) (.inl (by simp)) _
    exact ⟨rfl, by rw [E.out]; exact K.out.turn s1 o, o⟩
  | false =>
    have E : Hid (useS n f i = f) := Lib.hid (by simp [useS, hh])
    have K := Lib.hid k
    rw [hh] at T
    clear k
    go_enter Try.func9, Try.ntmps9
    go_wp2_with fail
    refine T.out.mono ?_
    rintro e w' ⟨rfl, rfl⟩
    go_wp2
    go_end0
    exact ⟨rfl, by rw [E.out]; exact K.out, Only.refl _ _⟩

set_option maxHeartbeats 2000000 in
theorem pin_any {w : World} {B C A n : Nat} {f : Nat → Slot} {h : Nat} (k : ClockAt w B C A n f h) (i : Int) (hpb : ∀ j, j < n → 0 ≤ (f j).p ∧ (f j).p ≤ 1000) :
    Calls Try.prog 11 #[.pointer (some ⟨C, 0, none⟩), .int .i64 i] w (TurnEnd w B C A n (pinS n f i) h) := by
  have T := Lib.hid (taken_any k i)
  cases hh : has n f i with
  | true =>
    obtain ⟨j, hj, rfl, htk⟩ := has_in hh
    have E : Hid (pinS n f (j : Int) = put f j ⟨(f j).t, (f j).u, (f j).p + 1⟩) := Lib.hid (by simp [pinS, hh])
    obtain ⟨y0, y1⟩ := k.cells
    obtain ⟨x0, x1, x2⟩ := k.slots.cell j hj
    have hle := k.le
    have hj' : (j : Int) < n := by omega
    have f1 := k.slots.frozen (j * 3 + 2)
    obtain ⟨hp0, hp1⟩ := hpb j hj
    have K := Lib.hid k
    rw [hh] at T
    clear k hh
    go_enter Try.func11, Try.ntmps11
    go_wp2_with fail
    refine T.out.mono ?_
    rintro e w' ⟨rfl, rfl⟩
    go_wp2
    go_end0
    have s1 := K.out.slots.setP j hj ((f j).p + 1)
    have o : Only [A] w (w.setCell ⟨A, j * 3 + 2, none⟩ (.int .i64 ((f j).p + 1))) := (Only.refl [A] w).setCell (p := ⟨A, j * 3 + 2, none⟩) (.inl (by simp)) _
    exact ⟨rfl, by rw [E.out]; exact K.out.turn s1 o, o⟩
  | false =>
    have E : Hid (pinS n f i = f) := Lib.hid (by simp [pinS, hh])
    have K := Lib.hid k
    rw [hh] at T
    clear k
    go_enter Try.func11, Try.ntmps11
    go_wp2_with fail
    refine T.out.mono ?_
    rintro e w' ⟨rfl, rfl⟩
    go_wp2
    go_end0
    exact ⟨rfl, by rw [E.out]; exact K.out, Only.refl _ _⟩

end Go.Proofs.Ytfcifdddmcnjcaa
