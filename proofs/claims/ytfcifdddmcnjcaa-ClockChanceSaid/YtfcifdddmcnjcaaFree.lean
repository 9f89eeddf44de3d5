/-
  PROVED: contracts of the clock's 'Unpin', 'Free'. Conditions: each theorem's own premises.
-/
import Derived.Test.YtfcifdddmcnjcaaTurns
namespace Go.Proofs.Ytfcifdddmcnjcaa
open Go.RowKit
set_option linter.unusedVariables false

def unpinS (n : Nat) (f : Nat → Slot) (i : Int) : Nat → Slot := if has n f i then put f i.toNat ⟨(f i.toNat).t, (f i.toNat).u, max ((f i.toNat).p - 1) 0⟩ else f
def freeS (n : Nat) (f : Nat → Slot) (i : Int) : Nat → Slot := if within n i then put f i.toNat zeroSlot else f

set_option maxHeartbeats 2000000 in
theorem free_any {w : World} {B C A n : Nat} {f : Nat → Slot} {h : Nat} (k : ClockAt w B C A n f h) (i : Int) :
    Calls Try.prog 20 #[.pointer (some ⟨C, 0, none⟩), .int .i64 i] w (TurnEnd w B C A n (freeS n f i) h) := by
  rcases in_or_out n i with ⟨j, hj, rfl⟩ | ho
  · have A0 := Lib.hid (at_in k j hj)
    obtain ⟨x0, x1, x2⟩ := k.slots.cell j hj
    have f0 := k.slots.frozen (j * 3)
    have f1 := k.slots.frozen (j * 3 + 1)
    have f2 := k.slots.frozen (j * 3 + 2)
    have K := Lib.hid k
    have E : Hid (freeS n f (j : Int) = put f j zeroSlot) := Lib.hid (by simp [freeS, within_in hj])
    clear k
    go_enter Try.func20, Try.ntmps20
    go_wp2_with fail
    refine A0.out.mono ?_
    rintro e w' ⟨rfl, rfl⟩
    go_wp2
    go_end0
    have s1 := K.out.slots.setT j hj false
    have s2 := s1.setU j hj false
    have s3 := s2.setP j hj 0
    simp only [put_put, put_at] at s3
    have o : Only [A] w (((w.setCell ⟨A, j * 3, none⟩ (.bool false)).setCell ⟨A, j * 3 + 1, none⟩ (.bool false)).setCell ⟨A, j * 3 + 2, none⟩ (.int .i64 0)) :=
      (((Only.refl [A] w).setCell (p := ⟨A, j * 3, none⟩) (.inl (by simp)) _).setCell (p := ⟨A, j * 3 + 1, none⟩) (.inl (by simp)) _).setCell (p := ⟨A, j * 3 + 2, none⟩) (.inl (by simp)) _
    exact ⟨rfl, by rw [E.out]; exact K.out.turn s3 o, o⟩
  · have A0 := Lib.hid (at_out k i ho)
    have K := Lib.hid k
    have E : Hid (freeS n f i = f) := Lib.hid (by simp [freeS, within_out ho])
    clear k
    go_enter Try.func20, Try.ntmps20
    go_wp2_with fail
    refine A0.out.mono ?_
    rintro e w' ⟨rfl, rfl⟩
    go_wp2
    go_end0
    exact ⟨rfl, by rw [E.out]; exact K.out, Only.refl _ _⟩

set_option maxHeartbeats 2000000 in
theorem unpin_any {w : World} {B C A n : Nat} {f : Nat → Slot} {h : Nat} (k : ClockAt w B C A n f h) (i : Int) (hpb : ∀ j, j < n → 0 ≤ (f j).p ∧ (f j).p ≤ 1000) :
    Calls Try.prog 19 #[.pointer (some ⟨C, 0, none⟩), .int .i64 i] w (TurnEnd w B C A n (unpinS n f i) h) := by
  have T := Lib.hid (taken_any k i)
  cases hh : has n f i with
  | true =>
    obtain ⟨j, hj, rfl, htk⟩ := has_in hh
    have E : Hid (unpinS n f (j : Int) = put f j ⟨(f j).t, (f j).u, max ((f j).p - 1) 0⟩) := Lib.hid (by simp [unpinS, hh])
    obtain ⟨y0, y1⟩ := k.cells
    obtain ⟨x0, x1, x2⟩ := k.slots.cell j hj
    have hle := k.le
    have hj' : (j : Int) < n := by omega
    have f1 := k.slots.frozen (j * 3 + 2)
    obtain ⟨hp0, hp1⟩ := hpb j hj
    have K := Lib.hid k
    rw [hh] at T
    clear k hh
    go_enter Try.func19, Try.ntmps19
    go_wp2_with fail
    refine T.out.mono ?_
    rintro e w' ⟨rfl, rfl⟩
    by_cases hz : (f j).p = 0
    · have hz1 : (f j).p - 1 < 0 := by omega
      have E2 : Hid (max ((f j).p - 1) 0 = 0) := Lib.hid (by omega)
      go_wp2_with fail
      go_region
      all_goals
        go_wp2
        go_end0
        have s1 := (K.out.slots.setP j hj (0))
        have o : Only [A] w ((w.setCell ⟨A, j * 3 + 2, none⟩ (.int .i64 (0))).drew) := ((Only.refl [A] w).setCell (p := ⟨A, j * 3 + 2, none⟩) (.inl (by simp)) _).drew
        exact ⟨rfl, by rw [E.out, E2.out]; exact K.out.turn (s1.keep rfl) o, o⟩
    · have hz1 : ¬ (f j).p - 1 < 0 := by omega
      have E2 : Hid (max ((f j).p - 1) 0 = (f j).p - 1) := Lib.hid (by omega)
      go_wp2_with fail
      go_region
      all_goals
        go_wp2
        go_end0
        have s1 := (K.out.slots.setP j hj ((f j).p - 1))
        have o : Only [A] w ((w.setCell ⟨A, j * 3 + 2, none⟩ (.int .i64 ((f j).p - 1))).drew) := ((Only.refl [A] w).setCell (p := ⟨A, j * 3 + 2, none⟩) (.inl (by simp)) _).drew
        exact ⟨rfl, by rw [E.out, E2.out]; exact K.out.turn (s1.keep rfl) o, o⟩
  | false =>
    have E : Hid (unpinS n f i = f) := Lib.hid (by simp [unpinS, hh])
    have K := Lib.hid k
    rw [hh] at T
    clear k
    go_enter Try.func19, Try.ntmps19
    go_wp2_with fail
    refine T.out.mono ?_
    rintro e w' ⟨rfl, rfl⟩
    go_wp2
    go_end0
    exact ⟨rfl, by rw [E.out]; exact K.out, Only.refl _ _⟩

end Go.Proofs.Ytfcifdddmcnjcaa
