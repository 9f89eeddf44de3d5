/-
  PROVED: contracts of the reference's 'Set', 'Use', 'Pin', 'Unpin', 'Free'. Conditions: each theorem's own premises.
-/
import Derived.Test.YtfcifdddmcnjcaaRef
namespace Go.Proofs.Ytfcifdddmcnjcaa
open Go.RowKit
set_option linter.unusedVariables false

/-- Behind an act of the reference. -/
def RTurn (w : World) (B D T U P n : Nat) (f : Nat → Slot) (h : Nat) (e : Ending) (w' : World) : Prop :=
  e = .returned (.tuple #[]) ∧ RefAt w' B D T U P n f h ∧ Only [D, T, U, P] w w'

set_option maxHeartbeats 1000000 in
theorem rset_any {w : World} {B D T U P n : Nat} {f : Nat → Slot} {h : Nat} (k : RefAt w B D T U P n f h) (i : Int) :
    Calls Try.prog 32 #[.pointer (some ⟨D, 0, none⟩), .int .i64 i] w (RTurn w B D T U P n (setS n f i) h) := by
  obtain ⟨y0, y1, y2, y3⟩ := k.cells
  have hle := k.le
  have K := Lib.hid k
  rcases in_or_out n i with ⟨j, hj, rfl⟩ | ho
  · have k1 := k.setT j hj true
    have k2 := k1.setU j hj true
    simp only [put_put, put_at] at k2
    have E : Hid (setS n f (j : Int) = put f j ⟨true, true, (f j).p⟩) := Lib.hid (by simp [setS, within_in hj])
    have ft := k.t.frozen j
    have fu := k.u.frozen j
    have x0 := k.t.cell j hj
    have x1 := k.u.cell j hj
    have a1 := k1.cells.2.1
    have x2 := k1.u.cell j hj
    have fu2 := k1.u.frozen j
    have K2 := Lib.hid k2
    simp only [put_at] at x2
    clear k k1 k2
    have hj0 : (0 : Int) ≤ j := by omega
    have hj1 : (j : Int) < n := by omega
    go_enter Try.func32, Try.ntmps32
    go_wp2
    go_end0
    rw [E.out]
    exact ⟨rfl, K2.out, ((Only.refl [D, T, U, P] w).setCell (p := ⟨T, j, none⟩) (.inl (by simp)) _).setCell (p := ⟨U, j, none⟩) (.inl (by simp)) _⟩
  · have E : Hid (setS n f i = f) := Lib.hid (by simp [setS, within_out ho])
    clear k
    by_cases h0 : i < 0
    · have h1 : ¬ 0 ≤ i := by omega
      go_enter Try.func32, Try.ntmps32
      go_wp2
      go_end0
      rw [E.out]
      exact ⟨rfl, K.out, Only.refl _ _⟩
    · have h1 : 0 ≤ i := by omega
      have h2 : ¬ i < n := by omega
      go_enter Try.func32, Try.ntmps32
      go_wp2
      go_end0
      rw [E.out]
      exact ⟨rfl, K.out, Only.refl _ _⟩

set_option maxHeartbeats 1000000 in
theorem rfree_any {w : World} {B D T U P n : Nat} {f : Nat → Slot} {h : Nat} (k : RefAt w B D T U P n f h) (i : Int) :
    Calls Try.prog 31 #[.pointer (some ⟨D, 0, none⟩), .int .i64 i] w (RTurn w B D T U P n (freeS n f i) h) := by
  obtain ⟨y0, y1, y2, y3⟩ := k.cells
  have hle := k.le
  have K := Lib.hid k
  rcases in_or_out n i with ⟨j, hj, rfl⟩ | ho
  · have k1 := k.setT j hj false
    have k2 := k1.setU j hj false
    have k3 := k2.setP j hj 0
    have E : Hid (freeS n f (j : Int) = put f j zeroSlot) := Lib.hid (by simp [freeS, within_in hj])
    have ft := k.t.frozen j
    have x0 := k.t.cell j hj
    have x1 := k1.u.cell j hj
    have fu := k1.u.frozen j
    have x2 := k2.p.cell j hj
    have fp := k2.p.frozen j
    have a1 := k1.cells.2.1
    have a2 := k2.cells.2.2.1
    simp only [put_put, put_at] at k3 x1 x2
    have K3 := Lib.hid k3
    clear k k1 k2 k3
    have hj0 : (0 : Int) ≤ j := by omega
    have hj1 : (j : Int) < n := by omega
    go_enter Try.func31, Try.ntmps31
    go_wp2
    go_end0
    rw [E.out]
    exact ⟨rfl, K3.out, (((Only.refl [D, T, U, P] w).setCell (p := ⟨T, j, none⟩) (.inl (by simp)) _).setCell (p := ⟨U, j, none⟩) (.inl (by simp)) _).setCell (p := ⟨P, j, none⟩) (.inl (by simp)) _⟩
  · have E : Hid (freeS n f i = f) := Lib.hid (by simp [freeS, within_out ho])
    clear k
    by_cases h0 : i < 0
    · have h1 : ¬ 0 ≤ i := by omega
      go_enter Try.func31, Try.ntmps31
      go_wp2
      go_end0
      rw [E.out]
      exact ⟨rfl, K.out, Only.refl _ _⟩
    · have h1 : 0 ≤ i := by omega
      have h2 : ¬ i < n := by omega
      go_enter Try.func31, Try.ntmps31
      go_wp2
      go_end0
      rw [E.out]
      exact ⟨rfl, K.out, Only.refl _ _⟩

set_option maxHeartbeats 1000000 in
theorem ruse_any {w : World} {B D T U P n : Nat} {f : Nat → Slot} {h : Nat} (k : RefAt w B D T U P n f h) (i : Int) :
    Calls Try.prog 28 #[.pointer (some ⟨D, 0, none⟩), .int .i64 i] w (RTurn w B D T U P n (useS n f i) h) := by
  obtain ⟨y0, y1, y2, y3⟩ := k.cells
  have hle := k.le
  have K := Lib.hid k
  have H := Lib.hid (rhas_any k i)
  cases hh : has n f i with
  | true =>
    obtain ⟨j, hj, rfl, htk⟩ := has_in hh
    have E : Hid (useS n f (j : Int) = put f j ⟨(f j).t, true, (f j).p⟩) := Lib.hid (by simp [useS, hh])
    have K2 := Lib.hid (k.setU j hj true)
    have x1 := k.u.cell j hj
    have fu := k.u.frozen j
    have hj0 : (0 : Int) ≤ j := by omega
    have hj1 : (j : Int) < n := by omega
    rw [hh] at H
    clear k hh
    go_enter Try.func28, Try.ntmps28
    go_wp2_with fail
    refine H.out.mono ?_
    rintro e w' ⟨rfl, rfl⟩
    go_wp2
    go_end0
    rw [E.out]
    exact ⟨rfl, K2.out, (Only.refl [D, T, U, P] w).setCell (p := ⟨U, j, none⟩) (.inl (by simp)) _⟩
  | false =>
    have E : Hid (useS n f i = f) := Lib.hid (by simp [useS, hh])
    rw [hh] at H
    clear k hh
    go_enter Try.func28, Try.ntmps28
    go_wp2_with fail
    refine H.out.mono ?_
    rintro e w' ⟨rfl, rfl⟩
    go_wp2
    go_end0
    rw [E.out]
    exact ⟨rfl, K.out, Only.refl _ _⟩

set_option maxHeartbeats 1000000 in
theorem rpin_any {w : World} {B D T U P n : Nat} {f : Nat → Slot} {h : Nat} (k : RefAt w B D T U P n f h) (i : Int) (hpb : ∀ j, j < n → 0 ≤ (f j).p ∧ (f j).p ≤ 1000) :
    Calls Try.prog 29 #[.pointer (some ⟨D, 0, none⟩), .int .i64 i] w (RTurn w B D T U P n (pinS n f i) h) := by
  obtain ⟨y0, y1, y2, y3⟩ := k.cells
  have hle := k.le
  have K := Lib.hid k
  have H := Lib.hid (rhas_any k i)
  cases hh : has n f i with
  | true =>
    obtain ⟨j, hj, rfl, htk⟩ := has_in hh
    obtain ⟨hp0, hp1⟩ := hpb j hj
    have E : Hid (pinS n f (j : Int) = put f j ⟨(f j).t, (f j).u, (f j).p + 1⟩) := Lib.hid (by simp [pinS, hh])
    have K2 := Lib.hid (k.setP j hj ((f j).p + 1))
    have x1 := k.p.cell j hj
    have fu := k.p.frozen j
    have hj0 : (0 : Int) ≤ j := by omega
    have hj1 : (j : Int) < n := by omega
    rw [hh] at H
    clear k hh
    go_enter Try.func29, Try.ntmps29
    go_wp2_with fail
    refine H.out.mono ?_
    rintro e w' ⟨rfl, rfl⟩
    go_wp2
    go_end0
    rw [E.out]
    exact ⟨rfl, K2.out, (Only.refl [D, T, U, P] w).setCell (p := ⟨P, j, none⟩) (.inl (by simp)) _⟩
  | false =>
    have E : Hid (pinS n f i = f) := Lib.hid (by simp [pinS, hh])
    rw [hh] at H
    clear k hh
    go_enter Try.func29, Try.ntmps29
    go_wp2_with fail
    refine H.out.mono ?_
    rintro e w' ⟨rfl, rfl⟩
    go_wp2
    go_end0
    rw [E.out]
    exact ⟨rfl, K.out, Only.refl _ _⟩

theorem put_self (f : Nat → Slot) (i : Nat) (x : Slot) (e : x = f i) : put f i x = f := by
  funext j
  unfold put
  by_cases h : j = i
  · rw [if_pos h, e, h]
  · rw [if_neg h]

set_option maxHeartbeats 1000000 in
theorem runpin_any {w : World} {B D T U P n : Nat} {f : Nat → Slot} {h : Nat} (k : RefAt w B D T U P n f h) (i : Int) (hpb : ∀ j, j < n → 0 ≤ (f j).p ∧ (f j).p ≤ 1000) :
    Calls Try.prog 30 #[.pointer (some ⟨D, 0, none⟩), .int .i64 i] w (RTurn w B D T U P n (unpinS n f i) h) := by
  obtain ⟨y0, y1, y2, y3⟩ := k.cells
  have hle := k.le
  have K := Lib.hid k
  have H := Lib.hid (rhas_any k i)
  cases hh : has n f i with
  | true =>
    obtain ⟨j, hj, rfl, htk⟩ := has_in hh
    obtain ⟨hp0, hp1⟩ := hpb j hj
    have x1 := k.p.cell j hj
    have fu := k.p.frozen j
    have hj0 : (0 : Int) ≤ j := by omega
    have hj1 : (j : Int) < n := by omega
    by_cases hz : 0 < (f j).p
    · have E : Hid (unpinS n f (j : Int) = put f j ⟨(f j).t, (f j).u, (f j).p - 1⟩) := Lib.hid (by simp only [unpinS, hh, if_true, Int.toNat_natCast]; rw [show max ((f j).p - 1) 0 = (f j).p - 1 by omega])
      have K2 := Lib.hid (k.setP j hj ((f j).p - 1))
      rw [hh] at H
      clear k hh
      go_enter Try.func30, Try.ntmps30
      go_wp2_with fail
      refine H.out.mono ?_
      rintro e w' ⟨rfl, rfl⟩
      go_wp2
      go_end0
      rw [E.out]
      exact ⟨rfl, K2.out, (Only.refl [D, T, U, P] w).setCell (p := ⟨P, j, none⟩) (.inl (by simp)) _⟩
    · have E : Hid (unpinS n f (j : Int) = f) := Lib.hid (by
        simp only [unpinS, hh, if_true, Int.toNat_natCast]
        exact put_self f j _ (by rw [show max ((f j).p - 1) 0 = (f j).p by omega]))
      rw [hh] at H
      clear k hh
      go_enter Try.func30, Try.ntmps30
      go_wp2_with fail
      refine H.out.mono ?_
      rintro e w' ⟨rfl, rfl⟩
      go_wp2
      go_end0
      rw [E.out]
      exact ⟨rfl, K.out, Only.refl _ _⟩
  | false =>
    have E : Hid (unpinS n f i = f) := Lib.hid (by simp [unpinS, hh])
    rw [hh] at H
    clear k hh
    go_enter Try.func30, Try.ntmps30
    go_wp2_with fail
    refine H.out.mono ?_
    rintro e w' ⟨rfl, rfl⟩
    go_wp2
    go_end0
    rw [E.out]
    exact ⟨rfl, K.out, Only.refl _ _⟩

end Go.Proofs.Ytfcifdddmcnjcaa
