/-
  PROVED: the contract of the clock's 'Take'. Conditions: each theorem's own premises.
-/
import Derived.Test.YtfcifdddmcnjcaaPlain
namespace Go.Proofs.Ytfcifdddmcnjcaa
open Go.RowKit
set_option linter.unusedVariables false

theorem able22 (args : Array Value) (w : World) : Sem.run Try.prog (callFunc 22 args) w = .ok (.enter 22 args) w := by kernel_rfl
theorem able24 (args : Array Value) (w : World) : Sem.run Try.prog (callFunc 24 args) w = .ok (.enter 24 args) w := by kernel_rfl

def TakeEnd (w0 : World) (B C A n : Nat) (R : Nat × Bool × (Nat → Slot) × Nat) (e : Ending) (w : World) : Prop :=
  e = .returned (.tuple #[.int .i64 R.1, .bool R.2.1]) ∧ ClockAt w B C A n R.2.2.1 R.2.2.2 ∧ Only [C, A] w0 w

theorem Below.only (fp : List Nat) {w w' : World} (h : Below w.heap.size w w') : Only fp w w' := Only.of_below h (Nat.le_refl _)
theorem ClockAt.below {w w' : World} {B C A n : Nat} {f : Nat → Slot} {h : Nat} (k : ClockAt w B C A n f h) (ho : Below w.heap.size w w') : ClockAt w' B C A n f h :=
  k.only (Below.only [] ho) (by simp) (by simp)

theorem idx_mono {f : Nat → Slot} {n : Nat} {e : Ending} {w0 w : World} (h : IdxEnd w0 f (fun s => !s.t) n e w) :
    ((e = .returned (.int .i64 (-1)) ∧ ff f n = none) ∨ ∃ i : Nat, i < n ∧ e = .returned (.int .i64 i) ∧ ff f n = some i) ∧ Below w0.heap.size w0 w := by
  obtain ⟨r, rfl, hr, hb⟩ := h
  refine ⟨?_, hb⟩
  rcases idx_ff hr with ⟨rfl, h⟩ | ⟨i, hi, rfl, h⟩
  · exact .inl ⟨rfl, h⟩
  · exact .inr ⟨i, hi, rfl, h⟩

set_option maxHeartbeats 1000000 in
theorem take_any {w : World} {B C A n : Nat} {f : Nat → Slot} {h : Nat} (k : ClockAt w B C A n f h) (hp : ∀ j, j < n → 0 ≤ (f j).p) :
    Calls Try.prog 8 #[.pointer (some ⟨C, 0, none⟩)] w (TakeEnd w B C A n (takeR n f h)) := by
  have I := Lib.hid (index_any 22 (fun s => !s.t) free22 able22 k.slots k.le)
  obtain ⟨y0, y1⟩ := k.cells
  have K := Lib.hid k
  have HP := Lib.hid hp
  have hle := k.le
  clear k hp
  go_enter Try.func8, Try.ntmps8
  go_wp2_with fail
  refine I.out.mono ?_
  rintro e w1 h1
  obtain ⟨h1, hb⟩ := idx_mono h1
  have K1 := Lib.hid (K.out.below hb)
  have O1 := Lib.hid (Below.only [C, A] hb)
  clear hb y0 y1 I
  obtain ⟨y0, y1⟩ := K1.out.cells
  rcases h1 with ⟨rfl, hff⟩ | ⟨i, hi, rfl, hff⟩
  · have HF := Lib.hid hff
    clear hff
    have J := Lib.hid (contains_any 24 (fun s => s.p == 0) open24 able24 K1.out.slots hle)
    go_wp2_with fail
    refine J.out.mono ?_
    rintro e w2 ⟨⟨b, rfl, hb⟩, hbl⟩
    have K2 := Lib.hid (K1.out.below hbl)
    have O2 := Lib.hid (O1.out.trans (Below.only [C, A] hbl) (fun x hx => .inl hx))
    have HB : Hid (b = anyOpen f n) := Lib.hid (by
      rw [Bool.eq_iff_iff, hb, anyOpen_iff]
      simp)
    clear hb hbl J
    cases b with
    | false =>
      have E : Hid (takeR n f h = (0, false, f, h)) := Lib.hid (takeR_no HF.out HB.out.symm)
      clear HB
      go_wp2
      go_ret2
      rw [E.out]
      exact ⟨rfl, K2.out, O2.out⟩
    | true =>
      obtain ⟨j, hj, hj2⟩ := anyOpen_iff.1 HB.out.symm
      have hpj := HP.out j hj
      have hh : h < n := by rcases K2.out.hand with h1 | h1 <;> omega
      obtain ⟨⟨i, f', h'⟩, hR⟩ := rnd_ends (f := f) hh hj (by omega)
      have L := rnd_law n (by omega) _ _ _ _ hh hR
      have E : Hid (takeR n f h = (i, true, setS n f' i, h')) := Lib.hid (takeR_round HF.out HB.out.symm hR)
      have Q := Lib.hid (round_any K2.out (by omega) _ _ hR)
      have hi : i < n := L.1
      clear HB L hR hj2 hpj hj
      go_wp2_with fail
      refine Q.out.mono ?_
      rintro e w3 ⟨rfl, hk, ho⟩
      have K3 := Lib.hid hk
      have O3 := Lib.hid (O2.out.trans ho (fun x hx => .inl hx))
      clear hk ho Q
      have S := Lib.hid (set_any K3.out (i : Int))
      go_wp2_with fail
      refine S.out.mono ?_
      rintro e w4 ⟨rfl, hk, ho⟩
      have K4 := Lib.hid hk
      have O4 := Lib.hid (O3.out.trans ho (fun x hx => .inl (by simp at hx; subst hx; simp)))
      clear hk ho
      go_wp2
      go_ret2
      rw [E.out]
      exact ⟨rfl, K4.out, O4.out⟩
  · have HF := Lib.hid hff
    clear hff
    have E : Hid (takeR n f h = (i, true, setS n f i, h)) := Lib.hid (takeR_free HF.out)
    have S := Lib.hid (set_any K1.out (i : Int))
    go_wp2_with fail
    refine S.out.mono ?_
    rintro e w2 ⟨rfl, hk, ho⟩
    have K2 := Lib.hid hk
    have O2 := Lib.hid (O1.out.trans ho (fun x hx => .inl (by simp at hx; subst hx; simp)))
    clear hk ho
    go_wp2
    go_ret2
    rw [E.out]
    exact ⟨rfl, K2.out, O2.out⟩

theorem take_nil (w : World) : Calls Try.prog 8 #[.pointer none] w fun e w' => e = .returned (.tuple #[.int .i64 0, .bool false]) ∧ w = w' := by
  go_enter Try.func8, Try.ntmps8
  go_wp2
  go_ret2
  all_goals exact ⟨rfl, rfl⟩

end Go.Proofs.Ytfcifdddmcnjcaa
