/-
  PROVED: the contract of the reference's 'Take'. Conditions: each theorem's own premises.
-/
import Derived.Test.YtfcifdddmcnjcaaRNew
namespace Go.Proofs.Ytfcifdddmcnjcaa
open Go.RowKit
set_option linter.unusedVariables false

def RTakeEnd (w0 : World) (B D T U P n : Nat) (R : Nat × Bool × (Nat → Slot) × Nat) (e : Ending) (w : World) : Prop :=
  e = .returned (.tuple #[.int .i64 R.1, .bool R.2.1]) ∧ RefAt w B D T U P n R.2.2.1 R.2.2.2 ∧ Only [D, T, U, P] w0 w

def RTakeLoop1 (W : World) (n : Nat) (f : Nat → Slot) (v5 v6 : Value) (w : World) : Prop :=
  ∃ j : Nat, v6 = .int .i64 j ∧ j ≤ n ∧ v5 = .bool (anyOpen f j) ∧ ff f j = none ∧ w = W
def RTakeLoop2 (W : World) (B D T U P n : Nat) (f : Nat → Slot) (R : Nat × (Nat → Slot) × Nat) (v7 : Value) (w : World) : Prop :=
  ∃ (k : Nat) (f' : Nat → Slot) (h' : Nat), v7 = .int .i64 k ∧ k ≤ 2 * n + 1 ∧ rnd n (2 * n + 1 - k) f' h' = some R ∧ (∀ j, (f' j).t = (f j).t) ∧ RefAt w B D T U P n f' h' ∧ Only [D, T, U, P] W w

theorem ff_step {f : Nat → Slot} {j : Nat} (h : ff f j = none) (ht : (f j).t = true) : ff f (j + 1) = none := by simp [ff, h, ht]
theorem ff_stop {f : Nat → Slot} {j n : Nat} (h : ff f j = none) (hj : j < n) (ht : (f j).t = false) : ff f n = some j := ff_some.2 ⟨hj, ht, ff_none.1 h⟩

set_option maxHeartbeats 2000000 in
theorem rtake_any {w : World} {B D T U P n : Nat} {f : Nat → Slot} {h : Nat} (k : RefAt w B D T U P n f h) (hp : ∀ j, j < n → 0 ≤ (f j).p) :
    Calls Try.prog 27 #[.pointer (some ⟨D, 0, none⟩)] w (RTakeEnd w B D T U P n (takeR n f h)) := by
  obtain ⟨y0, y1, y2, y3⟩ := k.cells
  have K := Lib.hid k
  have HP := Lib.hid hp
  have hle := k.le
  clear k hp
  go_enter Try.func27, Try.ntmps27
  go_wp2_with fail
  go_loopw [5, 6] (fun v5 v6 wr => RTakeLoop1 w n f v5 v6 wr) (fun _ v6 _ => n - (intOf v6).toNat)
  case atStart => exact ⟨0, rfl, Nat.zero_le _, rfl, rfl, rfl⟩
  case round =>
    obtain ⟨j, rfl, hj, rfl, hff, rfl⟩ := hrel
    obtain ⟨W0, rfl⟩ : ∃ W0 : World, W0 = wr := ⟨_, rfl⟩
    have HF := Lib.hid hff
    clear hff
    by_cases hlt : j < n
    · have x0 := K.out.t.cell j hlt
      have x1 := K.out.p.cell j hlt
      cases ht : (f j).t with
      | true =>
        rw [ht] at x0
        have HF2 := Lib.hid (ff_step HF.out ht)
        clear ht
        have HA : Hid (anyOpen f (j + 1) = (anyOpen f j || ((f j).p == 0))) := Lib.hid rfl
        cases ho : anyOpen f j with
        | true =>
          go_wp2
          go_roundw
          case rel => exact ⟨j + 1, by go_num, by omega, by rw [HA.out, ho]; rfl, HF2.out, rfl⟩
          case measure => simp [intOf]; omega
        | false =>
          go_wp2
          go_roundw
          case rel => exact ⟨j + 1, by go_num, by omega, by rw [HA.out, ho]; rfl, HF2.out, rfl⟩
          case measure => simp [intOf]; omega
      | false =>
        rw [ht] at x0
        have E : Hid (takeR n f h = (j, true, setS n f j, h)) := Lib.hid (takeR_free (ff_stop HF.out hlt ht))
        clear ht
        have S := Lib.hid (rset_any K.out (j : Int))
        go_wp2_with fail
        refine S.out.mono ?_
        rintro e w2 ⟨rfl, hk, ho⟩
        have K2 := Lib.hid hk
        have O2 := Lib.hid ho
        clear hk ho
        go_wp2
        go_ret2
        rw [E.out]
        exact ⟨rfl, K2.out, O2.out⟩
    · obtain rfl : j = n := by omega
      cases ho : anyOpen f j with
      | false =>
        have E : Hid (takeR j f h = (0, false, f, h)) := Lib.hid (takeR_no HF.out ho)
        go_wp2
        go_ret2
        rw [E.out]
        exact ⟨rfl, K.out, Only.refl _ _⟩
      | true =>
        obtain ⟨i, hi, hi2⟩ := anyOpen_iff.1 ho
        have hpi := HP.out i hi
        have hh : h < j := by rcases K.out.hand with h1 | h1 <;> omega
        obtain ⟨R, hR⟩ := rnd_ends (f := f) hh hi (by omega)
        have HR := Lib.hid hR
        have HO := Lib.hid ho
        clear hR hi2 hpi hi
        go_wp2_with fail
        go_loopw [7] (fun v7 wr => RTakeLoop2 W0 B D T U P j f R v7 wr) (fun v7 _ => 2 * j + 1 - (intOf v7).toNat)
        case atStart => exact ⟨0, f, h, rfl, by omega, HR.out, fun _ => rfl, K.out, Only.refl _ _⟩
        case round =>
          clear y0 y1 y2 y3
          obtain ⟨k, f', h', rfl, hk, hr, hsame, kr, ho⟩ := hrel
          obtain ⟨y0, y1, y2, y3⟩ := kr.cells
          have hh' : h' < j := by rcases kr.hand with h1 | h1 <;> omega
          have hlt : k < 2 * j + 1 := by
            rcases Nat.lt_or_ge k (2 * j + 1) with h1 | h1
            · exact h1
            · rw [show 2 * j + 1 - k = 0 by omega] at hr; cases hr
          have HS := Lib.hid hsame
          have KR := Lib.hid kr
          have OR := Lib.hid ho
          have HRR : Hid (rnd j ((2 * j + 1 - (k + 1)) + 1) f' h' = some R) := Lib.hid (by rw [show 2 * j + 1 - (k + 1) + 1 = 2 * j + 1 - k by omega]; exact hr)
          have hm : (h' + 1) % j < j := Nat.mod_lt _ (by omega)
          have hrem : Hid ((((h' + 1) % j : Nat) : Int) = ((h' : Int) + 1) % (j : Int)) := Lib.hid (by simp)
          have K1 := Lib.hid (kr.setH hm)
          rw [hrem.out] at K1
          obtain ⟨z0, z1, z2, z3⟩ := K1.out.cells
          have x0 := K1.out.t.cell h' hh'
          have x1 := K1.out.u.cell h' hh'
          have x2 := K1.out.p.cell h' hh'
          have fu := K1.out.u.frozen h'
          have fd := KR.out.frozenD 3
          have hlt1 : (k : Int) < 2 * j + 1 := by omega
          have hlt2 : (h' : Int) < j := by omega
          have hn0 : (j : Int) ≠ 0 := by omega
          have O1 := Lib.hid (ho.setCell (p := ⟨D, 3, none⟩) (.inl (by simp)) (.int .i64 (((h' : Int) + 1) % (j : Int))))
          clear hr hsame kr ho
          by_cases hpp : 0 < (f' h').p
          · have R1 : Hid (rnd j (2 * j + 1 - (k + 1)) f' ((h' + 1) % j) = some R) := Lib.hid (by have := HRR.out; rw [rnd, if_pos hpp] at this; exact this)
            go_wp2
            go_roundw
            case rel => exact ⟨k + 1, f', _, by go_num, hlt, R1.out, HS.out, K1.out, O1.out⟩
            case measure => simp [intOf]; omega
          · cases hu : (f' h').u with
            | true =>
              have R1 : Hid (rnd j (2 * j + 1 - (k + 1)) (put f' h' ⟨(f' h').t, false, (f' h').p⟩) ((h' + 1) % j) = some R) := Lib.hid (by have := HRR.out; rw [rnd, if_neg hpp, if_pos hu] at this; exact this)
              have K2 := Lib.hid (K1.out.setU h' hh' false)
              have O2 := Lib.hid (O1.out.setCell (p := ⟨U, h', none⟩) (.inl (by simp)) (.bool false))
              have HS2 : Hid (∀ i, (put f' h' ⟨(f' h').t, false, (f' h').p⟩ i).t = (f i).t) := Lib.hid (fun i => by
                unfold put; split
                · rename_i e; rw [e]; exact HS.out h'
                · exact HS.out i)
              rw [hu] at x1
              clear hu
              go_wp2
              go_roundw
              case rel => exact ⟨k + 1, _, _, by go_num, hlt, R1.out, HS2.out, K2.out, O2.out⟩
              case measure => simp [intOf]; omega
            | false =>
              have R1 : Hid (R = (h', f', (h' + 1) % j)) := Lib.hid (by have := HRR.out; rw [rnd, if_neg hpp, if_neg (by rw [hu]; simp)] at this; exact (Option.some.inj this).symm)
              have E : Hid (takeR j f h = (h', true, put f' h' ⟨(f' h').t, true, (f' h').p⟩, (h' + 1) % j)) := Lib.hid (by
                have ht : (f' h').t = true := by rw [HS.out]; exact ff_none.1 HF.out h' hh'
                have := HR.out
                rw [R1.out] at this
                rw [takeR_round HF.out HO.out this, setS, if_pos (within_in hh'), ht]
                rfl)
              have K2 := Lib.hid (K1.out.setU h' hh' true)
              have O2 := Lib.hid (O1.out.setCell (p := ⟨U, h', none⟩) (.inl (by simp)) (.bool true))
              rw [hu] at x1
              clear hu
              go_wp2
              go_ret2
              rw [E.out]
              exact ⟨rfl, K2.out, O2.out⟩

end Go.Proofs.Ytfcifdddmcnjcaa
