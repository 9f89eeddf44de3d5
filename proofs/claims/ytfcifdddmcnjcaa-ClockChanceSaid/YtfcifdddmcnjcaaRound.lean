/-
  PROVED: the contract of the clock's 'round'. Conditions: each theorem's own premises.
-/
import Derived.Test.YtfcifdddmcnjcaaIndex
import Derived.Deep.LoopGhost
import Derived.WalkMore
namespace Go.Proofs.Ytfcifdddmcnjcaa
open Go.RowKit
set_option linter.unusedVariables false

/-- The hand goes round, at most k steps: which slot is given, the slots, the hand. -/
def rnd (n : Nat) : Nat → (Nat → Slot) → Nat → Option (Nat × (Nat → Slot) × Nat)
  | 0, _, _ => none
  | k + 1, f, h =>
    if 0 < (f h).p then rnd n k f ((h + 1) % n)
    else if (f h).u then rnd n k (put f h ⟨(f h).t, false, (f h).p⟩) ((h + 1) % n)
    else some (h, f, (h + 1) % n)

theorem ClockAt.move {w w' : World} {B C A n : Nat} {f : Nat → Slot} {h h' : Nat} (k : ClockAt w B C A n f h) (hc : w'.heap[C]? = some (.cells #[.slice (some ⟨A, 0, none⟩) n n, .int .i64 h'] 46 (0, 0))) (ha : w'.heap[A]? = w.heap[A]?) (hh : h' < n) : ClockAt w' B C A n f h' :=
  ⟨hc, k.slots.keep ha, k.ne, k.bc, k.ba, k.le, .inl hh⟩
theorem ClockAt.setHand {w : World} {B C A n : Nat} {f : Nat → Slot} {h h' : Nat} (k : ClockAt w B C A n f h) (hh : h' < n) : ClockAt (w.setCell ⟨C, 1, none⟩ (.int .i64 h')) B C A n f h' := by
  refine k.move ?_ (Below.heap_setCell _ _ _ _ k.ne) hh
  rw [heap_setCell w C 1 _ 46 _ k.c]
  rfl
theorem ClockAt.drew {w : World} {B C A n : Nat} {f : Nat → Slot} {h : Nat} (k : ClockAt w B C A n f h) : ClockAt w.drew B C A n f h :=
  ⟨k.c, k.slots.keep rfl, k.ne, k.bc, k.ba, k.le, k.hand⟩
theorem ClockAt.frozenC {w : World} {B C A n : Nat} {f : Nat → Slot} {h : Nat} (k : ClockAt w B C A n f h) (i : Nat) : w.frozen? ⟨C, i, none⟩ = false := by
  simp [World.frozen?, k.c]

def RoundLoop (w0 : World) (B C A n : Nat) (R : Nat × (Nat → Slot) × Nat) (k : Nat) (w : World) : Prop :=
  ∃ f h, rnd n k f h = some R ∧ ClockAt w B C A n f h ∧ Only [C, A] w0 w
def RoundEnd (w0 : World) (B C A n : Nat) (R : Nat × (Nat → Slot) × Nat) (e : Ending) (w : World) : Prop :=
  e = .returned (.int .i64 R.1) ∧ ClockAt w B C A n R.2.1 R.2.2 ∧ Only [C, A] w0 w

set_option maxHeartbeats 2000000 in
theorem round_any {w : World} {B C A n : Nat} {f : Nat → Slot} {h : Nat} (k : ClockAt w B C A n f h) (hn : 0 < n) (K : Nat) (R : Nat × (Nat → Slot) × Nat) (hR : rnd n K f h = some R) :
    Calls Try.prog 25 #[.pointer (some ⟨C, 0, none⟩)] w (RoundEnd w B C A n R) := by
  have S : Hid (RoundLoop w B C A n R K w) := Lib.hid ⟨f, h, hR, k, Only.refl _ _⟩
  have hle := k.le
  clear k hR
  go_enter Try.func25, Try.ntmps25
  go_wp2_with fail
  go_step3
  go_wp2_with fail
  try go_step3
  try go_wp2_with fail
  go_loopg [] K (fun gk wr => RoundLoop w B C A n R gk wr)
  case atStart => exact S.out
  case round =>
    clear S
    obtain ⟨f, h, hR, k, o⟩ := hrel
    obtain ⟨gk, rfl⟩ : ∃ g, gk = g + 1 := by
      cases gk with
      | zero => cases hR
      | succ g => exact ⟨g, rfl⟩
    have hh : h < n := by rcases k.hand with h1 | h1 <;> omega
    have hh' : (h : Int) < n := by omega
    have hn0 : (n : Int) ≠ 0 := by omega
    obtain ⟨y0, y1⟩ := k.cells
    have fc := k.frozenC 1
    have K0 := Lib.hid k
    have HO := Lib.hid o
    have HR := Lib.hid hR
    have hrem : Hid ((((h + 1) % n : Nat) : Int) = ((h : Int) + 1) % (n : Int)) := Lib.hid (by simp)
    have hm : (h + 1) % n < n := Nat.mod_lt _ hn
    obtain ⟨x0, x1, x2⟩ := k.slots.cell h hh
    have K1 := Lib.hid (k.setHand hm)
    rw [hrem.out] at K1
    have K2 := Lib.hid (K1.out.slots.setU h hh false)
    obtain ⟨z0, z1, z2⟩ := K1.out.slots.cell h hh
    have fz := K1.out.slots.frozen (h * 3 + 1)
    have O1 := Lib.hid (o.setCell (p := ⟨C, 1, none⟩) (.inl (by simp)) (.int .i64 (((h : Int) + 1) % (n : Int))))
    have O2 := Lib.hid (O1.out.setCell (p := ⟨A, h * 3 + 1, none⟩) (.inl (by simp)) (.bool false))
    clear k o hR
    go_wp2_with fail
    go_region
    all_goals
      by_cases hp : 0 < (f h).p
      · have R1 : Hid (rnd n gk f ((h + 1) % n) = some R) := Lib.hid (by have := HR.out; rw [rnd, if_pos hp] at this; exact this)
        go_wp2
        go_roundg gk
        case rel => exact ⟨_, _, R1.out, K1.out.drew, O1.out.drew⟩
        case measure => exact Nat.lt_succ_self _
      · cases hu : (f h).u with
        | true =>
          have R1 : Hid (rnd n gk (put f h ⟨(f h).t, false, (f h).p⟩) ((h + 1) % n) = some R) := Lib.hid (by have := HR.out; rw [rnd, if_neg hp, if_pos hu] at this; exact this)
          rw [hu] at x1 z1
          go_wp2
          go_roundg gk
          case measure => exact Nat.lt_succ_self _
          case rel => exact ⟨_, _, R1.out, (K1.out.turn K2.out (Only.setCell (Only.refl [A] _) (p := ⟨A, h * 3 + 1, none⟩) (.inl (by simp)) (.bool false))).drew, O2.out.drew⟩
        | false =>
          have R1 : Hid (some (h, f, (h + 1) % n) = some R) := Lib.hid (by have := HR.out; rw [rnd, if_neg hp, if_neg (by rw [hu]; simp)] at this; exact this)
          rw [hu] at x1 z1
          go_wp2
          go_ret
          obtain rfl := Option.some.inj R1.out
          exact ⟨rfl, K1.out.drew, O1.out.drew⟩

end Go.Proofs.Ytfcifdddmcnjcaa
