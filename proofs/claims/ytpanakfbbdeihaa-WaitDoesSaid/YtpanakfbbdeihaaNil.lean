/-
  PROVED: what a nil queue, and one that 'New' did not make, answer. Conditions: each theorem's own premises.
-/
import Derived.Test.YtpanakfbbdeihaaLive
namespace Go.Proofs.Ytpanakfbbdeihaa
open Go.RowKit
set_option linter.unusedVariables false

/-- No queue of New's. -/
def NoQ (w : World) (p : Value) : Prop := p = .pointer none ∨ ∃ Q, p = .pointer (some ⟨Q, 0, none⟩) ∧ w.heap[Q]? = some (.cells #[.slice none 0 0, .map none] 50 (0, 0))

theorem NoQ.below {w w' : World} {p : Value} (h : NoQ w p) (hb : Below w.heap.size w w') : NoQ w' p := by
  rcases h with rfl | ⟨Q, rfl, h⟩
  · exact .inl rfl
  · exact .inr ⟨Q, rfl, (hb.block Q (lt_of_block h)).trans h⟩

theorem is_no {w : World} {p : Value} (h : NoQ w p) : Calls Try.prog 18 #[p] w fun e w' => e = .returned (.bool false) ∧ w = w' := by
  rcases h with rfl | ⟨Q, rfl, h⟩
  · exact is_nil w
  · exact is_bare w Q (.slice none 0 0) (by simp [World.cell?, h])

theorem len_no {w : World} {p : Value} (h : NoQ w p) : Calls Try.prog 17 #[p] w fun e w' => e = .returned (.int .i64 0) ∧ w = w' := by
  have C := Lib.hid (is_no h)
  clear h
  go_enter Try.func17, Try.ntmps17
  go_wp2_with fail
  refine C.out.mono ?_
  rintro e w' ⟨rfl, rfl⟩
  go_wp2
  go_ret
  exact ⟨rfl, rfl⟩

theorem pop_no {w : World} {p : Value} (h : NoQ w p) : Calls Try.prog 10 #[p] w fun e w' => e = .returned (.tuple #[.agg #[.int .i64 0, .int .i64 0], .bool false]) ∧ Below w.heap.size w w' := by
  have C := Lib.hid (len_no (h.below ((Below.refl _ w).alloc (Nat.le_refl _) (.cells #[.int .i64 0, .int .i64 0] 28))))
  clear h
  go_enter Try.func10, Try.ntmps10
  go_wp2_with fail
  refine C.out.mono ?_
  rintro e w' ⟨rfl, rfl⟩
  go_wp2
  refine bodyPost_ret (v := .tuple #[.agg #[.int .i64 0, .int .i64 0], .bool false]) (by simp [results, Try.results10, go_sem]) rfl ⟨rfl, (Below.refl _ w).alloc (Nat.le_refl _) _⟩

theorem put_no {w : World} {p : Value} (h : NoQ w p) (a b : Int) : Calls Try.prog 8 #[p, .agg #[.int .i64 a, .int .i64 b]] w fun e w' => e = .returned (.bool false) ∧ Below w.heap.size w w' := by
  obtain ⟨W, hW, bx⟩ := boxed w a b
  have hb : Below w.heap.size w W := bx.only.below (by simp) (Nat.le_refl _)
  have C := Lib.hid (fun n => is_no (h.below (below_drewN hb n)))
  have HB := Lib.hid hb
  clear h hb bx
  go_enter Try.func8, Try.ntmps8
  go_wp2_with fail
  clear hW
  go_quiet ((go_at_call 18; exact quiet (C.out _)))
  go_wp2
  go_ret
  exact ⟨rfl, below_drewN HB.out _⟩

theorem drop_no {w : World} {p : Value} (h : NoQ w p) (o : Int) : Calls Try.prog 13 #[p, .int .i64 o] w fun e w' => e = .returned (.int .i64 0) ∧ Below w.heap.size w w' := by
  have C := Lib.hid (is_no (h.below ((Below.refl _ w).alloc (Nat.le_refl _) (.cells #[.int .i64 o] 3))))
  clear h
  go_enter Try.func13, Try.ntmps13
  go_wp2_with fail
  refine C.out.mono ?_
  rintro e w' ⟨rfl, rfl⟩
  go_wp2
  go_ret
  exact ⟨rfl, (Below.refl _ w).alloc (Nat.le_refl _) _⟩

theorem batch_no {w : World} {p : Value} (h : NoQ w p) (m : Int) : Calls Try.prog 16 #[p, .int .i64 m] w fun e w' => e = .returned (.slice none 0 0) ∧ w = w' := by
  have C := Lib.hid (len_no h)
  clear h
  go_enter Try.func16, Try.ntmps16
  go_wp2_with fail
  refine C.out.mono ?_
  rintro e w' ⟨rfl, rfl⟩
  go_wp2
  go_ret
  exact ⟨rfl, rfl⟩
end Go.Proofs.Ytpanakfbbdeihaa
