/-
  PROVED: 'Rows.RetryBoundSaid': for every int that 'RetryBound' is called with, it returns true. No conditions.
-/
import Derived.Test.YtfokbnbfaienjaaRow
import Derived.WalkKit
import Derived.ProofKit
import Derived.OpenShut
import Derived.ShutString
namespace Go.Proofs.Ytfokbnbfaienjaa.retryBound
open Go.ChangeShapes Go.WideShapes Go.ChangeAt Go.RowKit
open Go.ChangeMaps (open_string shut_string)
set_option linter.unusedVariables false      -- a walk need not use every 'w<i>' (that an integer argument fits its kind)

theorem own : ownKnob Try.prog.godebug = none := by kernel_rfl

/-! ### STEP 1: THE WALK: the Go text returns true. 'Grown w w'': the world has at most new blocks (Derived/RowKit3.lean). Part the cases AHEAD of 'go_enter' where a test parts the walk; take each callee by a contract of your own. -/
/-- The request that always fails, E its counter. -/
structure BoundInv (w0 : World) (E : Nat) (k : Nat) (x : Int) (w : World) : Prop where
  var : w.heap[E]? = some (.cells #[.int .i64 k] 3 (0, 0))
  kept : Below E w0 w
  last : x = 11

theorem clos14 {w0 : World} {E : Nat} (k : Nat) (v : World) (hk : k < 8) (hi : BoundInv w0 E k 11 v) :
    Calls Try.prog 14 #[.pointer (some ⟨E, 0, none⟩)] v (SomeAsk (BoundInv w0 E) (k + 1)) := by
  have cV := cell_of_one hi.var
  have fV := free_of_one hi.var
  go_enter Try.func14, Try.ntmps14
  go_wp2
  go_ret
  exact ⟨_, rfl, ⟨one_setCell hi.var, hi.kept.setCell (Nat.le_refl _) _, rfl⟩⟩

set_option maxHeartbeats 400000 in
theorem walk (a0 : Int) (w : World) (w0 : (Lit.int .i64 a0).wf = true) :
    Calls Try.prog 4 #[.int .i64 a0] w fun e w' => e = .returned (.bool true) ∧ Below w.heap.size w w' := by
  have hmf : ∀ (fn : Fn) (first cap : Array Value) (w : World), (Instr.makeFunc fn first cap).run Try.prog w = .ok (.func fn first cap) w := fun _ _ _ _ => rfl
  clear w0
  have L := Lib.hid (fun v : World => live_any v)
  by_cases hg : 1 ≤ a0 ∧ a0 ≤ 8
  · obtain ⟨g1, g2⟩ := hg
    have c14 : Callable 14 := fun _ _ => by kernel_rfl
    have inv0 : BoundInv w w.heap.size 0 11 (w.alloc (.cells #[.int .i64 0] 3)) := ⟨newest _ _, (Below.refl _ _).alloc (Nat.le_refl _) _, rfl⟩
    have C := Lib.hid (do_any a0 g1 g2 14 c14 #[.pointer (some ⟨w.heap.size, 0, none⟩)] (BoundInv w w.heap.size) _ inv0
      (Lib.hid fun k v hk hi => clos14 k v (by omega) hi))
    clear inv0
    go_enter Try.func4, Try.ntmps4
    go_wp2_with fail
    refine C.out.mono ?_
    rintro e v ⟨k, x, rfl, h1, h3, hx, hinv⟩
    obtain rfl := hinv.last
    obtain rfl : a0 = k := (hx rfl).symm
    clear C hx
    have cV := cell_of_one hinv.var
    have HI := Lib.hid hinv
    clear hinv
    go_wp2_with fail
    refine (do_nil _ _).mono ?_
    rintro e v' ⟨rfl, rfl⟩
    go_wp2_with fail
    refine (sure_nil _ _).mono ?_
    rintro e v' ⟨rfl, hb⟩
    have hlt := lt_of_block HI.out.var
    have cV' := (hb.cell (p := ⟨w.heap.size, 0, none⟩) hlt).trans cV
    clear cV
    go_wp2_with (first | (go_at_call 13; refine (num_any _ _).mono ?_; rintro e w' ⟨rfl, rfl⟩) | (go_at_call 6; refine (L.out _).mono ?_; rintro e w' ⟨rfl, hb2⟩))
    go_ret
    exact ⟨rfl, HI.out.kept.trans ((hb.mono (Nat.le_of_lt hlt)).trans (Below.mono (by assumption) (Nat.le_trans (Nat.le_of_lt hlt) hb.size)))⟩
  · have c14 : Callable 14 := fun _ _ => by kernel_rfl
    rcases (show a0 < 1 ∨ (1 ≤ a0 ∧ 8 < a0) by omega) with h | ⟨h1, h⟩
    all_goals
      have C := Lib.hid (fun v => do_arg a0 (by omega) 14 #[.pointer (some ⟨w.heap.size, 0, none⟩)] v)
      clear hg
      go_enter Try.func4, Try.ntmps4
      go_wp2_with fail
      refine (C.out _).mono ?_
      rintro e v ⟨rfl, rfl⟩
      go_wp2_with fail
      refine (do_nil _ _).mono ?_
      rintro e v' ⟨rfl, rfl⟩
      go_wp2_with fail
      refine (sure_nil _ _).mono ?_
      rintro e v' ⟨rfl, hb⟩
      have cV' := (hb.cell (p := ⟨w.heap.size, 0, none⟩) (by simp)).trans (cell_of_one (newest w (.cells #[.int .i64 0] 3)))
      go_wp2_with (first | (go_at_call 13; refine (num_any _ _).mono ?_; rintro e w' ⟨rfl, rfl⟩) | (go_at_call 6; refine (L.out _).mono ?_; rintro e w' ⟨rfl, hb2⟩))
      go_ret
      exact ⟨rfl, ((Below.refl _ w).alloc (Nat.le_refl _) _).trans ((hb.mono (by simp)).trans (Below.mono (by assumption) (by have := hb.size; simp at this; omega)))⟩

/-! ### THE ROW's STEP: WRITTEN OUT: LEAVE IT -/
set_option maxRecDepth 100000 in
theorem lifted (os : Os) (started : os.Started) (H : Type) (enc : TypeId × Value → H) :
    ReturnsInHanded {} Try.checked os 4 .any (Rows.retryBoundSpec.pre6 enc Try.prog Try.f4 Rows.retryBoundRow.domain false) (Rows.retryBoundSpec.post enc Try.prog Try.f4 false true false false) := by
  refine returnsInHanded_of_change (C := Try.checked) own started (by kernel_rfl) Try.func4
    (ChangeSpec.witness6 (enc := enc) (C := Try.checked) false ⟨#[], #[.int .i64 0], []⟩ 8 (by kernel_rfl) (by kernel_rfl) (by kernel_rfl) (by kernel_rfl)) ?_
  intro W base args ds gs before hval0 hW hcnd _
  have hval : ∀ (j : Nat) t v, Try.f4.params[j]? = some t → args[j]? = some v → Value.okWide Try.prog W .any base t v := hval0
  have hW' := hW
  obtain ⟨p, q, hA0, hV, rfl, hfz, hnd⟩ := hW
  have hA : DataW.TrodAll enc Try.prog W 0 (fun _ => true) true Try.f4.params.toList args.toList ds p := hA0
  rw [Try.params4] at hA hval
  obtain ⟨v0, vs0, d0, ds0, p0, q0, hargs, rfl, rfl, h0, r0⟩ := trodAll_cons hA
  obtain ⟨rfl, rfl, rfl⟩ := trodAll_nil r0
  obtain rfl : args = #[v0] := by cases args; simp_all
  obtain ⟨rfl, rfl⟩ := trodVars_none hV
  obtain ⟨a0, rfl, rfl, rfl, w0⟩ := open_int Try.underlying3 (hval 0 3 v0 rfl rfl) h0
  clear hA0 hval0
  refine (walk a0 W w0).mono fun e W' ⟨he, bel⟩ => ?_
  subst he
  exact ⟨_, rfl, _, _, _, [], _, [], hW', trodAll_mk1 (shut_bool Try.underlying4 _), (trodAll_cons_mk (shut_int Try.underlying3 w0) trodAll_mk0), rfl, bel.frame _, fun h => by cases h⟩

theorem over : Rows.retryBoundRow.holds Try.pinned (OpenSpec.ofChange Rows.retryBoundSpec) :=
  OpenClaim.holds_of_wide 4 Try.f4 rfl rfl rfl rfl rfl rfl rfl ⟨rfl, rfl, rfl, rfl, rfl⟩ rfl rfl rfl rfl rfl (by kernel_rfl) Try.func4 (by kernel_rfl)
    (of_decide_eq_true (by kernel_rfl)) (by unfold Func.isWrapper; first | (rw [if_pos (by decide +kernel)]; kernel_rfl) | (rw [if_neg (by decide +kernel)]; exact ⟨rfl, rfl⟩))
    (fun os started H enc _ => lifted os started H enc)

/-- ████ THE STATEMENT ████ -/
theorem proved : Rows.RetryBoundSaid :=
  over
#print axioms proved
end Go.Proofs.Ytfokbnbfaienjaa.retryBound
