/-
  PROVED: 'Rows.RetryOnceSaid': for every two ints that 'RetryOnce' is called with, it returns true. No conditions.
-/
import Derived.Test.YtfokbnbfaienjaaRow
import Derived.Deep.RegionWith
import Derived.Deep.RegionHeld3
import Derived.WalkKit
import Derived.ProofKit
import Derived.OpenShut
import Derived.ShutString
namespace Go.Proofs.Ytfokbnbfaienjaa.retryOnce
open Go.ChangeShapes Go.WideShapes Go.ChangeAt Go.RowKit
open Go.ChangeMaps (open_string shut_string)
set_option linter.unusedVariables false      -- a walk need not use every 'w<i>' (that an integer argument fits its kind)

theorem own : ownKnob Try.prog.godebug = none := by kernel_rfl

/-! ### STEP 1: THE WALK: the Go text returns true. 'Grown w w'': the world has at most new blocks (Derived/RowKit3.lean). Part the cases AHEAD of 'go_enter' where a test parts the walk; take each callee by a contract of your own. -/
/-- The request that tells e, E its variable. -/
structure OnceInv (w0 : World) (B E : Nat) (e : Int) (k : Nat) (x : Int) (w : World) : Prop where
  var : w.heap[E]? = some (.cells #[.int .i64 e] 3 (0, 0))
  kept : Below B w0 w
  told : Told (fun _ => e) k x

theorem clos15 {w0 : World} {B E : Nat} {e : Int} (k : Nat) (v : World) (hi : OnceInv w0 B E e k 11 v) :
    Calls Try.prog 15 #[.pointer (some ⟨E, 0, none⟩)] v (AskKept B (OnceInv w0 B E e) (k + 1) v) := by
  have cV := cell_of_one hi.var
  go_enter Try.func15, Try.ntmps15
  go_wp2
  go_ret
  exact ⟨_, rfl, ⟨hi.var, hi.kept, hi.told.next⟩, fun b _ _ => rfl⟩

theorem once_told {e : Int} (he : ¬ e = 11) {k : Nat} {x : Int} (h : Told (fun _ => e) k x) (h1 : 1 ≤ k) : k = 1 ∧ x = e := by
  have hx := h.last (k - 1) (by omega)
  refine ⟨?_, hx⟩
  rcases Nat.lt_or_ge 1 k with hlt | hge
  · exact absurd (h.before 0 hlt) he
  · omega

theorem held_below {w0 w1 w2 : World} {E : Nat} {u : Value} (h : w1.cell? ⟨E, 0, none⟩ = some u ∧ Below E w0 w1 ∧ E < w1.heap.size) (hb : Below w1.heap.size w1 w2) :
    w2.cell? ⟨E, 0, none⟩ = some u ∧ Below E w0 w2 ∧ E < w2.heap.size :=
  ⟨(hb.cell (p := ⟨E, 0, none⟩) h.2.2).trans h.1, h.2.1.trans (hb.mono (Nat.le_of_lt h.2.2)), Nat.lt_of_lt_of_le h.2.2 hb.size⟩

set_option maxHeartbeats 400000 in
theorem walk (a0 : Int) (a1 : Int) (w : World) (w0 : (Lit.int .i64 a0).wf = true) (w1 : (Lit.int .i64 a1).wf = true) :
    Calls Try.prog 5 #[.int .i64 a0, .int .i64 a1] w fun e w' => e = .returned (.bool true) ∧ Below w.heap.size w w' := by
  have hmf : ∀ (fn : Fn) (first cap : Array Value) (w : World), (Instr.makeFunc fn first cap).run Try.prog w = .ok (.func fn first cap) w := fun _ _ _ _ => rfl
  clear w0 w1
  by_cases hg : 1 ≤ a0 ∧ a0 ≤ 8 ∧ ¬ a1 = 11 ∧ 0 ≤ a1 ∧ a1 ≤ 100
  · obtain ⟨g1, g2, g3, g4, g5⟩ := hg
    have b3 : (a1 == 11) = false := by simpa using g3
    have c15 : Callable 15 := fun _ _ => by kernel_rfl
    have inv0 : OnceInv w (w.heap.size) w.heap.size a1 0 11 (w.alloc (.cells #[.int .i64 a1] 3)) := ⟨newest _ _, (Below.refl _ _).alloc (Nat.le_refl _) _, Told.start _⟩
    have C := Lib.hid (sure_any a0 g1 g2 15 c15 #[.pointer (some ⟨w.heap.size, 0, none⟩)] (OnceInv w (w.heap.size) w.heap.size a1) _ inv0
      (fun k x v v' hi hb => ⟨(hb.block _ (by simp)).trans hi.var, hi.kept.trans (hb.mono (by simp)), hi.told⟩)
      (Lib.hid fun k v hk hi => (clos15 k v hi).mono fun _ _ h => by
        obtain ⟨x, h1, ⟨h2, h3, h5⟩, h4⟩ := h
        exact ⟨x, h1, ⟨h2, h3, h5⟩, fun b hb => h4 b (by simp at hb; omega)⟩))
    clear inv0
    have G3 := Lib.hid g3
    clear g3
    go_enter Try.func5, Try.ntmps5
    go_wp2_with fail
    refine C.out.mono ?_
    rintro e v ⟨k, x, rfl, h1, h3, hx, hinv⟩
    obtain ⟨rfl, rfl⟩ := once_told G3.out hinv.told h1
    clear C hx
    have b4 : (x != 11) = true := by rw [bne, b3]; rfl
    have cV := cell_of_one hinv.var
    have hV := hinv.var
    have HI := Lib.hid hinv.kept
    clear hinv
    rw [b4]
    go_wp2_with fail
    have hsz : w.heap.size < v.heap.size := by have := HI.out.size; exact lt_of_block hV
    have hB := HI.out
    go_region_held3 (fun w' => w'.cell? ⟨w.heap.size, 0, none⟩ = some (.int .i64 x) ∧ Below w.heap.size w w' ∧ w.heap.size < w'.heap.size) (first | exact ⟨cV, hB.drew, hsz⟩ | assumption | exact held_below (by assumption) hb) (first | (go_at_call 13; refine (num_any _ _).mono ?_; rintro e w' ⟨rfl, rfl⟩) | (go_at_call 6; refine (live_any _).mono ?_; rintro e w' ⟨rfl, hb⟩))
    rename_i hS
    have hS2 := hS.2.1
    clear hS
    go_wp2
    go_ret
    exact ⟨rfl, hS2⟩
  · have L := Lib.hid (fun v : World => live_any v)
    rcases (show a0 < 1 ∨ (1 ≤ a0 ∧ 8 < a0) ∨ (1 ≤ a0 ∧ a0 ≤ 8 ∧ a1 = 11) ∨ (1 ≤ a0 ∧ a0 ≤ 8 ∧ ¬ a1 = 11 ∧ a1 < 0) ∨ (1 ≤ a0 ∧ a0 ≤ 8 ∧ ¬ a1 = 11 ∧ 0 ≤ a1 ∧ 100 < a1) by omega) with h | ⟨h1, h⟩ | ⟨h1, h2, rfl⟩ | ⟨h1, h2, h3, h⟩ | ⟨h1, h2, h3, h4, h⟩
    all_goals
      clear hg
      go_enter Try.func5, Try.ntmps5
      go_wp2_with (go_at_call 6; refine (L.out _).mono ?_; rintro e w' ⟨rfl, hb⟩)
      go_ret
      exact ⟨rfl, ((Below.refl _ w).alloc (Nat.le_refl _) _).trans (Below.mono (by assumption) (by simp))⟩

/-! ### THE ROW's STEP: WRITTEN OUT: LEAVE IT -/
set_option maxRecDepth 100000 in
theorem lifted (os : Os) (started : os.Started) (H : Type) (enc : TypeId × Value → H) :
    ReturnsInHanded {} Try.checked os 5 .any (Rows.retryOnceSpec.pre6 enc Try.prog Try.f5 Rows.retryOnceRow.domain false) (Rows.retryOnceSpec.post enc Try.prog Try.f5 false true false false) := by
  refine returnsInHanded_of_change (C := Try.checked) own started (by kernel_rfl) Try.func5
    (ChangeSpec.witness6 (enc := enc) (C := Try.checked) false ⟨#[], #[.int .i64 0, .int .i64 0], []⟩ 8 (by kernel_rfl) (by kernel_rfl) (by kernel_rfl) (by kernel_rfl)) ?_
  intro W base args ds gs before hval0 hW hcnd _
  have hval : ∀ (j : Nat) t v, Try.f5.params[j]? = some t → args[j]? = some v → Value.okWide Try.prog W .any base t v := hval0
  have hW' := hW
  obtain ⟨p, q, hA0, hV, rfl, hfz, hnd⟩ := hW
  have hA : DataW.TrodAll enc Try.prog W 0 (fun _ => true) true Try.f5.params.toList args.toList ds p := hA0
  rw [Try.params5] at hA hval
  obtain ⟨v0, vs0, d0, ds0, p0, q0, hargs, rfl, rfl, h0, r0⟩ := trodAll_cons hA
  obtain ⟨v1, vs1, d1, ds1, p1, q1, rfl, rfl, rfl, h1, r1⟩ := trodAll_cons r0
  obtain ⟨rfl, rfl, rfl⟩ := trodAll_nil r1
  obtain rfl : args = #[v0, v1] := by cases args; simp_all
  obtain ⟨rfl, rfl⟩ := trodVars_none hV
  obtain ⟨a0, rfl, rfl, rfl, w0⟩ := open_int Try.underlying3 (hval 0 3 v0 rfl rfl) h0
  obtain ⟨a1, rfl, rfl, rfl, w1⟩ := open_int Try.underlying3 (hval 1 3 v1 rfl rfl) h1
  clear hA0 hval0
  refine (walk a0 a1 W w0 w1).mono fun e W' ⟨he, bel⟩ => ?_
  subst he
  exact ⟨_, rfl, _, _, _, [], _, [], hW', trodAll_mk1 (shut_bool Try.underlying4 _), (trodAll_cons_mk (shut_int Try.underlying3 w0) (trodAll_cons_mk (shut_int Try.underlying3 w1) trodAll_mk0)), rfl, bel.frame _, fun h => by cases h⟩

theorem over : Rows.retryOnceRow.holds Try.pinned (OpenSpec.ofChange Rows.retryOnceSpec) :=
  OpenClaim.holds_of_wide 5 Try.f5 rfl rfl rfl rfl rfl rfl rfl ⟨rfl, rfl, rfl, rfl, rfl⟩ rfl rfl rfl rfl rfl (by kernel_rfl) Try.func5 (by kernel_rfl)
    (of_decide_eq_true (by kernel_rfl)) (by unfold Func.isWrapper; first | (rw [if_pos (by decide +kernel)]; kernel_rfl) | (rw [if_neg (by decide +kernel)]; exact ⟨rfl, rfl⟩))
    (fun os started H enc _ => lifted os started H enc)

/-- ████ THE STATEMENT ████ -/
theorem proved : Rows.RetryOnceSaid :=
  over
#print axioms proved
end Go.Proofs.Ytfokbnbfaienjaa.retryOnce
