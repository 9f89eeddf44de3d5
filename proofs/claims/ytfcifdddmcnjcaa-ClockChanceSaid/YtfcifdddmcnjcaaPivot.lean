/-
  PROVED: behind the one operation of a drawn region that writes, the rest is walked once, in the order of the text. Conditions: each theorem's own premises.
-/
import Derived.Test.YtfcifdddmcnjcaaOpened
import Derived.Deep.RegionHeld3
namespace Go.Proofs.Ytfcifdddmcnjcaa
open Go.RowKit
set_option linter.unusedVariables false

theorem wpOp_quiet_held {P : Program} {ops : Array Oper} {C S : World → Prop} {i : Nat} {a : Go.Act} {K : Go.Act → Prop} {K' : Go.Act → World → Prop} {Q' : Exit → Go.Act → World → Prop} {w : World} (hC : C w)
    (hS : ∀ w, C w → S w) (h : ∀ a w', C w' → K a → K' a w') (hh : qOp P ops C i K a) : wpOp P ops Q' i (fun a' w' => S w' ∧ K' a' w') a w :=
  wpOp_of_qOp hC (fun a' w' hw' hk => ⟨hS w' hw', h a' w' hw' hk⟩) hh

/-- The rest of a region is quiet in C, whose worlds all meet S. -/
theorem wpAnyH_quiet {P : Program} {md : Region.Mode} {ops : Array Oper} {C S : World → Prop} {Q : Go.Act → Prop} {Q' : Exit → Go.Act → World → Prop} (hS : ∀ w, C w → S w) (hQ : ∀ a w, C w → Q a → Q' .normal a w) (fuel : Nat) :
    ∀ (listed : Array Bool) (a : Go.Act) (w : World), C w → wpAnyQ P md ops C Q fuel listed a → wpAnyH P md ops Q' S fuel listed a w := by
  induction fuel with
  | zero => exact fun listed a w hw h => ⟨h.1, hQ a w hw h.2⟩
  | succ fuel ih =>
    intro listed a w hw h
    refine ⟨fun h0 => hQ a w hw (h.1 h0), fun i hi => ?_⟩
    exact wpOp_quiet_held hw hS (fun a' w' hw' hk => ih _ a' w' hw' hk) (h.2 i hi)

/-- Behind the pivot, number k - 1, from the world w: the operations from k on are walked in the order of the text, in the class 'w behind some draws'. -/
theorem wpAnyH_rest {P : Program} {l : List Oper} {S : World → Prop} {Q : Exit → Go.Act → World → Prop} (k fuel : Nat) {listed : Array Bool} {a : Go.Act} {w : World} (hS : ∀ n, S (w.drewN n)) (hs : Region.noSelect l.toArray = true)
    (hf : fuel = (l.drop k).length) (hB : Region.lexFrom .any l.toArray (l.drop k).length k listed = true)
    (h : wpQuiet P l.toArray (fun w' => ∃ n, w' = w.drewN n) (fun a' => ∀ w', (∃ n, w' = w.drewN n) → Q .normal a' w') (l.drop k) a) : wpAnyH P .any l.toArray Q S fuel listed a w := by
  subst hf
  refine wpAnyH_quiet (C := fun w' => ∃ n, w' = w.drewN n) (Q := fun a' => ∀ w', (∃ n, w' = w.drewN n) → Q .normal a' w') ?_ (fun a' w' hw' h => h w' hw') _ listed a w ⟨0, rfl⟩ (wpAnyQ_lex hs _ _ _ _ (fun j => by simp) hB h)
  rintro _ ⟨n, rfl⟩
  exact hS n

end Go.Proofs.Ytfcifdddmcnjcaa
