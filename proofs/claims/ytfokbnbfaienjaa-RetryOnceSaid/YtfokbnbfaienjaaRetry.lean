/-
  PROVED: contracts of 'retry.Do', 'retry.Sure', its closure and '(*row).ask': what each returns and what it leaves of memory, for whatever request keeps the relation I. Conditions: each theorem's own premises.
-/
import Derived.Test.YtfokbnbfaienjaaRows
import Derived.WalkKit
import Derived.WalkSpells
import Derived.WalkLawsBesides
import Derived.BigQuiet
import Derived.Deep.QuietTactic
import Derived.Lib.Hide
import Derived.Laws.EntriesVeiled
import Derived.Deep.DeepMust
import Derived.Deep.LoopGhost
import Derived.OpenShut
namespace Go.Proofs.Ytfokbnbfaienjaa
open Go.RowKit
set_option linter.unusedVariables false

theorem eqf (fn : Fn) (a b : Array Value) (w : World) : (binOp .eql 30 (.func fn a b) .nilFunc).run Try.prog w = .ok (.bool false) w := by rfl
theorem eqn (w : World) : (binOp .eql 30 .nilFunc .nilFunc).run Try.prog w = .ok (.bool true) w := by rfl

/-- A function value that may be called: its body is in the program. -/
def Callable (g : FuncId) : Prop := ∀ (args : Array Value) (w : World), Sem.run Try.prog (callFunc g args) w = .ok (.enter g args) w

def SomeDo (tries : Int) (I : Nat → Int → World → Prop) (e : Ending) (w' : World) : Prop :=
  ∃ (k : Nat) (x : Int), e = .returned (.tuple #[.int .i64 x, .int .i64 k]) ∧ 1 ≤ k ∧ (k : Int) ≤ tries ∧ (x = 11 → (k : Int) = tries) ∧ I k x w'

def SomeAsk (I : Nat → Int → World → Prop) (k : Nat) (e : Ending) (w' : World) : Prop :=
  ∃ x : Int, e = .returned (.int .i64 x) ∧ I k x w'

def DoRel (tries : Int) (I : Nat → Int → World → Prop) (e n : Value) (w' : World) : Prop :=
  ∃ (k : Nat) (x : Int), e = .int .i64 x ∧ n = .int .i64 k ∧ (k : Int) ≤ tries ∧ (k = 0 → x = 11) ∧ I k x w'

set_option maxHeartbeats 400000 in
theorem do_any (tries : Int) (h1 : 1 ≤ tries) (h8 : tries ≤ 8) (g : FuncId) (hg : Callable g) (cap : Array Value) (I : Nat → Int → World → Prop) (w : World) (h0 : I 0 11 w)
    (hs : Hid (∀ (k : Nat) (w : World), (k : Int) < tries → I k 11 w → Calls Try.prog g cap w (SomeAsk I (k + 1)))) :
    Calls Try.prog 7 #[.int .i64 tries, .func (.func g) #[] cap] w (SomeDo tries I) := by
  have e1 := eqf
  unfold Callable at hg
  go_enter Try.func7, Try.ntmps7
  go_wp2
  go_loopw [6, 7] (fun e n wr => DoRel tries I e n wr) (fun _ n _ => (tries - intOf n).toNat)
  case atStart => exact ⟨0, 11, rfl, rfl, by show ((0 : Nat) : Int) ≤ tries; omega, fun _ => rfl, h0⟩
  case round =>
    obtain ⟨k, x, rfl, rfl, hk, hx0, hI⟩ := hrel
    by_cases hlt : (k : Int) < tries
    · by_cases hx : x = 11
      · subst hx
        clear hx0
        go_wp2_with fail
        refine (hs.out k wr hlt hI).mono ?_
        rintro e w' ⟨y, rfl, hI'⟩
        go_wp2
        go_roundw
        case rel => exact ⟨k + 1, y, rfl, by go_num, by omega, by omega, hI'⟩
        case measure => simp [intOf]; omega
      · have hx' : (x == 11) = false := by simpa using hx
        have HX : Hid (¬ x = 11) := hx
        clear hx
        have hk0 : 1 ≤ k := by
          rcases Nat.eq_zero_or_pos k with h | h
          · exact absurd (hx0 h) HX.out
          · exact h
        clear hx0
        go_wp2
        go_ret2
        exact ⟨k, x, rfl, hk0, hk, fun h => absurd h HX.out, hI⟩
    · have hke := Lib.hid (show (k : Int) = tries by omega)
      go_wp2
      go_ret2
      exact ⟨k, x, rfl, by have := hke.out; omega, hk, fun _ => hke.out, hI⟩

theorem do_nil (tries : Int) (w : World) :
    Calls Try.prog 7 #[.int .i64 tries, .nilFunc] w fun e w' => e = .returned (.tuple #[.int .i64 9, .int .i64 0]) ∧ w = w' := by
  have e1 := eqn
  go_enter Try.func7, Try.ntmps7
  go_wp2
  go_ret2
  exact ⟨rfl, rfl⟩

theorem do_arg (tries : Int) (h : tries < 1 ∨ 8 < tries) (g : FuncId) (cap : Array Value) (w : World) :
    Calls Try.prog 7 #[.int .i64 tries, .func (.func g) #[] cap] w fun e w' => e = .returned (.tuple #[.int .i64 1, .int .i64 0]) ∧ w = w' := by
  have e1 := eqf
  rcases h with h | h
  · go_enter Try.func7, Try.ntmps7
    go_wp2
    go_ret2
    exact ⟨rfl, rfl⟩
  · have h' : ¬ tries < 1 := by omega
    go_enter Try.func7, Try.ntmps7
    go_wp2
    go_ret2
    exact ⟨rfl, rfl⟩

/-- Whether an ask failed: after k of them, of which all but the last failed, the last with x. -/
def failedB (k : Nat) (x : Int) : Bool := decide (2 ≤ k) || (decide (1 ≤ k) && x == 11)

theorem failedB_end (k : Nat) (x : Int) (h : 1 ≤ k) : failedB k x = !(k == 1 && x != 11) := by
  by_cases h2 : 2 ≤ k
  · have : (k == 1) = false := by simp; omega
    simp [failedB, h2, this]
  · obtain rfl : k = 1 := by omega
    cases hx : (x == 11) <;> simp [failedB, bne, hx]

/-- What an ask keeps: every block from B on that was there. -/
def AskKept (B : Nat) (I : Nat → Int → World → Prop) (k : Nat) (w : World) (e : Ending) (w' : World) : Prop :=
  ∃ x : Int, e = .returned (.int .i64 x) ∧ I k x w' ∧ ∀ b, B ≤ b → b < w.heap.size → w'.heap[b]? = w.heap[b]?

/-- The relation of Do inside Sure. -/
def SureRel (B : Nat) (g : FuncId) (cap : Array Value) (I : Nat → Int → World → Prop) (k : Nat) (x : Int) (w : World) : Prop :=
  I k x w ∧ w.heap[B]? = some (.cells #[.func (.func g) #[] cap] 30 (0, 0)) ∧ w.heap[B + 1]? = some (.cells #[.bool (failedB k x)] 4 (0, 0))

theorem sure1 (B : Nat) (g : FuncId) (hg : Callable g) (cap : Array Value) (I : Nat → Int → World → Prop) (tries : Int)
    (hI : ∀ (k : Nat) (x : Int) (v v' : World), I k x v → Below B v v' → I k x v')
    (hs : Hid (∀ (k : Nat) (v : World), (k : Int) < tries → I k 11 v → Calls Try.prog g cap v (AskKept B I (k + 1) v))) (k : Nat) (v : World) (hk : (k : Int) < tries) (hr : SureRel B g cap I k 11 v) :
    Calls Try.prog 17 #[.pointer (some ⟨B, 0, none⟩), .pointer (some ⟨B + 1, 0, none⟩)] v (SomeAsk (SureRel B g cap I) (k + 1)) := by
  obtain ⟨hi, hb0, hb1⟩ := hr
  have c0 := cell_of_one hb0
  have c1 := cell_of_one hb1
  have f1 := free_of_one hb1
  unfold Callable at hg
  go_enter Try.func17, Try.ntmps17
  go_wp2_with fail
  refine (hs.out k v hk hi).mono ?_
  rintro e v1 ⟨x, rfl, hi1, hkept⟩
  have hb0' := (hkept B (Nat.le_refl _) (lt_of_block hb0)).trans hb0
  have hb1' := (hkept (B + 1) (by omega) (lt_of_block hb1)).trans hb1
  clear hkept
  have d1 := cell_of_one hb1'
  have g1 := free_of_one hb1'
  have F1 := Lib.hid (show failedB k 11 = decide (1 ≤ k) by by_cases h : 1 ≤ k <;> simp [failedB, h]; omega)
  have F2 := Lib.hid (show failedB (k + 1) x = (failedB k 11 || x == 11) by rw [F1.out]; simp [failedB])
  go_wp2
  all_goals
    go_ret
    refine ⟨x, rfl, hI _ _ _ _ hi1 ((Below.refl B v1).setCell (by show B ≤ B + 1; omega) _), (Below.heap_setCell _ _ _ _ (by show B ≠ B + 1; omega)).trans hb0', ?_⟩
  · rename_i hf
    rw [F2.out, hf]
    exact one_setCell hb1'
  · rename_i hf
    rw [F2.out, Bool.eq_false_iff.2 hf]
    exact one_setCell hb1'

def SureEnd (tries : Int) (I : Nat → Int → World → Prop) (e : Ending) (w' : World) : Prop :=
  ∃ (k : Nat) (x : Int), e = .returned (.tuple #[.int .i64 x, .bool (k == 1 && x != 11), .int .i64 k]) ∧ 1 ≤ k ∧ (k : Int) ≤ tries ∧ (x = 11 → (k : Int) = tries) ∧ I k x w'

set_option maxHeartbeats 400000 in
theorem sure_any (tries : Int) (h1 : 1 ≤ tries) (h8 : tries ≤ 8) (g : FuncId) (hg : Callable g) (cap : Array Value) (I : Nat → Int → World → Prop) (w : World) (h0 : I 0 11 w)
    (hI : ∀ (k : Nat) (x : Int) (v v' : World), I k x v → Below w.heap.size v v' → I k x v')
    (hs : Hid (∀ (k : Nat) (v : World), (k : Int) < tries → I k 11 v → Calls Try.prog g cap v (AskKept w.heap.size I (k + 1) v))) :
    Calls Try.prog 10 #[.int .i64 tries, .func (.func g) #[] cap] w (SureEnd tries I) := by
  have e1 := eqf
  have hmf : ∀ (fn : Fn) (first cap : Array Value) (w : World), (Instr.makeFunc fn first cap).run Try.prog w = .ok (.func fn first cap) w := fun _ _ _ _ => rfl
  have c17 : Callable 17 := fun _ _ => by kernel_rfl
  have S1 := Lib.hid (sure1 w.heap.size g hg cap I tries hI hs)
  go_enter Try.func10, Try.ntmps10
  go_wp2_with fail
  refine (do_any tries h1 h8 17 c17 _ (SureRel w.heap.size g cap I) _ ?_ S1).mono ?_
  · refine ⟨hI _ _ _ _ h0 (((Below.refl _ _).alloc (Nat.le_refl _) _).alloc (by simp) _), (Below.heap_alloc _ _ _ (by simp)).trans (heap_alloc_new _ _), ?_⟩
    have := heap_alloc_new (w.alloc (Obj.cells #[Value.func (Fn.func g) #[] cap] 30)) (Obj.cells #[Value.bool false] 4)
    simpa [failedB] using this
  rintro e v ⟨k, x, rfl, hk1, hk, hx, hi, hb0, hb1⟩
  have c1 := cell_of_one hb1
  have HX := Lib.hid hx
  clear hx hb0 hb1
  have F := Lib.hid (failedB_end k x hk1)
  have hkp : (0 : Int) < (k : Int) := by omega
  have hkq : 0 < k := by omega
  go_wp2_with fail
  go_quiet (fail)
  go_wp2
  go_ret3
  rw [F.out, Bool.not_not]
  exact ⟨k, x, rfl, hk1, hk, HX.out, hI _ _ _ _ hi (below_drewN (Below.refl _ _) _)⟩

theorem sure_nil (tries : Int) (w : World) :
    Calls Try.prog 10 #[.int .i64 tries, .nilFunc] w fun e w' => e = .returned (.tuple #[.int .i64 9, .bool false, .int .i64 0]) ∧ Below w.heap.size w w' := by
  have e1 := eqn
  go_enter Try.func10, Try.ntmps10
  go_wp2
  go_ret3
  exact ⟨rfl, (Below.refl _ _).alloc (Nat.le_refl _) _⟩

theorem sure_arg (tries : Int) (h : tries < 1 ∨ 8 < tries) (g : FuncId) (cap : Array Value) (w : World) :
    Calls Try.prog 10 #[.int .i64 tries, .func (.func g) #[] cap] w fun e w' => e = .returned (.tuple #[.int .i64 1, .bool false, .int .i64 0]) ∧ Below w.heap.size w w' := by
  have e1 := eqf
  have hmf : ∀ (fn : Fn) (first cap : Array Value) (w : World), (Instr.makeFunc fn first cap).run Try.prog w = .ok (.func fn first cap) w := fun _ _ _ _ => rfl
  have c17 : Callable 17 := fun _ _ => by kernel_rfl
  go_enter Try.func10, Try.ntmps10
  go_wp2_with fail
  refine (do_arg tries h 17 _ _).mono ?_
  rintro e v ⟨rfl, rfl⟩
  go_wp2_with fail
  go_quiet (fail)
  go_wp2
  go_ret3
  exact ⟨rfl, below_drewN (((Below.refl _ _).alloc (Nat.le_refl _) _).alloc (by simp) _) _⟩

/-- Nothing but block R has turned. -/
structure Touched (R : Nat) (w w' : World) : Prop where
  os : w'.os = w.os
  tape : w'.tape = w.tape
  output : w'.output = w.output
  size : w'.heap.size = w.heap.size
  block : ∀ b, b ≠ R → w'.heap[b]? = w.heap[b]?

/-- What a slice of integers that came in holds. -/
def IsRow (k : IntKind) (w : World) (a : Option Addr) (len cap : Nat) (zs : List Int) : Prop :=
  (a = none ∧ len = 0 ∧ cap = 0 ∧ zs = []) ∨
  ∃ x, a = some x ∧ len ≤ cap ∧ cap ≤ maxLen ∧ zs.length = cap ∧ (∀ i, i < zs.length → w.cell? (x.add i) = some (.int k (zs.getD i 0))) ∧ ∀ n ∈ zs, (Lit.int k n).wf = true

/-- What a row tells the k-th time. -/
def rowAt (zs : List Int) (len k : Nat) : Int := if k < len then zs.getD k 0 else 0

def AskEnd (R : Nat) (a : Option Addr) (len cap : Nat) (x : Int) (k : Nat) (w : World) (e : Ending) (w' : World) : Prop :=
  e = .returned (.int .i64 x) ∧ w'.heap[R]? = some (.cells #[.slice a len cap, .int .i64 (k + 1 : Nat)] 26 (0, 0)) ∧ Touched R w w'

theorem ask_end {R : Nat} {a : Option Addr} {len cap k : Nat} {w : World} (hr : w.heap[R]? = some (.cells #[.slice a len cap, .int .i64 k] 26 (0, 0))) (n : Nat) :
    (((w.drewN n).setCell ⟨R, 1, none⟩ (.int .i64 ((k : Int) + 1))).heap[R]? = some (.cells #[.slice a len cap, .int .i64 (k + 1 : Nat)] 26 (0, 0))) ∧ Touched R w ((w.drewN n).setCell ⟨R, 1, none⟩ (.int .i64 ((k : Int) + 1))) := by
  have hlt := lt_of_block hr
  refine ⟨?_, rfl, rfl, rfl, by simp [World.setCell, World.drewN], fun b hb => (Below.heap_setCell _ _ _ _ hb).trans rfl⟩
  have h' : w.heap[R] = .cells #[.slice a len cap, .int .i64 k] 26 (0, 0) := by simpa [Array.getElem?_eq_getElem hlt] using hr
  show (w.heap.modify R _)[R]? = _
  rw [Array.getElem?_eq_getElem (by simpa using hlt), Array.getElem_modify_self, h']
  rfl

set_option maxHeartbeats 400000 in
theorem ask_any (R : Nat) (a : Option Addr) (len cap : Nat) (zs : List Int) (k : Nat) (hk : k < 100) (w : World)
    (hr : w.heap[R]? = some (.cells #[.slice a len cap, .int .i64 k] 26 (0, 0))) (hz : IsRow .i64 w a len cap zs) :
    Calls Try.prog 9 #[.pointer (some ⟨R, 0, none⟩)] w (AskEnd R a len cap (rowAt zs len k) k w) := by
  have c0 : w.cell? ⟨R, 0, none⟩ = some (.slice a len cap) := by simp [World.cell?, hr]
  have c1 : w.cell? ⟨R, 1, none⟩ = some (.int .i64 k) := by simp [World.cell?, hr]
  have f1 : w.frozen? ⟨R, 1, none⟩ = false := by simp [World.frozen?, hr]
  have HR := Lib.hid hr
  clear hr
  by_cases hlt : k < len
  · have hrow : Hid (rowAt zs len k = zs.getD k 0) := Lib.hid (by simp [rowAt, hlt])
    rcases hz with ⟨_, h0, _⟩ | ⟨x, rfl, hl, hm, hzl, hc, hw⟩
    · omega
    obtain ⟨b, off, rfl, hc2⟩ := ints_at hc (by omega)
    have hck := hc2 k (by omega)
    clear hc hc2 hw
    unfold maxLen at hm
    generalize zs.getD k 0 = v at hck hrow
    have h0k : (0 : Int) ≤ k := by omega
    have hlt' : (k : Int) < len := by omega
    clear hzl
    go_enter Try.func9, Try.ntmps9
    go_wp2_with fail
    go_quiet (fail)
    go_wp2_with fail
    go_quiet (fail)
    go_wp2
    go_ret
    rw [hrow.out]
    exact ⟨rfl, ask_end HR.out _⟩
  · have hrow : Hid (rowAt zs len k = 0) := Lib.hid (by simp [rowAt, hlt])
    have hl0 : (len : Int) ≤ k := by omega
    clear hz
    go_enter Try.func9, Try.ntmps9
    go_wp2_with fail
    go_quiet (fail)
    go_wp2
    go_ret
    rw [hrow.out]
    exact ⟨rfl, ask_end HR.out _⟩
end Go.Proofs.Ytfokbnbfaienjaa
