/-
  PROVED: what stays of memory; a clock's slots in memory: how they are read, what a store into one turns. Conditions: each theorem's own premises.
-/
import Derived.Test.YtfcifdddmcnjcaaRows
import Derived.WalkKit
import Derived.WalkSpells
import Derived.WalkLawsBesides
import Derived.Laws.MakeOwn
import Derived.Laws.IdiomRangeMap
import Derived.Lib.Hide
import Derived.BigQuiet
namespace Go.Proofs.Ytfcifdddmcnjcaa
open Go.RowKit
set_option linter.unusedVariables false

/-! ### What stays -/

/-- Of what was there, nothing but the blocks of fp has turned. -/
structure Only (fp : List Nat) (w w' : World) : Prop where
  os : w'.os = w.os
  tape : w'.tape = w.tape
  output : w'.output = w.output
  size : w.heap.size ≤ w'.heap.size
  block : ∀ b, b < w.heap.size → b ∉ fp → w'.heap[b]? = w.heap[b]?

theorem Only.refl (fp : List Nat) (w : World) : Only fp w w := ⟨rfl, rfl, rfl, Nat.le_refl _, fun _ _ _ => rfl⟩
theorem Only.trans {fp fp' : List Nat} {a b c : World} (h : Only fp a b) (k : Only fp' b c) (hs : ∀ x ∈ fp', x ∈ fp ∨ a.heap.size ≤ x) : Only fp a c :=
  ⟨k.os.trans h.os, k.tape.trans h.tape, k.output.trans h.output, Nat.le_trans h.size k.size, fun i hi hf => (k.block i (Nat.lt_of_lt_of_le hi h.size) (fun hm => by
    rcases hs i hm with h1 | h1
    · exact hf h1
    · omega)).trans (h.block i hi hf)⟩
theorem Only.of_below {B : Nat} {fp : List Nat} {w w' : World} (h : Below B w w') (hB : w.heap.size ≤ B) : Only fp w w' := ⟨h.os, h.tape, h.output, h.size, fun b hb _ => h.block b (by omega)⟩
theorem Only.alloc {fp : List Nat} {a w : World} (h : Only fp a w) (o : Obj) : Only fp a (w.alloc o) :=
  h.trans (fp' := []) ⟨rfl, rfl, rfl, by simp, fun k hk _ => Below.heap_alloc _ _ _ hk⟩ (fun _ hx => by cases hx)
theorem Only.drew {fp : List Nat} {a w : World} (h : Only fp a w) : Only fp a w.drew := ⟨h.os, h.tape, h.output, h.size, h.block⟩
theorem Only.drewN {fp : List Nat} {a w : World} (h : Only fp a w) (n : Nat) : Only fp a (w.drewN n) := ⟨h.os, h.tape, h.output, h.size, h.block⟩
theorem Only.setCell {fp : List Nat} {a w : World} (h : Only fp a w) {p : Addr} (hp : p.block ∈ fp ∨ a.heap.size ≤ p.block) (u : Value) : Only fp a (w.setCell p u) :=
  h.trans (fp' := [p.block]) ⟨rfl, rfl, rfl, by simp [World.setCell], fun k hk hf => Below.heap_setCell _ _ _ _ (by simpa using hf)⟩ (fun x hx => by simp at hx; subst hx; exact hp)
theorem Only.grown {fp : List Nat} {a w w' : World} {row : Option Nat} (h : Only fp a w) (hg : w.grownBy w' row) (hr : ∀ k, row = some k → k ∈ fp ∨ a.heap.size ≤ k) : Only fp a w' :=
  h.trans (fp' := row.toList) ⟨hg.os, hg.tape, hg.output, hg.size, fun k hk hf => hg.block k hk (fun e => hf (by simp [← e]))⟩ (fun x hx => hr x (by simpa using hx))
theorem Only.mono {fp fp' : List Nat} {a w : World} (h : Only fp a w) (hs : ∀ x ∈ fp, x ∈ fp' ∨ a.heap.size ≤ x) : Only fp' a w :=
  ⟨h.os, h.tape, h.output, h.size, fun b hb hf => h.block b hb (fun hm => by
    rcases hs b hm with h1 | h1
    · exact hf h1
    · omega)⟩
theorem Only.below {fp : List Nat} {w w' : World} (h : Only fp w w') {B : Nat} (hs : ∀ x ∈ fp, B ≤ x) (hB : B ≤ w.heap.size) : Below B w w' :=
  ⟨h.os, h.tape, h.output, h.size, fun b hb => h.block b (by omega) (fun hm => by have := hs b hm; omega)⟩
theorem Only.cell {fp : List Nat} {w w' : World} (h : Only fp w w') {p : Addr} {u : Value} (hc : w.cell? p = some u) (hf : p.block ∉ fp) : w'.cell? p = some u :=
  (World.cell?_of_block (h.block p.block (World.block_lt_of_cell? w p hc) hf)).trans hc

theorem newest (w : World) (o : Obj) : (w.alloc o).heap[w.heap.size]? = some o := heap_alloc_new w o


theorem lt_of_block' {w : World} {k : Nat} {o : Obj} (h : w.heap[k]? = some o) : k < w.heap.size := (Array.getElem?_eq_some_iff.1 h).1

/-! ### Slots -/
structure Slot where
  t : Bool
  u : Bool
  p : Int
def zeroSlot : Slot := ⟨false, false, 0⟩

/-- n slots in block A. -/
def SlotsF (w : World) (A : Nat) (f : Nat → Slot) (n : Nat) : Prop :=
  ∃ c : Array Value, w.heap[A]? = some (.cells c 49 (0, 0)) ∧ c.size = n * 3 ∧ ∀ j, j < n → c[j * 3]? = some (.bool (f j).t) ∧ c[j * 3 + 1]? = some (.bool (f j).u) ∧ c[j * 3 + 2]? = some (.int .i64 (f j).p)

theorem SlotsF.lt {w : World} {A n : Nat} {f : Nat → Slot} (h : SlotsF w A f n) : A < w.heap.size := by
  obtain ⟨c, h1, _⟩ := h
  exact lt_of_block' h1
theorem SlotsF.cell {w : World} {A n : Nat} {f : Nat → Slot} (h : SlotsF w A f n) (j : Nat) (hj : j < n) :
    w.cell? ⟨A, j * 3, none⟩ = some (.bool (f j).t) ∧ w.cell? ⟨A, j * 3 + 1, none⟩ = some (.bool (f j).u) ∧ w.cell? ⟨A, j * 3 + 2, none⟩ = some (.int .i64 (f j).p) := by
  obtain ⟨c, h1, h2, h3⟩ := h
  obtain ⟨e0, e1, e2⟩ := h3 j hj
  simp [World.cell?, h1, e0, e1, e2]
theorem SlotsF.frozen {w : World} {A n : Nat} {f : Nat → Slot} (h : SlotsF w A f n) (k : Nat) : w.frozen? ⟨A, k, none⟩ = false := by
  obtain ⟨c, h1, _⟩ := h
  simp [World.frozen?, h1]
theorem SlotsF.keep {w w' : World} {A n : Nat} {f : Nat → Slot} (h : SlotsF w A f n) (hk : w'.heap[A]? = w.heap[A]?) : SlotsF w' A f n := by
  obtain ⟨c, h1, h2, h3⟩ := h
  exact ⟨c, hk.trans h1, h2, h3⟩
theorem SlotsF.congr {w : World} {A n : Nat} {f f' : Nat → Slot} (h : SlotsF w A f n) (e : ∀ j, j < n → f' j = f j) : SlotsF w A f' n := by
  obtain ⟨c, h1, h2, h3⟩ := h
  exact ⟨c, h1, h2, fun j hj => by rw [e j hj]; exact h3 j hj⟩

/-- The slots with one turned. -/
def put (f : Nat → Slot) (i : Nat) (x : Slot) : Nat → Slot := fun j => if j = i then x else f j

theorem heap_setCell (w : World) (A k : Nat) (c : Array Value) (e : TypeId) (u : Value) (h : w.heap[A]? = some (.cells c e (0, 0))) : (w.setCell ⟨A, k, none⟩ u).heap[A]? = some (.cells (c.setIfInBounds k u) e (0, 0)) := by
  show (w.heap.modify A _)[A]? = _
  rw [Array.getElem?_modify, if_pos rfl, h]
  rfl

theorem SlotsF.setT {w : World} {A n : Nat} {f : Nat → Slot} (h : SlotsF w A f n) (i : Nat) (hi : i < n) (b : Bool) : SlotsF (w.setCell ⟨A, i * 3, none⟩ (.bool b)) A (put f i ⟨b, (f i).u, (f i).p⟩) n := by
  obtain ⟨c, h1, h2, h3⟩ := h
  refine ⟨_, heap_setCell w A _ c 49 _ h1, by simp [h2], fun j hj => ?_⟩
  obtain ⟨e0, e1, e2⟩ := h3 j hj
  unfold put
  by_cases e : j = i
  · subst e
    rw [if_pos rfl, Array.getElem?_setIfInBounds_self_of_lt (by omega), Array.getElem?_setIfInBounds_ne (by omega), Array.getElem?_setIfInBounds_ne (by omega)]
    exact ⟨rfl, e1, e2⟩
  · rw [if_neg e, Array.getElem?_setIfInBounds_ne (by omega), Array.getElem?_setIfInBounds_ne (by omega), Array.getElem?_setIfInBounds_ne (by omega)]
    exact ⟨e0, e1, e2⟩
theorem SlotsF.setU {w : World} {A n : Nat} {f : Nat → Slot} (h : SlotsF w A f n) (i : Nat) (hi : i < n) (b : Bool) : SlotsF (w.setCell ⟨A, i * 3 + 1, none⟩ (.bool b)) A (put f i ⟨(f i).t, b, (f i).p⟩) n := by
  obtain ⟨c, h1, h2, h3⟩ := h
  refine ⟨_, heap_setCell w A _ c 49 _ h1, by simp [h2], fun j hj => ?_⟩
  obtain ⟨e0, e1, e2⟩ := h3 j hj
  unfold put
  by_cases e : j = i
  · subst e
    rw [if_pos rfl, Array.getElem?_setIfInBounds_self_of_lt (by omega), Array.getElem?_setIfInBounds_ne (by omega), Array.getElem?_setIfInBounds_ne (by omega)]
    exact ⟨e0, rfl, e2⟩
  · rw [if_neg e, Array.getElem?_setIfInBounds_ne (by omega), Array.getElem?_setIfInBounds_ne (by omega), Array.getElem?_setIfInBounds_ne (by omega)]
    exact ⟨e0, e1, e2⟩
theorem SlotsF.setP {w : World} {A n : Nat} {f : Nat → Slot} (h : SlotsF w A f n) (i : Nat) (hi : i < n) (p : Int) : SlotsF (w.setCell ⟨A, i * 3 + 2, none⟩ (.int .i64 p)) A (put f i ⟨(f i).t, (f i).u, p⟩) n := by
  obtain ⟨c, h1, h2, h3⟩ := h
  refine ⟨_, heap_setCell w A _ c 49 _ h1, by simp [h2], fun j hj => ?_⟩
  obtain ⟨e0, e1, e2⟩ := h3 j hj
  unfold put
  by_cases e : j = i
  · subst e
    rw [if_pos rfl, Array.getElem?_setIfInBounds_self_of_lt (by omega), Array.getElem?_setIfInBounds_ne (by omega), Array.getElem?_setIfInBounds_ne (by omega)]
    exact ⟨e0, e1, rfl⟩
  · rw [if_neg e, Array.getElem?_setIfInBounds_ne (by omega), Array.getElem?_setIfInBounds_ne (by omega), Array.getElem?_setIfInBounds_ne (by omega)]
    exact ⟨e0, e1, e2⟩

/-- A clock: its own block C, its slots' block A; n slots f; the hand h. -/
structure ClockAt (w : World) (B C A n : Nat) (f : Nat → Slot) (h : Nat) : Prop where
  c : w.heap[C]? = some (.cells #[.slice (some ⟨A, 0, none⟩) n n, .int .i64 h] 46 (0, 0))
  slots : SlotsF w A f n
  ne : A ≠ C
  bc : B ≤ C
  ba : B ≤ A
  le : n ≤ 64
  hand : h < n ∨ h = 0

theorem ClockAt.only {w w' : World} {B C A n : Nat} {f : Nat → Slot} {h : Nat} {fp : List Nat} (k : ClockAt w B C A n f h) (ho : Only fp w w') (hc : C ∉ fp) (ha : A ∉ fp) : ClockAt w' B C A n f h :=
  ⟨(ho.block C (lt_of_block' k.c) hc).trans k.c, k.slots.keep (ho.block A k.slots.lt ha), k.ne, k.bc, k.ba, k.le, k.hand⟩

end Go.Proofs.Ytfcifdddmcnjcaa
