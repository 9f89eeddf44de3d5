/-
  PROVED: the memory of the reference's slots; contracts of its 'Has', 'Set', 'Use', 'Pin', 'Unpin', 'Free'. Conditions: each theorem's own premises.
-/
import Derived.Test.YtfcifdddmcnjcaaTake
namespace Go.Proofs.Ytfcifdddmcnjcaa
open Go.RowKit
set_option linter.unusedVariables false

/-- n cells of one kind in block g. -/
def CellsF (w : World) (g : Nat) (ty : TypeId) (v : Nat → Value) (n : Nat) : Prop := ∃ c : Array Value, w.heap[g]? = some (.cells c ty (0, 0)) ∧ c.size = n ∧ ∀ j, j < n → c[j]? = some (v j)
theorem CellsF.cell {w : World} {g n : Nat} {ty : TypeId} {v : Nat → Value} (h : CellsF w g ty v n) (j : Nat) (hj : j < n) : w.cell? ⟨g, j, none⟩ = some (v j) := by
  obtain ⟨c, h1, h2, h3⟩ := h
  simp [World.cell?, h1, h3 j hj]
theorem CellsF.frozen {w : World} {g n : Nat} {ty : TypeId} {v : Nat → Value} (h : CellsF w g ty v n) (j : Nat) : w.frozen? ⟨g, j, none⟩ = false := by
  obtain ⟨c, h1, h2, h3⟩ := h
  simp [World.frozen?, h1]
theorem CellsF.keep {w w' : World} {g n : Nat} {ty : TypeId} {v : Nat → Value} (h : CellsF w g ty v n) (hk : w'.heap[g]? = w.heap[g]?) : CellsF w' g ty v n := by
  obtain ⟨c, h1, h2, h3⟩ := h
  exact ⟨c, hk.trans h1, h2, h3⟩
theorem CellsF.lt {w : World} {g n : Nat} {ty : TypeId} {v : Nat → Value} (h : CellsF w g ty v n) : g < w.heap.size := by
  obtain ⟨c, h1, _⟩ := h
  exact lt_of_block' h1
theorem CellsF.congr {w : World} {g n : Nat} {ty : TypeId} {v v' : Nat → Value} (h : CellsF w g ty v n) (e : ∀ j, j < n → v' j = v j) : CellsF w g ty v' n := by
  obtain ⟨c, h1, h2, h3⟩ := h
  exact ⟨c, h1, h2, fun j hj => by rw [e j hj]; exact h3 j hj⟩
theorem CellsF.set {w : World} {g n : Nat} {ty : TypeId} {v : Nat → Value} (h : CellsF w g ty v n) (k : Nat) (hk : k < n) (u : Value) : CellsF (w.setCell ⟨g, k, none⟩ u) g ty (fun j => if j = k then u else v j) n := by
  obtain ⟨c, h1, h2, h3⟩ := h
  refine ⟨_, heap_setCell w g k c ty u h1, by simp [h2], fun j hj => ?_⟩
  by_cases e : j = k
  · subst e; simp [h2, hj]
  · simp only [Array.getElem?_setIfInBounds_ne (Ne.symm e), if_neg e]; exact h3 j hj
theorem CellsF.other {w : World} {g g' n : Nat} {ty : TypeId} {v : Nat → Value} (h : CellsF w g ty v n) (hne : g ≠ g') (k : Nat) (u : Value) : CellsF (w.setCell ⟨g', k, none⟩ u) g ty v n :=
  h.keep (Below.heap_setCell _ _ _ _ hne)

/-- The reference's slots: its own block D, the blocks T, U, P. -/
structure RefAt (w : World) (B D T U P n : Nat) (f : Nat → Slot) (h : Nat) : Prop where
  c : w.heap[D]? = some (.cells #[.slice (some ⟨T, 0, none⟩) n n, .slice (some ⟨U, 0, none⟩) n n, .slice (some ⟨P, 0, none⟩) n n, .int .i64 h] 42 (0, 0))
  t : CellsF w T 4 (fun j => .bool (f j).t) n
  u : CellsF w U 4 (fun j => .bool (f j).u) n
  p : CellsF w P 3 (fun j => .int .i64 (f j).p) n
  tu : T ≠ U
  tp : T ≠ P
  up : U ≠ P
  dt : D ≠ T
  du : D ≠ U
  dp : D ≠ P
  bd : B ≤ D
  bt : B ≤ T
  bu : B ≤ U
  bp : B ≤ P
  le : n ≤ 64
  hand : h < n ∨ h = 0

theorem RefAt.cells {w : World} {B D T U P n : Nat} {f : Nat → Slot} {h : Nat} (k : RefAt w B D T U P n f h) :
    w.cell? ⟨D, 0, none⟩ = some (.slice (some ⟨T, 0, none⟩) n n) ∧ w.cell? ⟨D, 1, none⟩ = some (.slice (some ⟨U, 0, none⟩) n n) ∧ w.cell? ⟨D, 2, none⟩ = some (.slice (some ⟨P, 0, none⟩) n n) ∧ w.cell? ⟨D, 3, none⟩ = some (.int .i64 h) := by
  have := k.c
  simp [World.cell?, this]
theorem RefAt.frozenD {w : World} {B D T U P n : Nat} {f : Nat → Slot} {h : Nat} (k : RefAt w B D T U P n f h) (i : Nat) : w.frozen? ⟨D, i, none⟩ = false := by
  simp [World.frozen?, k.c]
theorem RefAt.only {w w' : World} {B D T U P n : Nat} {f : Nat → Slot} {h : Nat} {fp : List Nat} (k : RefAt w B D T U P n f h) (ho : Only fp w w') (h1 : D ∉ fp) (h2 : T ∉ fp) (h3 : U ∉ fp) (h4 : P ∉ fp) : RefAt w' B D T U P n f h :=
  ⟨(ho.block D (lt_of_block' k.c) h1).trans k.c, k.t.keep (ho.block T k.t.lt h2), k.u.keep (ho.block U k.u.lt h3), k.p.keep (ho.block P k.p.lt h4), k.tu, k.tp, k.up, k.dt, k.du, k.dp, k.bd, k.bt, k.bu, k.bp, k.le, k.hand⟩
theorem RefAt.keep {w w' : World} {B D T U P n : Nat} {f : Nat → Slot} {h : Nat} (k : RefAt w B D T U P n f h) (hw : w'.heap = w.heap) : RefAt w' B D T U P n f h :=
  ⟨hw ▸ k.c, k.t.keep (by rw [hw]), k.u.keep (by rw [hw]), k.p.keep (by rw [hw]), k.tu, k.tp, k.up, k.dt, k.du, k.dp, k.bd, k.bt, k.bu, k.bp, k.le, k.hand⟩
theorem RefAt.congr {w : World} {B D T U P n : Nat} {f f' : Nat → Slot} {h : Nat} (k : RefAt w B D T U P n f h) (e : ∀ j, j < n → f' j = f j) : RefAt w B D T U P n f' h :=
  ⟨k.c, k.t.congr (fun j hj => by rw [e j hj]), k.u.congr (fun j hj => by rw [e j hj]), k.p.congr (fun j hj => by rw [e j hj]), k.tu, k.tp, k.up, k.dt, k.du, k.dp, k.bd, k.bt, k.bu, k.bp, k.le, k.hand⟩
theorem RefAt.setT {w : World} {B D T U P n : Nat} {f : Nat → Slot} {h : Nat} (k : RefAt w B D T U P n f h) (i : Nat) (hi : i < n) (b : Bool) : RefAt (w.setCell ⟨T, i, none⟩ (.bool b)) B D T U P n (put f i ⟨b, (f i).u, (f i).p⟩) h :=
  ⟨(Below.heap_setCell _ _ _ _ k.dt).trans k.c, (k.t.set i hi (.bool b)).congr (fun j _ => by unfold put; by_cases e : j = i <;> simp [e]),
    (k.u.other k.tu.symm i _).congr (fun j _ => by unfold put; by_cases e : j = i <;> simp [e]), (k.p.other k.tp.symm i _).congr (fun j _ => by unfold put; by_cases e : j = i <;> simp [e]), k.tu, k.tp, k.up, k.dt, k.du, k.dp, k.bd, k.bt, k.bu, k.bp, k.le, k.hand⟩
theorem RefAt.setU {w : World} {B D T U P n : Nat} {f : Nat → Slot} {h : Nat} (k : RefAt w B D T U P n f h) (i : Nat) (hi : i < n) (b : Bool) : RefAt (w.setCell ⟨U, i, none⟩ (.bool b)) B D T U P n (put f i ⟨(f i).t, b, (f i).p⟩) h :=
  ⟨(Below.heap_setCell _ _ _ _ k.du).trans k.c, (k.t.other k.tu i _).congr (fun j _ => by unfold put; by_cases e : j = i <;> simp [e]),
    (k.u.set i hi (.bool b)).congr (fun j _ => by unfold put; by_cases e : j = i <;> simp [e]), (k.p.other k.up.symm i _).congr (fun j _ => by unfold put; by_cases e : j = i <;> simp [e]), k.tu, k.tp, k.up, k.dt, k.du, k.dp, k.bd, k.bt, k.bu, k.bp, k.le, k.hand⟩
theorem RefAt.setP {w : World} {B D T U P n : Nat} {f : Nat → Slot} {h : Nat} (k : RefAt w B D T U P n f h) (i : Nat) (hi : i < n) (p : Int) : RefAt (w.setCell ⟨P, i, none⟩ (.int .i64 p)) B D T U P n (put f i ⟨(f i).t, (f i).u, p⟩) h :=
  ⟨(Below.heap_setCell _ _ _ _ k.dp).trans k.c, (k.t.other k.tp i _).congr (fun j _ => by unfold put; by_cases e : j = i <;> simp [e]),
    (k.u.other k.up i _).congr (fun j _ => by unfold put; by_cases e : j = i <;> simp [e]), (k.p.set i hi (.int .i64 p)).congr (fun j _ => by unfold put; by_cases e : j = i <;> simp [e]), k.tu, k.tp, k.up, k.dt, k.du, k.dp, k.bd, k.bt, k.bu, k.bp, k.le, k.hand⟩
theorem RefAt.setH {w : World} {B D T U P n : Nat} {f : Nat → Slot} {h h' : Nat} (k : RefAt w B D T U P n f h) (hh : h' < n) : RefAt (w.setCell ⟨D, 3, none⟩ (.int .i64 h')) B D T U P n f h' :=
  ⟨by rw [heap_setCell w D 3 _ 42 _ k.c]; rfl, k.t.other k.dt.symm _ _, k.u.other k.du.symm _ _, k.p.other k.dp.symm _ _, k.tu, k.tp, k.up, k.dt, k.du, k.dp, k.bd, k.bt, k.bu, k.bp, k.le, .inl hh⟩

theorem rhas_any {w : World} {B D T U P n : Nat} {f : Nat → Slot} {h : Nat} (k : RefAt w B D T U P n f h) (i : Int) :
    Calls Try.prog 18 #[.pointer (some ⟨D, 0, none⟩), .int .i64 i] w fun e w' => e = .returned (.bool (has n f i)) ∧ w = w' := by
  obtain ⟨y0, y1, y2, y3⟩ := k.cells
  have hle := k.le
  rcases in_or_out n i with ⟨j, hj, rfl⟩ | ho
  · have x0 := k.t.cell j hj
    have hv : has n f (j : Int) = (f j).t := by simp [has, within_in hj]
    rw [hv]
    clear k hv
    generalize (f j).t = b at *
    have hj0 : (0 : Int) ≤ j := by omega
    have hj1 : (j : Int) < n := by omega
    go_enter Try.func18, Try.ntmps18
    go_wp2
    go_ret
    all_goals exact ⟨rfl, rfl⟩
  · have hv : has n f i = false := by simp [has, within_out ho]
    rw [hv]
    clear k hv
    by_cases h0 : i < 0
    · have h1 : ¬ 0 ≤ i := by omega
      go_enter Try.func18, Try.ntmps18
      go_wp2
      go_ret
      all_goals exact ⟨rfl, rfl⟩
    · have h1 : 0 ≤ i := by omega
      have h2 : ¬ i < n := by omega
      go_enter Try.func18, Try.ntmps18
      go_wp2
      go_ret
      all_goals exact ⟨rfl, rfl⟩

end Go.Proofs.Ytfcifdddmcnjcaa
