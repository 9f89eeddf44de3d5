/-
  PROVED: contracts of the reference's 'New', 'Many'. Conditions: each theorem's own premises.
-/
import Derived.Test.YtfcifdddmcnjcaaRActs
namespace Go.Proofs.Ytfcifdddmcnjcaa
open Go.RowKit
set_option linter.unusedVariables false

theorem Bool.info : (Try.prog.info? 4).map (fun i => (i.zero, i.size, i.bytes)) = some (some (.bool false), 1, 1) := by kernel_rfl
theorem Int.info : (Try.prog.info? 3).map (fun i => (i.zero, i.size, i.bytes)) = some (some (.int .i64 0), 1, 8) := by kernel_rfl

/-- A new row of truths. -/
theorem make_truths (n : Nat) (hn : n ≤ 64) : ∃ C : Array Value, C.size = n ∧ (∀ j, j < n → C[j]? = some (.bool false)) ∧ ∀ w : World,
    (Instr.makeSlice 28 (.int .i64 (n : Int)) (.int .i64 (n : Int))).run Try.prog w = .ok (.slice (some ⟨w.heap.size, 0, none⟩) n n) (w.alloc (.cells C 4)) := by
  obtain ⟨i0, hi, hz0, hz1, hz2⟩ := info_parts Bool.info
  refine ⟨madeCells (Value.bool false).cells (n * i0.size), by rw [size_madeCells, hz1]; omega, fun j hj => ?_, fun w => ?_⟩
  · rw [hz1]
    simp [madeCells, Value.cells, hj, Nat.mod_one]
  · have := run_make (P := Try.prog) w 28 4 i0 (.bool false) Try.underlying28 hi hz0 .i64 .i64 (n : Int) (n : Int) (by omega) (by omega) (by rw [hz2]; omega) (by omega)
    simpa using this
theorem make_ints (n : Nat) (hn : n ≤ 64) : ∃ C : Array Value, C.size = n ∧ (∀ j, j < n → C[j]? = some (.int .i64 0)) ∧ ∀ w : World,
    (Instr.makeSlice 40 (.int .i64 (n : Int)) (.int .i64 (n : Int))).run Try.prog w = .ok (.slice (some ⟨w.heap.size, 0, none⟩) n n) (w.alloc (.cells C 3)) := by
  obtain ⟨i0, hi, hz0, hz1, hz2⟩ := info_parts Int.info
  refine ⟨madeCells (Value.int .i64 0).cells (n * i0.size), by rw [size_madeCells, hz1]; omega, fun j hj => ?_, fun w => ?_⟩
  · rw [hz1]
    simp [madeCells, Value.cells, hj, Nat.mod_one]
  · have := run_make (P := Try.prog) w 40 3 i0 (.int .i64 0) Try.underlying40 hi hz0 .i64 .i64 (n : Int) (n : Int) (by omega) (by omega) (by rw [hz2]; omega) (by omega)
    simpa using this

def RNewEnd (w0 : World) (n : Nat) (e : Ending) (w : World) : Prop :=
  ∃ D T U P, e = .returned (.pointer (some ⟨D, 0, none⟩)) ∧ RefAt w w0.heap.size D T U P n (fun _ => zeroSlot) 0 ∧ Below w0.heap.size w0 w

theorem four (w : World) (o1 o2 o3 o4 : Obj) :
    ((((w.alloc o1).alloc o2).alloc o3).alloc o4).heap[w.heap.size]? = some o1 ∧ ((((w.alloc o1).alloc o2).alloc o3).alloc o4).heap[w.heap.size + 1]? = some o2 ∧
    ((((w.alloc o1).alloc o2).alloc o3).alloc o4).heap[w.heap.size + 1 + 1]? = some o3 ∧ ((((w.alloc o1).alloc o2).alloc o3).alloc o4).heap[w.heap.size + 1 + 1 + 1]? = some o4 := by
  refine ⟨?_, ?_, ?_, ?_⟩
  · rw [Below.heap_alloc _ _ _ (by simp; omega), Below.heap_alloc _ _ _ (by simp; omega), Below.heap_alloc _ _ _ (by simp)]
    exact newest w o1
  · rw [Below.heap_alloc _ _ _ (by simp), Below.heap_alloc _ _ _ (by simp)]
    have := newest (w.alloc o1) o2
    simpa using this
  · rw [Below.heap_alloc _ _ _ (by simp)]
    have := newest ((w.alloc o1).alloc o2) o3
    simpa using this
  · have := newest (((w.alloc o1).alloc o2).alloc o3) o4
    simpa using this
theorem below_four (w : World) (o1 o2 o3 o4 : Obj) : Below w.heap.size w ((((w.alloc o1).alloc o2).alloc o3).alloc o4) :=
  ((((Below.refl _ _).alloc (Nat.le_refl _) _).alloc (by simp) _).alloc (by simp; omega) _).alloc (by simp; omega) _

theorem rnew_end (w0 w : World) (n D T U P : Nat) (c c' p : Array Value) (hn : n ≤ 64) (hb : Below w0.heap.size w0 w) (hc : c.size = n) (hc2 : ∀ j, j < n → c[j]? = some (.bool false)) (hp : p.size = n) (hp2 : ∀ j, j < n → p[j]? = some (.int .i64 0))
    (h1 : w.heap[D]? = some (.cells #[.slice (some ⟨T, 0, none⟩) n n, .slice (some ⟨U, 0, none⟩) n n, .slice (some ⟨P, 0, none⟩) n n, .int .i64 0] 42 (0, 0)))
    (h2 : w.heap[T]? = some (.cells c 4 (0, 0))) (h3 : w.heap[U]? = some (.cells c 4 (0, 0))) (h4 : w.heap[P]? = some (.cells p 3 (0, 0)))
    (n1 : T ≠ U) (n2 : T ≠ P) (n3 : U ≠ P) (n4 : D ≠ T) (n5 : D ≠ U) (n6 : D ≠ P) (b1 : w0.heap.size ≤ D) (b2 : w0.heap.size ≤ T) (b3 : w0.heap.size ≤ U) (b4 : w0.heap.size ≤ P) :
    RNewEnd w0 n (.returned (.pointer (some ⟨D, 0, none⟩))) w :=
  ⟨D, T, U, P, rfl, ⟨h1, ⟨c, h2, hc, hc2⟩, ⟨c, h3, hc, hc2⟩, ⟨p, h4, hp, hp2⟩, n1, n2, n3, n4, n5, n6, b1, b2, b3, b4, hn, .inr rfl⟩, hb⟩

set_option maxHeartbeats 4000000 in
theorem rnew_any (n : Int) (w : World) : Calls Try.prog 13 #[.int .i64 n] w (RNewEnd w (clamp n)) := by
  have hcl := clamp_le n
  obtain ⟨c, hc1, hc2, hm⟩ := make_truths (clamp n) hcl
  obtain ⟨p, hp1, hp2, hpm⟩ := make_ints (clamp n) hcl
  have HC := Lib.hid hc1
  have HC2 := Lib.hid hc2
  have HP := Lib.hid hp1
  have HP2 := Lib.hid hp2
  have he : Hid ((clamp n : Int) = min (max n 0) 64) := Lib.hid (by unfold clamp; omega)
  clear hc1 hc2 hp1 hp2
  rw [he.out] at hm hpm
  by_cases h0 : n < 0
  · have e : min (max n 0) 64 = 0 := by omega
    rw [e] at hm hpm
    go_enter Try.func13, Try.ntmps13
    go_wp2
    go_region
    all_goals
      go_wp2
      go_ret
      exact rnew_end w _ _ _ _ _ _ c c p hcl (below_four w _ _ _ _).drew HC.out HC2.out HP.out HP2.out (four w _ _ _ _).2.2.2 (by first | exact (four w _ _ _ _).1 | exact (four w _ _ _ _).2.1 | exact (four w _ _ _ _).2.2.1) (by first | exact (four w _ _ _ _).1 | exact (four w _ _ _ _).2.1 | exact (four w _ _ _ _).2.2.1) (by first | exact (four w _ _ _ _).1 | exact (four w _ _ _ _).2.1 | exact (four w _ _ _ _).2.2.1) (by omega) (by omega) (by omega) (by omega) (by omega) (by omega) (by omega) (by omega) (by omega) (by omega)
  · by_cases h1 : n ≤ 64
    · have e : min (max n 0) 64 = n := by omega
      rw [e] at hm hpm
      go_enter Try.func13, Try.ntmps13
      go_wp2
      go_region
      all_goals
        go_wp2
        go_ret
        exact rnew_end w _ _ _ _ _ _ c c p hcl (below_four w _ _ _ _).drew HC.out HC2.out HP.out HP2.out (four w _ _ _ _).2.2.2 (by first | exact (four w _ _ _ _).1 | exact (four w _ _ _ _).2.1 | exact (four w _ _ _ _).2.2.1) (by first | exact (four w _ _ _ _).1 | exact (four w _ _ _ _).2.1 | exact (four w _ _ _ _).2.2.1) (by first | exact (four w _ _ _ _).1 | exact (four w _ _ _ _).2.1 | exact (four w _ _ _ _).2.2.1) (by omega) (by omega) (by omega) (by omega) (by omega) (by omega) (by omega) (by omega) (by omega) (by omega)
    · have e : min (max n 0) 64 = 64 := by omega
      rw [e] at hm hpm
      go_enter Try.func13, Try.ntmps13
      go_wp2
      go_region
      all_goals
        go_wp2
        go_ret
        exact rnew_end w _ _ _ _ _ _ c c p hcl (below_four w _ _ _ _).drew HC.out HC2.out HP.out HP2.out (four w _ _ _ _).2.2.2 (by first | exact (four w _ _ _ _).1 | exact (four w _ _ _ _).2.1 | exact (four w _ _ _ _).2.2.1) (by first | exact (four w _ _ _ _).1 | exact (four w _ _ _ _).2.1 | exact (four w _ _ _ _).2.2.1) (by first | exact (four w _ _ _ _).1 | exact (four w _ _ _ _).2.1 | exact (four w _ _ _ _).2.2.1) (by omega) (by omega) (by omega) (by omega) (by omega) (by omega) (by omega) (by omega) (by omega) (by omega)

def RManyLoop (W : World) (n : Nat) (f : Nat → Slot) (v3 v4 : Value) (w : World) : Prop := ∃ j : Nat, v4 = .int .i64 j ∧ j ≤ n ∧ v3 = .int .i64 (count f j) ∧ w = W

set_option maxHeartbeats 2000000 in
theorem rmany_any {w : World} {B D T U P n : Nat} {f : Nat → Slot} {h : Nat} (k : RefAt w B D T U P n f h) :
    Calls Try.prog 16 #[.pointer (some ⟨D, 0, none⟩)] w fun e w' => e = .returned (.int .i64 (count f n)) ∧ w = w' := by
  obtain ⟨y0, y1, y2, y3⟩ := k.cells
  have K := Lib.hid k
  have hle := k.le
  clear k y1 y2 y3
  go_enter Try.func16, Try.ntmps16
  go_wp2_with fail
  go_loopw [3, 4] (fun v3 v4 wr => RManyLoop w n f v3 v4 wr) (fun _ v4 _ => n - (intOf v4).toNat)
  case atStart => exact ⟨0, rfl, Nat.zero_le _, rfl, rfl⟩
  case round =>
    obtain ⟨j, rfl, hj, rfl, rfl⟩ := hrel
    have hcl := count_le f j
    by_cases hlt : j < n
    · have x0 := K.out.t.cell j hlt
      have hc : Hid (count f (j + 1) = count f j + (if (f j).t then 1 else 0)) := Lib.hid rfl
      cases ht : (f j).t with
      | true =>
        rw [ht] at x0
        go_wp2
        go_roundw
        case rel => exact ⟨j + 1, by go_num, by omega, by rw [hc.out, ht]; go_num, rfl⟩
        case measure => simp [intOf]; omega
      | false =>
        rw [ht] at x0
        go_wp2
        go_roundw
        case rel => exact ⟨j + 1, by go_num, by omega, by rw [hc.out, ht]; simp, rfl⟩
        case measure => simp [intOf]; omega
    · obtain rfl : j = n := by omega
      go_wp2
      go_ret
      all_goals exact ⟨rfl, rfl⟩

end Go.Proofs.Ytfcifdddmcnjcaa
