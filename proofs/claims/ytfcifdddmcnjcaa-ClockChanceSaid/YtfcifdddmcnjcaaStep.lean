/-
  PROVED: contracts of 'do'. Conditions: each theorem's own premises.
-/
import Derived.Test.YtfcifdddmcnjcaaDo
namespace Go.Proofs.Ytfcifdddmcnjcaa
open Go.RowKit
set_option linter.unusedVariables false

def stepS (n : Nat) (d i : Int) (f : Nat → Slot) : Nat → Slot :=
  if d = 1 then useS n f i else if d = 2 then pinS n f i else if d = 3 then unpinS n f i else if d = 4 then freeS n f i else if d = 5 then setS n f i else f

/-- All pins of the first n are at most m. -/
def PinsLe (n m : Nat) (f : Nat → Slot) : Prop := ∀ j, j < n → 0 ≤ (f j).p ∧ (f j).p ≤ m

def DoEnd (w0 : World) (B C A n : Nat) (f : Nat → Slot) (h B' D T U P : Nat) (g : Nat → Slot) (h2 : Nat) (e : Ending) (w : World) : Prop :=
  e = .returned (.bool true) ∧ ClockAt w B C A n f h ∧ RefAt w B' D T U P n g h2 ∧ Only [C, A, D, T, U, P] w0 w

theorem RefAt.apart {w w' : World} {B' D T U P n : Nat} {g : Nat → Slot} {h2 : Nat} {fp : List Nat} (r : RefAt w B' D T U P n g h2) (o : Only fp w w') (ha : ∀ x ∈ fp, x < B') : RefAt w' B' D T U P n g h2 :=
  r.only o (fun h => by have := ha _ h; have := r.bd; omega) (fun h => by have := ha _ h; have := r.bt; omega) (fun h => by have := ha _ h; have := r.bu; omega) (fun h => by have := ha _ h; have := r.bp; omega)
theorem ClockAt.apart {w w' : World} {B C A n : Nat} {f : Nat → Slot} {h : Nat} {B' D T U P : Nat} {g : Nat → Slot} {h2 : Nat} {w2 : World} (k : ClockAt w B C A n f h) (r : RefAt w2 B' D T U P n g h2) (o : Only [D, T, U, P] w w') (hc : C < B') (ha : A < B') : ClockAt w' B C A n f h := by
  have := r.bd
  have := r.bt
  have := r.bu
  have := r.bp
  exact k.only o (by simp; omega) (by simp; omega)

set_option maxHeartbeats 1000000 in
theorem do_1 {w : World} {B C A n : Nat} {f : Nat → Slot} {h B' D T U P : Nat} {g : Nat → Slot} {h2 : Nat} (k : ClockAt w B C A n f h) (r : RefAt w B' D T U P n g h2) (hc : C < B') (ha : A < B') {m : Nat} (hm : m ≤ 1000) (hf : PinsLe n m f) (hg : PinsLe n m g) (i : Int) :
    Calls Try.prog 12 #[.pointer (some ⟨C, 0, none⟩), .pointer (some ⟨D, 0, none⟩), .agg #[.int .i64 1, .int .i64 i]] w (DoEnd w B C A n (useS n f i) h B' D T U P (useS n g i) h2) := by
  have HF : Hid (∀ j, j < n → 0 ≤ (f j).p ∧ (f j).p ≤ 1000) := Lib.hid (fun j hj => by have := hf j hj; omega)
  have HG : Hid (∀ j, j < n → 0 ≤ (g j).p ∧ (g j).p ≤ 1000) := Lib.hid (fun j hj => by have := hg j hj; omega)
  have O0 := Lib.hid ((Only.refl [] w).alloc (.cells #[.int .i64 1, .int .i64 i] 33))
  have K0 := Lib.hid (k.only O0.out (by simp) (by simp))
  have R0 := Lib.hid (r.apart O0.out (by simp))
  have X0 := Lib.hid (newest w (.cells #[.int .i64 1, .int .i64 i] 33))
  have hcs := lt_of_block' k.c
  have has' := k.slots.lt
  have hrd := lt_of_block' r.c
  have hrt := r.t.lt
  have hru := r.u.lt
  have hrp := r.p.lt
  clear k r hf hg
  go_enter Try.func12, Try.ntmps12
  have C1 := Lib.hid (use_any K0.out i)
  go_wp2_with fail
  refine C1.out.mono ?_
  rintro e w1 ⟨rfl, k, o⟩
  have K1 := Lib.hid k
  have O1 := Lib.hid o
  have R1 := Lib.hid (R0.out.apart o (by simp; omega))
  have x1 : w1.cell? ⟨w.heap.size, 1, none⟩ = some (.int .i64 i) := by
    have := (o.block w.heap.size (by simp) (by simp; omega)).trans X0.out
    simp [World.cell?, this]
  clear k o C1
  have C2 := Lib.hid (ruse_any R1.out i)
  go_wp2_with fail
  refine C2.out.mono ?_
  rintro e w2 ⟨rfl, r, o⟩
  have R2 := Lib.hid r
  have K2 := Lib.hid (K1.out.apart R1.out o hc ha)
  have O2 := Lib.hid ((((Only.refl [C, A, D, T, U, P] w).alloc (.cells #[.int .i64 1, .int .i64 i] 33)).trans O1.out (fun x hx => .inl (by simp at hx; subst hx; simp))).trans o (fun x hx => .inl (by simp at hx; rcases hx with rfl | rfl | rfl | rfl <;> simp)))
  clear r o C2
  go_wp2
  go_ret
  exact ⟨rfl, K2.out, R2.out, O2.out⟩

set_option maxHeartbeats 1000000 in
theorem do_2 {w : World} {B C A n : Nat} {f : Nat → Slot} {h B' D T U P : Nat} {g : Nat → Slot} {h2 : Nat} (k : ClockAt w B C A n f h) (r : RefAt w B' D T U P n g h2) (hc : C < B') (ha : A < B') {m : Nat} (hm : m ≤ 1000) (hf : PinsLe n m f) (hg : PinsLe n m g) (i : Int) :
    Calls Try.prog 12 #[.pointer (some ⟨C, 0, none⟩), .pointer (some ⟨D, 0, none⟩), .agg #[.int .i64 2, .int .i64 i]] w (DoEnd w B C A n (pinS n f i) h B' D T U P (pinS n g i) h2) := by
  have HF : Hid (∀ j, j < n → 0 ≤ (f j).p ∧ (f j).p ≤ 1000) := Lib.hid (fun j hj => by have := hf j hj; omega)
  have HG : Hid (∀ j, j < n → 0 ≤ (g j).p ∧ (g j).p ≤ 1000) := Lib.hid (fun j hj => by have := hg j hj; omega)
  have O0 := Lib.hid ((Only.refl [] w).alloc (.cells #[.int .i64 2, .int .i64 i] 33))
  have K0 := Lib.hid (k.only O0.out (by simp) (by simp))
  have R0 := Lib.hid (r.apart O0.out (by simp))
  have X0 := Lib.hid (newest w (.cells #[.int .i64 2, .int .i64 i] 33))
  have hcs := lt_of_block' k.c
  have has' := k.slots.lt
  have hrd := lt_of_block' r.c
  have hrt := r.t.lt
  have hru := r.u.lt
  have hrp := r.p.lt
  clear k r hf hg
  go_enter Try.func12, Try.ntmps12
  have C1 := Lib.hid (pin_any K0.out i HF.out)
  go_wp2_with fail
  refine C1.out.mono ?_
  rintro e w1 ⟨rfl, k, o⟩
  have K1 := Lib.hid k
  have O1 := Lib.hid o
  have R1 := Lib.hid (R0.out.apart o (by simp; omega))
  have x1 : w1.cell? ⟨w.heap.size, 1, none⟩ = some (.int .i64 i) := by
    have := (o.block w.heap.size (by simp) (by simp; omega)).trans X0.out
    simp [World.cell?, this]
  clear k o C1
  have C2 := Lib.hid (rpin_any R1.out i HG.out)
  go_wp2_with fail
  refine C2.out.mono ?_
  rintro e w2 ⟨rfl, r, o⟩
  have R2 := Lib.hid r
  have K2 := Lib.hid (K1.out.apart R1.out o hc ha)
  have O2 := Lib.hid ((((Only.refl [C, A, D, T, U, P] w).alloc (.cells #[.int .i64 2, .int .i64 i] 33)).trans O1.out (fun x hx => .inl (by simp at hx; subst hx; simp))).trans o (fun x hx => .inl (by simp at hx; rcases hx with rfl | rfl | rfl | rfl <;> simp)))
  clear r o C2
  go_wp2
  go_ret
  exact ⟨rfl, K2.out, R2.out, O2.out⟩

set_option maxHeartbeats 1000000 in
theorem do_3 {w : World} {B C A n : Nat} {f : Nat → Slot} {h B' D T U P : Nat} {g : Nat → Slot} {h2 : Nat} (k : ClockAt w B C A n f h) (r : RefAt w B' D T U P n g h2) (hc : C < B') (ha : A < B') {m : Nat} (hm : m ≤ 1000) (hf : PinsLe n m f) (hg : PinsLe n m g) (i : Int) :
    Calls Try.prog 12 #[.pointer (some ⟨C, 0, none⟩), .pointer (some ⟨D, 0, none⟩), .agg #[.int .i64 3, .int .i64 i]] w (DoEnd w B C A n (unpinS n f i) h B' D T U P (unpinS n g i) h2) := by
  have HF : Hid (∀ j, j < n → 0 ≤ (f j).p ∧ (f j).p ≤ 1000) := Lib.hid (fun j hj => by have := hf j hj; omega)
  have HG : Hid (∀ j, j < n → 0 ≤ (g j).p ∧ (g j).p ≤ 1000) := Lib.hid (fun j hj => by have := hg j hj; omega)
  have O0 := Lib.hid ((Only.refl [] w).alloc (.cells #[.int .i64 3, .int .i64 i] 33))
  have K0 := Lib.hid (k.only O0.out (by simp) (by simp))
  have R0 := Lib.hid (r.apart O0.out (by simp))
  have X0 := Lib.hid (newest w (.cells #[.int .i64 3, .int .i64 i] 33))
  have hcs := lt_of_block' k.c
  have has' := k.slots.lt
  have hrd := lt_of_block' r.c
  have hrt := r.t.lt
  have hru := r.u.lt
  have hrp := r.p.lt
  clear k r hf hg
  go_enter Try.func12, Try.ntmps12
  have C1 := Lib.hid (unpin_any K0.out i HF.out)
  go_wp2_with fail
  refine C1.out.mono ?_
  rintro e w1 ⟨rfl, k, o⟩
  have K1 := Lib.hid k
  have O1 := Lib.hid o
  have R1 := Lib.hid (R0.out.apart o (by simp; omega))
  have x1 : w1.cell? ⟨w.heap.size, 1, none⟩ = some (.int .i64 i) := by
    have := (o.block w.heap.size (by simp) (by simp; omega)).trans X0.out
    simp [World.cell?, this]
  clear k o C1
  have C2 := Lib.hid (runpin_any R1.out i HG.out)
  go_wp2_with fail
  refine C2.out.mono ?_
  rintro e w2 ⟨rfl, r, o⟩
  have R2 := Lib.hid r
  have K2 := Lib.hid (K1.out.apart R1.out o hc ha)
  have O2 := Lib.hid ((((Only.refl [C, A, D, T, U, P] w).alloc (.cells #[.int .i64 3, .int .i64 i] 33)).trans O1.out (fun x hx => .inl (by simp at hx; subst hx; simp))).trans o (fun x hx => .inl (by simp at hx; rcases hx with rfl | rfl | rfl | rfl <;> simp)))
  clear r o C2
  go_wp2
  go_ret
  exact ⟨rfl, K2.out, R2.out, O2.out⟩

set_option maxHeartbeats 1000000 in
theorem do_4 {w : World} {B C A n : Nat} {f : Nat → Slot} {h B' D T U P : Nat} {g : Nat → Slot} {h2 : Nat} (k : ClockAt w B C A n f h) (r : RefAt w B' D T U P n g h2) (hc : C < B') (ha : A < B') {m : Nat} (hm : m ≤ 1000) (hf : PinsLe n m f) (hg : PinsLe n m g) (i : Int) :
    Calls Try.prog 12 #[.pointer (some ⟨C, 0, none⟩), .pointer (some ⟨D, 0, none⟩), .agg #[.int .i64 4, .int .i64 i]] w (DoEnd w B C A n (freeS n f i) h B' D T U P (freeS n g i) h2) := by
  have HF : Hid (∀ j, j < n → 0 ≤ (f j).p ∧ (f j).p ≤ 1000) := Lib.hid (fun j hj => by have := hf j hj; omega)
  have HG : Hid (∀ j, j < n → 0 ≤ (g j).p ∧ (g j).p ≤ 1000) := Lib.hid (fun j hj => by have := hg j hj; omega)
  have O0 := Lib.hid ((Only.refl [] w).alloc (.cells #[.int .i64 4, .int .i64 i] 33))
  have K0 := Lib.hid (k.only O0.out (by simp) (by simp))
  have R0 := Lib.hid (r.apart O0.out (by simp))
  have X0 := Lib.hid (newest w (.cells #[.int .i64 4, .int .i64 i] 33))
  have hcs := lt_of_block' k.c
  have has' := k.slots.lt
  have hrd := lt_of_block' r.c
  have hrt := r.t.lt
  have hru := r.u.lt
  have hrp := r.p.lt
  clear k r hf hg
  go_enter Try.func12, Try.ntmps12
  have C1 := Lib.hid (free_any K0.out i)
  go_wp2_with fail
  refine C1.out.mono ?_
  rintro e w1 ⟨rfl, k, o⟩
  have K1 := Lib.hid k
  have O1 := Lib.hid o
  have R1 := Lib.hid (R0.out.apart o (by simp; omega))
  have x1 : w1.cell? ⟨w.heap.size, 1, none⟩ = some (.int .i64 i) := by
    have := (o.block w.heap.size (by simp) (by simp; omega)).trans X0.out
    simp [World.cell?, this]
  clear k o C1
  have C2 := Lib.hid (rfree_any R1.out i)
  go_wp2_with fail
  refine C2.out.mono ?_
  rintro e w2 ⟨rfl, r, o⟩
  have R2 := Lib.hid r
  have K2 := Lib.hid (K1.out.apart R1.out o hc ha)
  have O2 := Lib.hid ((((Only.refl [C, A, D, T, U, P] w).alloc (.cells #[.int .i64 4, .int .i64 i] 33)).trans O1.out (fun x hx => .inl (by simp at hx; subst hx; simp))).trans o (fun x hx => .inl (by simp at hx; rcases hx with rfl | rfl | rfl | rfl <;> simp)))
  clear r o C2
  go_wp2
  go_ret
  exact ⟨rfl, K2.out, R2.out, O2.out⟩

set_option maxHeartbeats 1000000 in
theorem do_5 {w : World} {B C A n : Nat} {f : Nat → Slot} {h B' D T U P : Nat} {g : Nat → Slot} {h2 : Nat} (k : ClockAt w B C A n f h) (r : RefAt w B' D T U P n g h2) (hc : C < B') (ha : A < B') {m : Nat} (hm : m ≤ 1000) (hf : PinsLe n m f) (hg : PinsLe n m g) (i : Int) :
    Calls Try.prog 12 #[.pointer (some ⟨C, 0, none⟩), .pointer (some ⟨D, 0, none⟩), .agg #[.int .i64 5, .int .i64 i]] w (DoEnd w B C A n (setS n f i) h B' D T U P (setS n g i) h2) := by
  have HF : Hid (∀ j, j < n → 0 ≤ (f j).p ∧ (f j).p ≤ 1000) := Lib.hid (fun j hj => by have := hf j hj; omega)
  have HG : Hid (∀ j, j < n → 0 ≤ (g j).p ∧ (g j).p ≤ 1000) := Lib.hid (fun j hj => by have := hg j hj; omega)
  have O0 := Lib.hid ((Only.refl [] w).alloc (.cells #[.int .i64 5, .int .i64 i] 33))
  have K0 := Lib.hid (k.only O0.out (by simp) (by simp))
  have R0 := Lib.hid (r.apart O0.out (by simp))
  have X0 := Lib.hid (newest w (.cells #[.int .i64 5, .int .i64 i] 33))
  have hcs := lt_of_block' k.c
  have has' := k.slots.lt
  have hrd := lt_of_block' r.c
  have hrt := r.t.lt
  have hru := r.u.lt
  have hrp := r.p.lt
  clear k r hf hg
  go_enter Try.func12, Try.ntmps12
  have C1 := Lib.hid (set_any K0.out i)
  go_wp2_with fail
  refine C1.out.mono ?_
  rintro e w1 ⟨rfl, k, o⟩
  have K1 := Lib.hid k
  have O1 := Lib.hid o
  have R1 := Lib.hid (R0.out.apart o (by simp; omega))
  have x1 : w1.cell? ⟨w.heap.size, 1, none⟩ = some (.int .i64 i) := by
    have := (o.block w.heap.size (by simp) (by simp; omega)).trans X0.out
    simp [World.cell?, this]
  clear k o C1
  have C2 := Lib.hid (rset_any R1.out i)
  go_wp2_with fail
  refine C2.out.mono ?_
  rintro e w2 ⟨rfl, r, o⟩
  have R2 := Lib.hid r
  have K2 := Lib.hid (K1.out.apart R1.out o hc ha)
  have O2 := Lib.hid ((((Only.refl [C, A, D, T, U, P] w).alloc (.cells #[.int .i64 5, .int .i64 i] 33)).trans O1.out (fun x hx => .inl (by simp at hx; subst hx; simp))).trans o (fun x hx => .inl (by simp at hx; rcases hx with rfl | rfl | rfl | rfl <;> simp)))
  clear r o C2
  go_wp2
  go_ret
  exact ⟨rfl, K2.out, R2.out, O2.out⟩

set_option maxHeartbeats 1000000 in
theorem do_0 {w : World} {B C A n : Nat} {f : Nat → Slot} {h B' D T U P : Nat} (k : ClockAt w B C A n f h) (r : RefAt w B' D T U P n f h) (hc : C < B') (ha : A < B') (hf : ∀ j, j < n → 0 ≤ (f j).p) (i : Int) :
    Calls Try.prog 12 #[.pointer (some ⟨C, 0, none⟩), .pointer (some ⟨D, 0, none⟩), .agg #[.int .i64 0, .int .i64 i]] w (DoEnd w B C A n (takeR n f h).2.2.1 (takeR n f h).2.2.2 B' D T U P (takeR n f h).2.2.1 (takeR n f h).2.2.2) := by
  have HF := Lib.hid hf
  have O0 := Lib.hid ((Only.refl [] w).alloc (.cells #[.int .i64 0, .int .i64 i] 33))
  have K0 := Lib.hid (k.only O0.out (by simp) (by simp))
  have R0 := Lib.hid (r.apart O0.out (by simp))
  clear k r hf
  generalize hE : takeR n f h = R
  have HE := Lib.hid hE
  clear hE
  go_enter Try.func12, Try.ntmps12
  have C1 := Lib.hid (take_any K0.out HF.out)
  rw [HE.out] at C1
  go_wp2_with fail
  refine C1.out.mono ?_
  rintro e w1 ⟨rfl, k, o⟩
  have K1 := Lib.hid k
  have O1 := Lib.hid o
  have R1 := Lib.hid (R0.out.apart o (by simp; omega))
  clear k o C1
  have C2 := Lib.hid (rtake_any R1.out HF.out)
  rw [HE.out] at C2
  go_wp2_with fail
  refine C2.out.mono ?_
  rintro e w2 ⟨rfl, r, o⟩
  have R2 := Lib.hid r
  have K2 := Lib.hid (K1.out.apart R1.out o hc ha)
  have O2 := Lib.hid ((((Only.refl [C, A, D, T, U, P] w).alloc (.cells #[.int .i64 0, .int .i64 i] 33)).trans O1.out (fun x hx => .inl (by simp at hx; rcases hx with rfl | rfl <;> simp))).trans o (fun x hx => .inl (by simp at hx; rcases hx with rfl | rfl | rfl | rfl <;> simp)))
  clear r o C2
  clear HE
  obtain ⟨a, b, c, d⟩ := R
  go_wp2
  all_goals
    go_ret
    exact ⟨rfl, K2.out, R2.out, O2.out⟩

set_option maxHeartbeats 1000000 in
theorem do_else {w : World} {B C A n : Nat} {f : Nat → Slot} {h B' D T U P : Nat} {g : Nat → Slot} {h2 : Nat} (k : ClockAt w B C A n f h) (r : RefAt w B' D T U P n g h2) (d i : Int) (h0 : d ≠ 0) (h1 : d ≠ 1) (h2' : d ≠ 2) (h3 : d ≠ 3) (h4 : d ≠ 4) (h5 : d ≠ 5) :
    Calls Try.prog 12 #[.pointer (some ⟨C, 0, none⟩), .pointer (some ⟨D, 0, none⟩), .agg #[.int .i64 d, .int .i64 i]] w (DoEnd w B C A n f h B' D T U P g h2) := by
  have O0 := Lib.hid ((Only.refl [] w).alloc (.cells #[.int .i64 d, .int .i64 i] 33))
  have K0 := Lib.hid (k.only O0.out (by simp) (by simp))
  have R0 := Lib.hid (r.apart O0.out (by simp))
  have O1 := Lib.hid ((Only.refl [C, A, D, T, U, P] w).alloc (.cells #[.int .i64 d, .int .i64 i] 33))
  clear k r
  go_enter Try.func12, Try.ntmps12
  go_wp2
  go_ret
  exact ⟨rfl, K0.out, R0.out, O1.out⟩

/-- An act that is no Take. -/
theorem do_act {w : World} {B C A n : Nat} {f : Nat → Slot} {h B' D T U P : Nat} {g : Nat → Slot} {h2 : Nat} (k : ClockAt w B C A n f h) (r : RefAt w B' D T U P n g h2) (hc : C < B') (ha : A < B') {m : Nat} (hm : m ≤ 1000) (hf : PinsLe n m f) (hg : PinsLe n m g) (d i : Int) (hd : d ≠ 0) :
    Calls Try.prog 12 #[.pointer (some ⟨C, 0, none⟩), .pointer (some ⟨D, 0, none⟩), .agg #[.int .i64 d, .int .i64 i]] w (DoEnd w B C A n (stepS n d i f) h B' D T U P (stepS n d i g) h2) := by
  by_cases h1 : d = 1
  · subst h1; exact do_1 k r hc ha hm hf hg i
  by_cases h3 : d = 2
  · subst h3; exact do_2 k r hc ha hm hf hg i
  by_cases h4 : d = 3
  · subst h4; exact do_3 k r hc ha hm hf hg i
  by_cases h5 : d = 4
  · subst h5; exact do_4 k r hc ha hm hf hg i
  by_cases h6 : d = 5
  · subst h6; exact do_5 k r hc ha hm hf hg i
  simp only [stepS, if_neg h1, if_neg h3, if_neg h4, if_neg h5, if_neg h6]
  exact do_else k r d i hd h1 h3 h4 h5 h6

/-! ### Pins -/
theorem put_p {n m i : Nat} {f : Nat → Slot} {x : Slot} (h : PinsLe n m f) (hx : 0 ≤ x.p ∧ x.p ≤ m) : PinsLe n m (put f i x) := by
  intro j hj
  unfold put
  split
  · exact hx
  · exact h j hj
theorem PinsLe.mono {n m m' : Nat} {f : Nat → Slot} (h : PinsLe n m f) (hm : m ≤ m') : PinsLe n m' f := fun j hj => by have := h j hj; omega
theorem within_lt {n : Nat} {i : Int} (h : within n i = true) : i.toNat < n := by simp [within] at h; omega
theorem has_lt {n : Nat} {f : Nat → Slot} {i : Int} (h : has n f i = true) : i.toNat < n := by
  simp only [has, Bool.and_eq_true] at h
  exact within_lt h.1
theorem pins_set {n m : Nat} {f : Nat → Slot} {i : Int} (h : PinsLe n m f) : PinsLe n m (setS n f i) := by
  unfold setS; split
  · exact put_p h (h _ (within_lt ‹_›))
  · exact h
theorem pins_step {n m : Nat} {f : Nat → Slot} {d i : Int} (h : PinsLe n m f) : PinsLe n (m + 1) (stepS n d i f) := by
  have h' := h.mono (Nat.le_succ m)
  unfold stepS
  split
  · unfold useS; split
    · exact put_p h' (h' _ (has_lt ‹_›))
    · exact h'
  split
  · unfold pinS; split
    · exact put_p h' (by have := h _ (has_lt ‹_›); simp only; omega)
    · exact h'
  split
  · unfold unpinS; split
    · exact put_p h' (by have := h _ (has_lt ‹_›); simp only; omega)
    · exact h'
  split
  · unfold freeS; split
    · exact put_p h' (by simp [zeroSlot]; omega)
    · exact h'
  split
  · exact pins_set h'
  · exact h'
theorem pins_take {n m h : Nat} {f : Nat → Slot} (hf : PinsLe n m f) (hh : h < n ∨ h = 0) : PinsLe n m (takeR n f h).2.2.1 := by
  unfold takeR
  split
  · exact pins_set hf
  · split
    · split
      · rename_i i f' h' hr
        rcases hh with hh | rfl
        · have := (rnd_law n (by omega) _ _ _ _ hh hr).2.2.2
          exact pins_set (fun j hj => by rw [(this j).2]; exact hf j hj)
        · rcases Nat.eq_zero_or_pos n with rfl | hn
          · exact fun j hj => absurd hj (Nat.not_lt_zero _)
          · have := (rnd_law n hn _ _ _ _ hn hr).2.2.2
            exact pins_set (fun j hj => by rw [(this j).2]; exact hf j hj)
      · exact hf
    · exact hf

end Go.Proofs.Ytfcifdddmcnjcaa
