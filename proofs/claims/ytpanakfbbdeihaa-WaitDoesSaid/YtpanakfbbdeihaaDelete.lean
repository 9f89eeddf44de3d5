/-
  PROVED: contracts of 'slices.IndexFunc' and 'slices.DeleteFunc' at keys, for whatever closure keeps the relation J. Conditions: each theorem's own premises.
-/
import Derived.Test.YtpanakfbbdeihaaQueue
namespace Go.Proofs.Ytpanakfbbdeihaa
open Go.RowKit
set_option linter.unusedVariables false

/-- Block R holds just the keys l, and spare cells behind. -/
def RowIs (w : World) (R : Nat) (l : List Key) (rest : List Value) : Prop := ∃ cur : Array Value, w.heap[R]? = some (.cells cur 28 (0, 0)) ∧ cur.toList = cs l ++ rest

theorem RowIs.keep {w w' : World} {R : Nat} {l : List Key} {rest : List Value} (h : RowIs w R l rest) (hb : w'.heap[R]? = w.heap[R]?) : RowIs w' R l rest := by
  obtain ⟨cur, h1, h2⟩ := h
  exact ⟨cur, hb.trans h1, h2⟩
theorem RowIs.lt {w : World} {R : Nat} {l : List Key} {rest : List Value} (h : RowIs w R l rest) : R < w.heap.size := by
  obtain ⟨cur, h1, h2⟩ := h
  exact lt_of_block h1

theorem cs_get (l : List Key) (i : Nat) (h : i < l.length) : (cs l)[i * 2]? = some (.int .i64 l[i].1) ∧ (cs l)[i * 2 + 1]? = some (.int .i64 l[i].2) := by
  induction l generalizing i with
  | nil => simp at h
  | cons k l ih =>
    cases i with
    | zero => simp [cs, kc]
    | succ i =>
      have := ih i (by simpa using h)
      simp only [cs, kc, List.flatMap_cons] at this ⊢
      rw [List.getElem?_append_right (by simp; omega), List.getElem?_append_right (by simp; omega)]
      simp only [List.length_cons, List.length_nil, List.getElem_cons_succ]
      rw [show (i + 1) * 2 - (0 + 1 + 1) = i * 2 from by omega, show (i + 1) * 2 + 1 - (0 + 1 + 1) = i * 2 + 1 from by omega]
      exact this

theorem RowIs.cells {w : World} {R : Nat} {l : List Key} {rest : List Value} (h : RowIs w R l rest) (i : Nat) (hi : i < l.length) :
    w.cell? ⟨R, i * 2, none⟩ = some (.int .i64 l[i].1) ∧ w.cell? ⟨R, i * 2 + 1, none⟩ = some (.int .i64 l[i].2) := by
  obtain ⟨cur, h1, h2⟩ := h
  obtain ⟨g1, g2⟩ := cs_get l i hi
  have hl := cs_length l
  have e (j : Nat) (hj : j < (cs l).length) : cur[j]? = (cs l)[j]? := by
    rw [← Array.getElem?_toList, h2, List.getElem?_append_left hj]
  constructor
  · rw [cell_of_row w R _ cur 28 (0, 0) h1, e _ (by omega), g1]
  · rw [cell_of_row w R _ cur 28 (0, 0) h1, e _ (by omega), g2]

/-- What the closure that deletes leaves, asked of the j-th key. -/
def AskEnd (J : List Nat → Nat → World → Prop) (fp : List Nat) (j : Nat) (b : Bool) (w : World) (e : Ending) (w' : World) : Prop :=
  ∃ fp', e = .returned (.bool b) ∧ J fp' (j + 1) w' ∧ Only fp w w' ∧ ∀ x ∈ fp', x ∈ fp ∨ w.heap.size ≤ x

/-- A closure that is asked of a list's keys in turn, d what it answers. -/
structure Asks (p0 p1 p2 p3 : Value) (ks : List Key) (d : Nat → Bool) (J : List Nat → Nat → World → Prop) : Prop where
  call : ∀ (fp : List Nat) (j : Nat) (w : World) (hj : j < ks.length), J fp j w → Calls Try.prog 24 #[.agg #[.int .i64 ks[j].1, .int .i64 ks[j].2], p0, p1, p2, p3] w (AskEnd J fp j (d j) w)
  keep : ∀ (fp : List Nat) (j : Nat) (w w' : World), J fp j w → (∀ b ∈ fp, w'.heap[b]? = w.heap[b]?) → J fp j w'
  lt : ∀ (fp : List Nat) (j : Nat) (w : World), J fp j w → ∀ b ∈ fp, b < w.heap.size

/-- Behind the first j: nothing was told to go. -/
structure IdxRel (J : List Nat → Nat → World → Prop) (d : Nat → Bool) (R : Nat) (l : List Key) (rest : List Value) (fp0 : List Nat) (w0 : World) (j : Nat) (w : World) : Prop where
  at' : ∃ fp, J fp j w ∧ R ∉ fp ∧ ∀ x ∈ fp, x ∈ fp0 ∨ w0.heap.size ≤ x
  row : RowIs w R l rest
  only : Only fp0 w0 w
  no : ∀ i, i < j → d i = false

def IdxEnd (J : List Nat → Nat → World → Prop) (d : Nat → Bool) (R : Nat) (l : List Key) (rest : List Value) (fp0 : List Nat) (w0 : World) (e : Ending) (w : World) : Prop :=
  (e = .returned (.int .i64 (-1)) ∧ IdxRel J d R l rest fp0 w0 l.length w) ∨
  ∃ j, j < l.length ∧ e = .returned (.int .i64 j) ∧ d j = true ∧ (∀ i, i < j → d i = false) ∧ (∃ fp, J fp (j + 1) w ∧ R ∉ fp ∧ ∀ x ∈ fp, x ∈ fp0 ∨ w0.heap.size ≤ x) ∧ RowIs w R l rest ∧ Only fp0 w0 w

def IdxStep (J : List Nat → Nat → World → Prop) (d : Nat → Bool) (R : Nat) (l : List Key) (rest : List Value) (fp0 : List Nat) (w0 : World) (j : Nat) (b : Bool) (e : Ending) (w' : World) : Prop :=
  e = .returned (.bool b) ∧ (∃ fp, J fp (j + 1) w' ∧ R ∉ fp ∧ ∀ x ∈ fp, x ∈ fp0 ∨ w0.heap.size ≤ x) ∧ RowIs w' R l rest ∧ Only fp0 w0 w'

theorem idx_step {p0 p1 p2 p3 : Value} {l : List Key} {d : Nat → Bool} {J : List Nat → Nat → World → Prop} (A : Asks p0 p1 p2 p3 l d J) {R : Nat} {rest : List Value} {fp0 : List Nat} {w0 w : World} {j : Nat} (h : IdxRel J d R l rest fp0 w0 j w) (hj : j < l.length) :
    Calls Try.prog 24 #[.agg #[.int .i64 l[j].1, .int .i64 l[j].2], p0, p1, p2, p3] w (IdxStep J d R l rest fp0 w0 j (d j)) := by
  obtain ⟨fp, hJ, hR, hs⟩ := h.at'
  refine (A.call fp j w hj hJ).mono ?_
  rintro e w' ⟨fp', rfl, hJ', ho, hs'⟩
  have hlt := h.row.lt
  refine ⟨rfl, ⟨fp', hJ', fun hm => ?_, fun x hx => ?_⟩, h.row.keep (ho.block R hlt hR), h.only.trans ho hs⟩
  · rcases hs' R hm with h1 | h1
    · exact hR h1
    · omega
  · rcases hs' x hx with h1 | h1
    · exact hs x h1
    · exact .inr (Nat.le_trans h.only.size h1)

def IdxLoop (J : List Nat → Nat → World → Prop) (d : Nat → Bool) (R : Nat) (l : List Key) (rest : List Value) (fp0 : List Nat) (w0 : World) (i : Value) (w : World) : Prop :=
  ∃ j : Nat, i = .int .i64 j ∧ j ≤ l.length ∧ IdxRel J d R l rest fp0 w0 j w

set_option maxHeartbeats 400000 in
theorem idx_any {p0 p1 p2 p3 : Value} {l : List Key} {d : Nat → Bool} {J : List Nat → Nat → World → Prop} (A : Asks p0 p1 p2 p3 l d J) {R : Nat} {rest : List Value} {fp0 : List Nat} {w : World} (h : IdxRel J d R l rest fp0 w 0 w) (cap : Nat) (hc : l.length ≤ cap) (hl : l.length ≤ 64) :
    Calls Try.prog 25 #[.slice (some ⟨R, 0, none⟩) l.length cap, .func (.func 24) #[] #[p0, p1, p2, p3]] w (IdxEnd J d R l rest fp0 w) := by
  have S := Lib.hid (fun w' j (h' : IdxRel J d R l rest fp0 w j w') (hj : j < l.length) => idx_step A h' hj)
  go_enter Try.func25, Try.ntmps25
  go_wp2
  go_loopw [8] (fun i wr => IdxLoop J d R l rest fp0 w i wr) (fun i _ => l.length - (intOf i).toNat)
  case atStart => exact ⟨0, rfl, Nat.zero_le _, h⟩
  case round =>
    obtain ⟨j, rfl, hj, hr⟩ := hrel
    by_cases hlt : j < l.length
    · obtain ⟨c0, c1⟩ := hr.row.cells j hlt
      have C := Lib.hid (S.out wr j hr hlt)
      have HR := Lib.hid hr
      generalize hd : d j = b at C
      have HD := Lib.hid hd
      generalize hq : l[j] = q at *
      clear hr hd hq h
      go_wp2_with fail
      refine C.out.mono ?_
      rintro e w' ⟨rfl, hs1, hrow, honly⟩
      have P1 := Lib.hid hs1
      have P2 := Lib.hid hrow
      have P3 := Lib.hid honly
      clear hs1 hrow honly c0 c1 C
      cases b
      · go_wp2
        go_roundw
        case rel =>
          refine ⟨j + 1, by go_num, by omega, P1.out, P2.out, P3.out, fun i hi => ?_⟩
          by_cases hij : i = j
          · rw [hij]; exact HD.out
          · exact HR.out.no i (by omega)
        case measure => simp [intOf]; omega
      · go_wp2
        go_ret
        exact .inr ⟨j, hlt, rfl, HD.out, HR.out.no, P1.out, P2.out, P3.out⟩
    · have HE := Lib.hid (show j = l.length by omega)
      have HR := Lib.hid hr
      clear hr h
      go_wp2
      go_ret
      exact .inl ⟨rfl, by rw [← HE.out]; exact HR.out⟩

/-! ### DeleteFunc -/

/-- What is kept of the first j. -/
def kp (l : List Key) (d : Nat → Bool) : Nat → List Key
  | 0 => []
  | j + 1 => kp l d j ++ (if d j then [] else (l[j]?).toList)

theorem kp_length (l : List Key) (d : Nat → Bool) (j : Nat) : (kp l d j).length ≤ j := by
  induction j with
  | zero => simp [kp]
  | succ j ih =>
    simp only [kp, List.length_append]
    have : (if d j then [] else (l[j]?).toList).length ≤ 1 := by
      split
      · simp
      · cases l[j]? <;> simp
    omega

theorem kp_none (l : List Key) (d : Nat → Bool) (j : Nat) (hj : j ≤ l.length) (h : ∀ i, i < j → d i = false) : kp l d j = l.take j := by
  induction j with
  | zero => simp [kp]
  | succ j ih =>
    rw [kp, ih (by omega) (fun i hi => h i (by omega)), h j (by omega)]
    simp [List.take_add_one]

theorem zero28 (n : Nat) : ∀ v ∈ (Builtin.zeroCells #[Value.int .i64 0, Value.int .i64 0] n).toList, v = .int .i64 0 := by
  intro v hv
  simp [Builtin.zeroCells] at hv
  obtain ⟨i, hi, rfl⟩ := hv
  rcases (show i % 2 = 0 ∨ i % 2 = 1 by omega) with h | h <;> simp [h]

theorem clear28 (w : World) (R : Nat) (cur : Array Value) (h : w.heap[R]? = some (.cells cur 28 (0, 0))) (i n c : Nat) (hf : i * 2 + n * 2 ≤ cur.size) (hn : 0 < n) (ty : TypeId) :
    (Builtin.clear_ #[44] ty #[.slice (some ⟨R, i * 2, none⟩) n c]).run Try.prog w = .ok (.tuple #[]) (w.setRow R (cur.toList.take (i * 2) ++ (Builtin.zeroCells #[Value.int .i64 0, Value.int .i64 0] n).toList ++ cur.toList.drop (i * 2 + n * 2)).toArray) := by
  have hz : ∀ w, (zeroValue 28).run Try.prog w = .ok (.agg #[.int .i64 0, .int .i64 0]) w := fun _ => by kernel_rfl
  have hl : (Builtin.zeroCells #[Value.int .i64 0, Value.int .i64 0] n).toList.length = n * 2 := by simp [size_zeroCells]
  have hst := run_storeCells_at Try.prog R (i * 2) 28 (Builtin.zeroCells #[Value.int .i64 0, Value.int .i64 0] n).toList 0 cur w h (by rw [hl]; omega) (fun v hv => by rw [zero28 n v hv]; rfl)
  rw [hl] at hst
  simp only [Nat.add_zero] at hst
  obtain ⟨m, rfl⟩ : ∃ m, n = m + 1 := ⟨n - 1, by omega⟩
  simp [Builtin.clear_, run_underlying Try.underlying44, hz, Value.cells, hst]


/-- The row while it is gone through: the first ones are those that are kept, those from j on as they were. -/
def RowMid (w : World) (R cap : Nat) (l k : List Key) (j : Nat) : Prop :=
  ∃ (l' : List Key) (cur : Array Value), l'.length = l.length ∧ l'.take k.length = k ∧ l'.drop j = l.drop j ∧ k.length ≤ j ∧ w.heap[R]? = some (.cells cur 28 (0, 0)) ∧ cur.size = cap * 2 ∧ cur.toList.take (l.length * 2) = cs l'

theorem RowMid.keep {w w' : World} {R cap j : Nat} {l k : List Key} (h : RowMid w R cap l k j) (hb : w'.heap[R]? = w.heap[R]?) : RowMid w' R cap l k j := by
  obtain ⟨l', cur, h1, h2, h3, h4, h5, h6⟩ := h
  exact ⟨l', cur, h1, h2, h3, h4, hb.trans h5, h6⟩
theorem RowMid.lt {w : World} {R cap j : Nat} {l k : List Key} (h : RowMid w R cap l k j) : R < w.heap.size := by
  obtain ⟨l', cur, h1, h2, h3, h4, h5, h6⟩ := h
  exact lt_of_block h5
theorem RowMid.cells {w : World} {R cap j : Nat} {l k : List Key} (h : RowMid w R cap l k j) (hj : j < l.length) :
    w.cell? ⟨R, j * 2, none⟩ = some (.int .i64 l[j].1) ∧ w.cell? ⟨R, j * 2 + 1, none⟩ = some (.int .i64 l[j].2) := by
  obtain ⟨l', cur, h1, h2, h3, h4, h5, h6, h7⟩ := h
  have hl : cs l' = cs l' ++ [] := by simp
  obtain ⟨g1, g2⟩ := cs_get l' j (by omega)
  have e1 : l'[j]'(by omega) = l[j] := by
    have := congrArg (fun x => x[0]?) h3
    simp only [List.getElem?_drop, Nat.add_zero] at this
    rw [List.getElem?_eq_getElem (by omega), List.getElem?_eq_getElem hj] at this
    exact Option.some.inj this
  have hcl := cs_length l'
  have e (m : Nat) (hm : m < l.length * 2) : cur[m]? = (cs l')[m]? := by
    rw [← h7, List.getElem?_take, if_pos hm, Array.getElem?_toList]
  rw [e1] at g1 g2
  constructor
  · rw [cell_of_row w R _ cur 28 (0, 0) h5, e _ (by omega), g1]
  · rw [cell_of_row w R _ cur 28 (0, 0) h5, e _ (by omega), g2]
theorem RowMid.spot {w : World} {R cap j : Nat} {l k : List Key} (h : RowMid w R cap l k j) (hc : l.length ≤ cap) (m : Nat) (hm : m < l.length * 2) : (∃ u, w.cell? ⟨R, m, none⟩ = some u) ∧ w.frozen? ⟨R, m, none⟩ = false := by
  obtain ⟨l', cur, h1, h2, h3, h4, h5, h6, h7⟩ := h
  refine ⟨⟨cur[m]'(by omega), ?_⟩, by simp [World.frozen?, h5]⟩
  rw [cell_of_row w R _ cur 28 (0, 0) h5]
  simp

theorem cs_set (l : List Key) (i : Nat) (q : Key) (h : i < l.length) : ((cs l).set (i * 2) (.int .i64 q.1)).set (i * 2 + 1) (.int .i64 q.2) = cs (l.set i q) := by
  induction l generalizing i with
  | nil => simp at h
  | cons k l ih =>
    cases i with
    | zero => simp [cs, kc]
    | succ i =>
      have := ih i (by simpa using h)
      simp only [cs, kc, List.flatMap_cons, List.set_cons_succ] at this ⊢
      rw [← this]
      rw [show (i + 1) * 2 = i * 2 + 1 + 1 from by omega]
      simp

/-- The j-th is kept: it is stored behind the kept ones. -/
theorem RowMid.store {w : World} {R cap j : Nat} {l k : List Key} (h : RowMid w R cap l k j) (hj : j < l.length) (hc : l.length ≤ cap) :
    RowMid ((w.setCell ⟨R, k.length * 2, none⟩ (.int .i64 l[j].1)).setCell ⟨R, k.length * 2 + 1, none⟩ (.int .i64 l[j].2)) R cap l (k ++ [l[j]]) (j + 1) := by
  obtain ⟨l', cur, h1, h2, h3, h4, h5, h6, h7⟩ := h
  have hi : k.length < l'.length := by omega
  have s1 := heap_setCell_same w R (k.length * 2) cur 28 (.int .i64 l[j].1) h5
  have s2 := heap_setCell_same _ R (k.length * 2 + 1) _ 28 (.int .i64 l[j].2) s1
  refine ⟨l'.set k.length l[j], _, by simpa using h1, ?_, ?_, by simp; omega, s2, by simpa using h6, ?_⟩
  · rw [List.length_append, List.length_singleton, List.take_add_one, List.getElem?_set_self hi]
    rw [List.take_set_of_le (Nat.le_refl _), h2]
    rfl
  · rw [List.drop_set_of_lt (by omega), ← List.drop_drop, h3, List.drop_drop]
  · rw [Array.toList_setIfInBounds, Array.toList_setIfInBounds, List.take_set, List.take_set, h7]
    exact cs_set l' k.length l[j] hi

structure DelRel (J : List Nat → Nat → World → Prop) (d : Nat → Bool) (R cap : Nat) (l : List Key) (fp0 : List Nat) (w0 : World) (j : Nat) (w : World) : Prop where
  at' : ∃ fp, J fp j w ∧ R ∉ fp ∧ ∀ x ∈ fp, x ∈ fp0 ∨ w0.heap.size ≤ x
  row : RowMid w R cap l (kp l d j) j
  only : Only (R :: fp0) w0 w


def DelStep (J : List Nat → Nat → World → Prop) (d : Nat → Bool) (R cap : Nat) (l : List Key) (fp0 : List Nat) (w0 w : World) (o : Obj) (j : Nat) (b : Bool) (e : Ending) (w' : World) : Prop :=
  e = .returned (.bool b) ∧ (∃ fp, J fp (j + 1) w' ∧ R ∉ fp ∧ ∀ x ∈ fp, x ∈ fp0 ∨ w0.heap.size ≤ x) ∧ RowMid w' R cap l (kp l d j) j ∧ Only (R :: fp0) w0 w' ∧ w'.heap[w.heap.size]? = some o

theorem del_step {p0 p1 p2 p3 : Value} {l : List Key} {d : Nat → Bool} {J : List Nat → Nat → World → Prop} (A : Asks p0 p1 p2 p3 l d J) {R cap : Nat} {fp0 : List Nat} {w0 w : World} {j : Nat} (h : DelRel J d R cap l fp0 w0 j w) (hj : j < l.length) (o : Obj) :
    Calls Try.prog 24 #[.agg #[.int .i64 l[j].1, .int .i64 l[j].2], p0, p1, p2, p3] (w.alloc o) (DelStep J d R cap l fp0 w0 w o j (d j)) := by
  obtain ⟨fp, hJ, hR, hs⟩ := h.at'
  have hlt := h.row.lt
  have hJa := A.keep fp j w (w.alloc o) hJ (fun b hb => Below.heap_alloc _ _ _ (A.lt fp j w hJ b hb))
  refine (A.call fp j _ hj hJa).mono ?_
  rintro e w' ⟨fp', rfl, hJ', ho, hs'⟩
  refine ⟨rfl, ⟨fp', hJ', fun hm => ?_, fun x hx => ?_⟩, (h.row.keep (Below.heap_alloc _ _ _ hlt)).keep (ho.block R (by simp; omega) hR), (h.only.alloc o).trans ho (fun x hx => ?_), ?_⟩
  · rcases hs' R hm with h1 | h1
    · exact hR h1
    · simp at h1; omega
  · rcases hs' x hx with h1 | h1
    · exact hs x h1
    · have := h.only.size
      simp at h1
      exact .inr (by omega)
  · rcases hs x hx with h1 | h1
    · exact .inl (by simp [h1])
    · exact .inr h1
  · refine (ho.block w.heap.size (by simp) (fun hm => ?_)).trans (newest _ _)
    have := A.lt fp j w hJ _ hm
    omega

theorem DelRel.skip {J : List Nat → Nat → World → Prop} {d : Nat → Bool} {R cap : Nat} {l : List Key} {fp0 : List Nat} {w0 w' : World} {j : Nat} (hj : j < l.length) (hd : d j = true)
    (h1 : ∃ fp, J fp (j + 1) w' ∧ R ∉ fp ∧ ∀ x ∈ fp, x ∈ fp0 ∨ w0.heap.size ≤ x) (h2 : RowMid w' R cap l (kp l d j) j) (h3 : Only (R :: fp0) w0 w') : DelRel J d R cap l fp0 w0 (j + 1) w' := by
  refine ⟨h1, ?_, h3⟩
  obtain ⟨l', cur, g1, g2, g3, g4, g5⟩ := h2
  refine ⟨l', cur, g1, ?_, ?_, ?_, g5⟩
  · simpa [kp, hd] using g2
  · rw [← List.drop_drop, g3, List.drop_drop]
  · simp [kp, hd]; omega

theorem DelRel.stay {p0 p1 p2 p3 : Value} {J : List Nat → Nat → World → Prop} {d : Nat → Bool} {R cap : Nat} {l : List Key} (A : Asks p0 p1 p2 p3 l d J) {fp0 : List Nat} {w0 w' : World} {j : Nat} (hj : j < l.length) (hc : l.length ≤ cap) (hd : d j = false)
    (h1 : ∃ fp, J fp (j + 1) w' ∧ R ∉ fp ∧ ∀ x ∈ fp, x ∈ fp0 ∨ w0.heap.size ≤ x) (h2 : RowMid w' R cap l (kp l d j) j) (h3 : Only (R :: fp0) w0 w') :
    DelRel J d R cap l fp0 w0 (j + 1) ((w'.setCell ⟨R, (kp l d j).length * 2, none⟩ (.int .i64 l[j].1)).setCell ⟨R, (kp l d j).length * 2 + 1, none⟩ (.int .i64 l[j].2)) := by
  obtain ⟨fp, hJ, hR, hs⟩ := h1
  refine ⟨⟨fp, A.keep _ _ _ _ hJ (fun b hb => ?_), hR, hs⟩, ?_, (h3.setCell (.inl (by simp)) _).setCell (.inl (by simp)) _⟩
  · have hb' : b ≠ R := fun e => hR (e ▸ hb)
    exact (Below.heap_setCell _ _ _ _ hb').trans (Below.heap_setCell _ _ _ _ hb')
  · have := h2.store hj hc
    simpa [kp, hd, hj] using this

def DelLoop (J : List Nat → Nat → World → Prop) (d : Nat → Bool) (R cap : Nat) (l : List Key) (fp0 : List Nat) (w0 : World) (i t : Value) (w : World) : Prop :=
  ∃ j : Nat, i = .int .i64 (kp l d j).length ∧ t = .int .i64 j ∧ j ≤ l.length ∧ (kp l d j).length + 1 ≤ j ∧ DelRel J d R cap l fp0 w0 j w

def DelEnd (J : List Nat → Nat → World → Prop) (d : Nat → Bool) (R cap : Nat) (l : List Key) (fp0 : List Nat) (w0 : World) (e : Ending) (w : World) : Prop :=
  e = .returned (.slice (some ⟨R, 0, none⟩) (kp l d l.length).length cap) ∧ (∃ fp, J fp l.length w ∧ R ∉ fp ∧ ∀ x ∈ fp, x ∈ fp0 ∨ w0.heap.size ≤ x) ∧
    (∃ cur, w.heap[R]? = some (.cells cur 28 (0, 0)) ∧ cur.size = cap * 2 ∧ cur.toList.take ((kp l d l.length).length * 2) = cs (kp l d l.length)) ∧ Only (R :: fp0) w0 w

theorem del_start {J : List Nat → Nat → World → Prop} {d : Nat → Bool} {R cap : Nat} {l : List Key} {rest : List Value} {fp0 : List Nat} {w0 w : World} {j : Nat} (hj : j < l.length) (hd : d j = true) (hno : ∀ i, i < j → d i = false)
    (h1 : ∃ fp, J fp (j + 1) w ∧ R ∉ fp ∧ ∀ x ∈ fp, x ∈ fp0 ∨ w0.heap.size ≤ x) (h2 : RowIs w R l rest) (h3 : Only fp0 w0 w) (hrest : rest.length = cap * 2 - l.length * 2) (hc : l.length ≤ cap) :
    (kp l d (j + 1)).length = j ∧ DelRel J d R cap l fp0 w0 (j + 1) w := by
  have hk : kp l d (j + 1) = l.take j := by simp [kp, hd, kp_none l d j (by omega) hno]
  have hkl : (kp l d (j + 1)).length = j := by rw [hk]; simp; omega
  obtain ⟨cur, g1, g2⟩ := h2
  have hcl := cs_length l
  refine ⟨hkl, ⟨h1, ⟨l, cur, rfl, ?_, rfl, by omega, g1, ?_, ?_⟩, h3.mono (fun x hx => .inl (by simp [hx]))⟩⟩
  · rw [hkl, hk]
  · have := congrArg List.length g2
    simp at this
    omega
  · rw [g2, ← hcl]
    simp

theorem del_none {J : List Nat → Nat → World → Prop} {d : Nat → Bool} {R cap : Nat} {l : List Key} {rest : List Value} {fp0 : List Nat} {w0 w : World} (h : IdxRel J d R l rest fp0 w0 l.length w) (hrest : rest.length = cap * 2 - l.length * 2) (hc : l.length ≤ cap) :
    DelEnd J d R cap l fp0 w0 (.returned (.slice (some ⟨R, 0, none⟩) l.length cap)) w := by
  have hk : kp l d l.length = l := by rw [kp_none l d l.length (Nat.le_refl _) h.no]; simp
  obtain ⟨cur, g1, g2⟩ := h.row
  have hcl := cs_length l
  refine ⟨by rw [hk], h.at', ⟨cur, g1, ?_, ?_⟩, h.only.mono (fun x hx => .inl (by simp [hx]))⟩
  · have := congrArg List.length g2
    simp at this
    omega
  · rw [hk, g2, ← hcl]
    simp

theorem del_last {p0 p1 p2 p3 : Value} {J : List Nat → Nat → World → Prop} {d : Nat → Bool} {R cap : Nat} {l : List Key} (A : Asks p0 p1 p2 p3 l d J) {fp0 : List Nat} {w0 w : World} (h : DelRel J d R cap l fp0 w0 l.length w) (hlt : (kp l d l.length).length < l.length) (hc : l.length ≤ cap) :
    ∃ W, (∀ ty, (Builtin.clear_ #[44] ty #[.slice (some ⟨R, (kp l d l.length).length * 2, none⟩) (l.length - (kp l d l.length).length) (cap - (kp l d l.length).length)]).run Try.prog w = .ok (.tuple #[]) W) ∧
      DelEnd J d R cap l fp0 w0 (.returned (.slice (some ⟨R, 0, none⟩) (kp l d l.length).length cap)) W := by
  obtain ⟨fp, hJ, hR, hs⟩ := h.at'
  obtain ⟨l', cur, g1, g2, g3, g4, g5, g6, g7⟩ := h.row
  generalize hk : kp l d l.length = k at *
  have hsz : k.length * 2 + (l.length - k.length) * 2 ≤ cur.size := by omega
  refine ⟨_, fun ty => clear28 w R cur g5 k.length (l.length - k.length) (cap - k.length) hsz (by omega) ty, ?_⟩
  have hlt' := lt_of_block g5
  have hz : (Builtin.zeroCells #[Value.int .i64 0, Value.int .i64 0] (l.length - k.length)).toList.length = (l.length - k.length) * 2 := by simp [size_zeroCells]
  have hset : ∀ cs', (∀ b, b ≠ R → (w.setRow R cs').heap[b]? = w.heap[b]?) := fun cs' b hb => by simp [World.setRow, Array.getElem?_modify, Ne.symm hb]
  unfold DelEnd
  rw [hk]
  refine ⟨rfl, ⟨fp, A.keep _ _ _ _ hJ (fun b hb => hset _ b (fun e => hR (e ▸ hb))), hR, hs⟩, ⟨_, setRow_heap w R cur _ 28 (0, 0) g5, ?_, ?_⟩, ?_⟩
  · simp only [List.size_toArray, List.length_append, List.length_take, List.length_drop, hz, Array.length_toList]
    omega
  · have e1 : (cs l').take (k.length * 2) = cs k := by
      rw [← g2, ← cs_length]
      have : cs l' = cs (l'.take k.length) ++ cs (l'.drop k.length) := by rw [← cs_append, List.take_append_drop]
      rw [this]
      simp [g2]
    simp only [List.append_assoc]
    rw [List.take_append_of_le_length (by simp; omega), List.take_take, Nat.min_self, ← e1, ← g7, List.take_take, Nat.min_eq_left (by omega)]
  · exact h.only.trans (fp' := [R]) ⟨rfl, rfl, rfl, by simp, fun b _ hb => hset _ b (by simpa using hb)⟩ (fun x hx => .inl (by simp at hx; simp [hx]))

set_option maxHeartbeats 1000000 in
theorem del_any {p0 p1 p2 p3 : Value} {l : List Key} {d : Nat → Bool} {J : List Nat → Nat → World → Prop} (A : Asks p0 p1 p2 p3 l d J) {R : Nat} {rest : List Value} {fp0 : List Nat} {w : World} (h : IdxRel J d R l rest fp0 w 0 w) (cap : Nat) (hc : l.length ≤ cap) (hl : l.length ≤ 64)
    (hrest : rest.length = cap * 2 - l.length * 2) (hm : cap ≤ maxLen) :
    Calls Try.prog 23 #[.slice (some ⟨R, 0, none⟩) l.length cap, .func (.func 24) #[] #[p0, p1, p2, p3]] w (DelEnd J d R cap l fp0 w) := by
  have C := Lib.hid (idx_any A h cap hc hl)
  unfold maxLen at hm
  clear h
  go_enter Try.func23, Try.ntmps23
  go_wp2_with fail
  refine C.out.mono ?_
  rintro e w1 (⟨rfl, hr⟩ | ⟨j0, hj0, rfl, hd, hno, hfp, hrow, honly⟩)
  · have E := Lib.hid (del_none hr hrest hc)
    clear hr C
    go_wp2
    go_ret
    exact E.out
  · have b1 : ((j0 : Int) == -1) = false := by simp
    obtain ⟨k1, st⟩ := del_start hj0 hd hno hfp hrow honly hrest hc
    have K := Lib.hid k1
    have ST := Lib.hid st
    clear hrest hd hno hfp hrow honly C k1 st
    go_wp2
    go_loopw [5, 6] (fun i t wr => DelLoop J d R cap l fp0 w i t wr) (fun _ t _ => l.length - (intOf t).toNat)
    case atStart => exact ⟨j0 + 1, by rw [K.out], by go_num, by omega, by rw [K.out]; omega, ST.out⟩
    case round =>
      obtain ⟨j, rfl, rfl, hj, hk, hr⟩ := hrel
      clear K ST b1
      by_cases hlt : j < l.length
      · obtain ⟨c0, c1⟩ := hr.row.cells hlt
        have C := Lib.hid (del_step A hr hlt (.cells #[.int .i64 l[j].1, .int .i64 l[j].2] 28))
        have ST := Lib.hid (fun w' => DelRel.stay (w' := w') (w0 := w) (fp0 := fp0) (R := R) A hlt hc)
        generalize hd : d j = b at C ST
        have HD := Lib.hid hd
        generalize hq : l[j] = q at *
        have HQ := Lib.hid hq
        clear hr hd hq
        generalize hkk : (kp l d j).length = i at *
        have KK := Lib.hid hkk
        clear hkk
        have hil : i < l.length := by omega
        go_wp2_with fail
        refine C.out.mono ?_
        rintro e w2 ⟨rfl, h1, h2, h3, h4⟩
        have d0 : w2.cell? ⟨wr.heap.size, 0, none⟩ = some (.int .i64 q.1) := by simp [World.cell?, h4]
        have d1 : w2.cell? ⟨wr.heap.size, 1, none⟩ = some (.int .i64 q.2) := by simp [World.cell?, h4]
        obtain ⟨⟨u0, s0⟩, f0⟩ := h2.spot hc (i * 2) (by omega)
        obtain ⟨⟨u1, s1⟩, f1⟩ := h2.spot hc (i * 2 + 1) (by omega)
        have P1 := Lib.hid h1
        have P2 := Lib.hid h2
        have P3 := Lib.hid h3
        clear h1 h2 h3 h4 c0 c1 C
        cases b
        · go_wp2
          go_roundw
          case rel =>
            have hkp : (kp l d (j + 1)).length = i + 1 := by simp [kp, HD.out, hlt, KK.out]
            exact ⟨j + 1, by rw [hkp]; go_num, by go_num, by omega, by rw [hkp]; omega, ST.out w2 trivial P1.out P2.out P3.out⟩
          case measure => simp [intOf]; omega
        · go_wp2
          go_roundw
          case rel =>
            have hkp : (kp l d (j + 1)).length = i := by simp [kp, HD.out, KK.out]
            exact ⟨j + 1, by rw [hkp], by go_num, by omega, by rw [hkp]; omega, DelRel.skip hlt HD.out P1.out P2.out P3.out⟩
          case measure => simp [intOf]; omega
      · obtain rfl : j = l.length := by omega
        obtain ⟨W, hcl, hend⟩ := del_last A hr (by omega) hc
        have E := Lib.hid hend
        clear hend hr
        generalize hkk : (kp l d l.length).length = i at *
        have hil : i < l.length := by omega
        clear hkk
        go_wp2
        go_ret
        exact E.out

theorem idx_nil (f : Value) (w : World) : Calls Try.prog 25 #[.slice none 0 0, f] w fun e w' => e = .returned (.int .i64 (-1)) ∧ w = w' := by
  go_enter Try.func25, Try.ntmps25
  go_wp2
  refine wp_loop_rounds 1 ?_
  rw [rounds_succ]
  go_wp2
  go_ret
  exact ⟨rfl, rfl⟩

theorem del_nil (f : Value) (w : World) : Calls Try.prog 23 #[.slice none 0 0, f] w fun e w' => e = .returned (.slice none 0 0) ∧ w = w' := by
  go_enter Try.func23, Try.ntmps23
  go_wp2_with fail
  refine (idx_nil f w).mono ?_
  rintro e w' ⟨rfl, rfl⟩
  go_wp2
  go_ret
  exact ⟨rfl, rfl⟩
end Go.Proofs.Ytpanakfbbdeihaa
