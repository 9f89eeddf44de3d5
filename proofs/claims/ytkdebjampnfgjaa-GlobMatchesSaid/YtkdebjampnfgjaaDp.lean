/-
  PROVED: how the reference's row of truths goes on from rune to rune; a row of truths in memory. Conditions: each theorem's own premises.
-/
import Derived.Test.YtkdebjampnfgjaaLive
import Derived.Laws.MakeOwn
namespace Go.Proofs.Ytkdebjampnfgjaa
open Go.RowKit
set_option linter.unusedVariables false

def dp (P T : List Int) (i k : Nat) : Bool := globB (P.take i) (T.take k)

theorem bool_ext {a b : Bool} (h : a = true ↔ b = true) : a = b := by cases a <;> cases b <;> simp_all

theorem dp_zero (P T : List Int) (k : Nat) (hk : k ≤ T.length) : dp P T 0 k = decide (k = 0) := by
  refine bool_ext ?_
  rw [dp, globB_iff, List.take_zero, Mt_nil, decide_eq_true_eq]
  constructor
  · intro h
    have := congrArg List.length h
    rw [List.length_take] at this
    simp at this
    rcases this with h | h
    · exact h
    · subst h; simpa using hk
  · rintro rfl; rfl

theorem take_last {T : List Int} {k : Nat} (hk : k + 1 ≤ T.length) : T.take (k + 1) = T.take k ++ [T[k]'(by omega)] := by
  rw [List.take_add_one]
  simp [show k < T.length by omega]

theorem dp_many (P T : List Int) (i k : Nat) (hi : i < P.length) (hc : P[i] = 37) (hk : k ≤ T.length) : dp P T (i + 1) k = (dp P T i k || (decide (0 < k) && dp P T (i + 1) (k - 1))) := by
  refine bool_ext ?_
  rw [Bool.or_eq_true, Bool.and_eq_true, decide_eq_true_eq]
  simp only [dp, globB_iff]
  rw [take_last (T := P) (k := i) (by omega), hc]
  simp only [Mt_snoc_many]
  constructor
  · rintro ⟨u, v, h, hu⟩
    rcases List.eq_nil_or_concat v with rfl | ⟨x, d, rfl⟩
    · rw [List.append_nil] at h
      exact .inl (by rw [h]; exact hu)
    · have hl := congrArg List.length h
      rw [List.length_take] at hl
      simp at hl
      obtain ⟨k', rfl⟩ : ∃ k', k = k' + 1 := ⟨k - 1, by omega⟩
      rw [take_last hk, List.concat_eq_append, ← List.append_assoc] at h
      have h1 := (List.append_inj' h rfl).1
      exact .inr ⟨by omega, u, x, by simpa using h1, hu⟩
  · rintro (h | ⟨h0, u, v, h, hu⟩)
    · exact ⟨T.take k, [], by simp, h⟩
    · obtain ⟨k', rfl⟩ : ∃ k', k = k' + 1 := ⟨k - 1, by omega⟩
      rw [take_last hk]
      simp only [Nat.add_sub_cancel] at h
      exact ⟨u, v ++ [T[k']], by rw [h, List.append_assoc], hu⟩

theorem dp_one_zero (P T : List Int) (i : Nat) (hi : i < P.length) (hc : P[i] ≠ 37) : dp P T (i + 1) 0 = false := by
  rw [Bool.eq_false_iff]
  intro h
  rw [dp, globB_iff, take_last (T := P) (k := i) (by omega), Mt_snoc_one hc] at h
  obtain ⟨u, d, h, _⟩ := h
  simp at h
theorem dp_one (P T : List Int) (i k : Nat) (hi : i < P.length) (hc : P[i] ≠ 37) (hk : k < T.length) : dp P T (i + 1) (k + 1) = (dp P T i k && (P[i] == 95 || P[i] == T[k])) := by
  refine bool_ext ?_
  rw [Bool.and_eq_true, Bool.or_eq_true, beq_iff_eq, beq_iff_eq]
  simp only [dp, globB_iff]
  rw [take_last (T := P) (k := i) (by omega), Mt_snoc_one hc, take_last (T := T) (k := k) (by omega)]
  constructor
  · rintro ⟨u, d, h, hu, hd⟩
    have h1 := List.append_inj' h rfl
    have h2 : T[k] = d := by simpa using h1.2
    rw [h1.1, h2]
    exact ⟨hu, hd⟩
  · rintro ⟨h, hd⟩
    exact ⟨_, _, rfl, h, hd⟩

/-- n truths in block g. -/
def RowF (w : World) (g : Nat) (f : Nat → Bool) (n : Nat) : Prop := ∃ c : Array Value, w.heap[g]? = some (.cells c 4 (0, 0)) ∧ c.size = n ∧ ∀ j, j < n → c[j]? = some (.bool (f j))
theorem RowF.cell {w : World} {g n : Nat} {f : Nat → Bool} (h : RowF w g f n) (j : Nat) (hj : j < n) : w.cell? ⟨g, j, none⟩ = some (.bool (f j)) := by
  obtain ⟨c, h1, h2, h3⟩ := h
  simp [World.cell?, h1, h3 j hj]
theorem RowF.frozen {w : World} {g n : Nat} {f : Nat → Bool} (h : RowF w g f n) (j : Nat) : w.frozen? ⟨g, j, none⟩ = false := by
  obtain ⟨c, h1, h2, h3⟩ := h
  simp [World.frozen?, h1]
theorem RowF.keep {w w' : World} {g n : Nat} {f : Nat → Bool} (h : RowF w g f n) (hk : w'.heap[g]? = w.heap[g]?) : RowF w' g f n := by
  obtain ⟨c, h1, h2, h3⟩ := h
  exact ⟨c, hk.trans h1, h2, h3⟩
theorem RowF.lt {w : World} {g n : Nat} {f : Nat → Bool} (h : RowF w g f n) : g < w.heap.size := by
  obtain ⟨c, h1, _⟩ := h
  exact lt_of_block' h1
theorem RowF.congr {w : World} {g n : Nat} {f f' : Nat → Bool} (h : RowF w g f n) (e : ∀ j, j < n → f' j = f j) : RowF w g f' n := by
  obtain ⟨c, h1, h2, h3⟩ := h
  exact ⟨c, h1, h2, fun j hj => by rw [e j hj]; exact h3 j hj⟩
theorem RowF.set {w : World} {g n : Nat} {f : Nat → Bool} (h : RowF w g f n) (k : Nat) (hk : k < n) (b : Bool) : RowF (w.setCell ⟨g, k, none⟩ (.bool b)) g (fun j => if j = k then b else f j) n := by
  obtain ⟨c, h1, h2, h3⟩ := h
  refine ⟨c.setIfInBounds k (.bool b), ?_, by simp [h2], fun j hj => ?_⟩
  · show (w.heap.modify g _)[g]? = _
    rw [Array.getElem?_modify, if_pos rfl, h1]
    rfl
  · by_cases e : j = k
    · subst e; simp [h2, hj]
    · simp only [Array.getElem?_setIfInBounds_ne (Ne.symm e), if_neg e]; exact h3 j hj
theorem RowF.setOther {w : World} {g g' n : Nat} {f : Nat → Bool} (h : RowF w g f n) (hne : g ≠ g') (k : Nat) (u : Value) : RowF (w.setCell ⟨g', k, none⟩ u) g f n :=
  h.keep (Below.heap_setCell _ _ _ _ hne)
theorem RowF.made (w : World) (n : Nat) (c : Array Value) (hc : c.size = n) (h : ∀ j, j < n → c[j]? = some (.bool false)) : RowF (w.alloc (.cells c 4)) w.heap.size (fun _ => false) n :=
  ⟨c, newest w _, hc, h⟩

theorem Bool.info : (Try.prog.info? 4).map (fun i => (i.zero, i.size, i.bytes)) = some (some (.bool false), 1, 1) := by kernel_rfl

/-- A new row of truths. -/
theorem make_row (n : Nat) (hn : n ≤ 300) : ∃ C : Array Value, C.size = n + 1 ∧ (∀ j, j < n + 1 → C[j]? = some (.bool false)) ∧ ∀ w : World,
    (Instr.makeSlice 34 (.int .i64 ((n : Int) + 1)) (.int .i64 ((n : Int) + 1))).run Try.prog w = .ok (.slice (some ⟨w.heap.size, 0, none⟩) (n + 1) (n + 1)) (w.alloc (.cells C 4)) := by
  obtain ⟨i0, hi, hz0, hz1, hz2⟩ := info_parts Bool.info
  refine ⟨madeCells (Value.bool false).cells ((n + 1) * i0.size), by rw [size_madeCells, hz1]; omega, fun j hj => ?_, fun w => ?_⟩
  · rw [hz1]
    simp [madeCells, Value.cells, hj, Nat.mod_one]
  · have := run_make (P := Try.prog) w 34 4 i0 (.bool false) Try.underlying34 hi hz0 .i64 .i64 ((n : Int) + 1) ((n : Int) + 1) (by omega) (by omega) (by rw [hz2]; omega) (by omega)
    have e : ((n : Int) + 1).toNat = n + 1 := by omega
    rw [e] at this
    exact this

def RMatchEnd (w0 : World) (p s : ByteArray) (e : Ending) (w : World) : Prop := e = .returned (.bool (globB (folded p) (folded s))) ∧ Below w0.heap.size w0 w

structure RowRel (W : World) (P T : List Int) (g i : Nat) (w : World) : Prop where
  row : RowF w g (dp P T i) (T.length + 1)
  below : Below W.heap.size W w
  hg : W.heap.size ≤ g

structure NextRel (W : World) (P T : List Int) (g g' i k : Nat) (w : World) : Prop where
  row : RowF w g (dp P T i) (T.length + 1)
  next : RowF w g' (fun j => if j < k then dp P T (i + 1) j else false) (T.length + 1)
  below : Below W.heap.size W w
  hg : W.heap.size ≤ g
  hg' : W.heap.size ≤ g'
  ne : g ≠ g'

theorem NextRel.set {W w : World} {P T : List Int} {g g' i k : Nat} (h : NextRel W P T g g' i k w) (hk : k < T.length + 1) (b : Bool) (hb : b = dp P T (i + 1) k) : NextRel W P T g g' i (k + 1) (w.setCell ⟨g', k, none⟩ (.bool b)) := by
  refine ⟨h.row.setOther h.ne _ _, (h.next.set k hk b).congr (fun j hj => ?_), h.below.setCell (p := ⟨g', k, none⟩) h.hg' _, h.hg, h.hg', h.ne⟩
  by_cases e : j = k
  · subst e; simp [hb]
  · by_cases e2 : j < k
    · simp [e, e2, show j < k + 1 by omega]
    · simp [e, e2, show ¬ j < k + 1 by omega]

theorem NextRel.drewN {W w : World} {P T : List Int} {g g' i k : Nat} (h : NextRel W P T g g' i k w) (n : Nat) : NextRel W P T g g' i k (w.drewN n) :=
  ⟨h.row.keep rfl, h.next.keep rfl, below_drewN h.below n, h.hg, h.hg', h.ne⟩
theorem NextRel.drew {W w : World} {P T : List Int} {g g' i k : Nat} (h : NextRel W P T g g' i k w) : NextRel W P T g g' i k w.drew :=
  ⟨h.row.keep rfl, h.next.keep rfl, h.below.drew, h.hg, h.hg', h.ne⟩
theorem RowRel.start {W w : World} {P T : List Int} {g i : Nat} {C : Array Value} (h : RowRel W P T g i w) (hC : C.size = T.length + 1) (hC2 : ∀ j, j < T.length + 1 → C[j]? = some (.bool false)) : NextRel W P T g w.heap.size i 0 (w.alloc (.cells C 4)) :=
  ⟨h.row.keep (Below.heap_alloc _ _ _ h.row.lt), (RowF.made w (T.length + 1) C hC hC2).congr (fun j _ => by simp), h.below.alloc h.below.size _, h.hg, h.below.size, Nat.ne_of_lt h.row.lt⟩
theorem NextRel.finish {W w : World} {P T : List Int} {g g' i : Nat} (h : NextRel W P T g g' i (T.length + 1) w) : RowRel W P T g' (i + 1) w :=
  ⟨h.next.congr (fun j hj => by simp [hj]), h.below, h.hg'⟩

end Go.Proofs.Ytkdebjampnfgjaa
