/-
  PROVED: what a set of keys in a map's block answers to a look-up, a store and a delete; what of memory stays as it was. Conditions: each theorem's own premises.
-/
import Derived.Test.YtpanakfbbdeihaaRows
import Derived.WalkKit
import Derived.WalkSpells
import Derived.WalkLawsBesides
import Derived.Maps.Own
import Derived.Deep.AppendLies
namespace Go.Proofs.Ytpanakfbbdeihaa
open Go.RowKit
set_option linter.unusedVariables false

/-! ### What stays -/

/-- Of what was there, nothing but the blocks of fp has turned. -/
structure Only (fp : List Nat) (w w' : World) : Prop where
  os : w'.os = w.os
  tape : w'.tape = w.tape
  output : w'.output = w.output
  size : w.heap.size ≤ w'.heap.size
  block : ∀ b, b < w.heap.size → b ∉ fp → w'.heap[b]? = w.heap[b]?

theorem Only.refl (fp : List Nat) (w : World) : Only fp w w := ⟨rfl, rfl, rfl, Nat.le_refl _, fun _ _ _ => rfl⟩
theorem Only.trans {fp fp' : List Nat} {a b c : World} (h : Only fp a b) (k : Only fp' b c) (hs : ∀ x ∈ fp', x ∈ fp ∨ a.heap.size ≤ x) : Only fp a c :=
  ⟨k.os.trans h.os, k.tape.trans h.tape, k.output.trans h.output, Nat.le_trans h.size k.size, fun i hi hf => (k.block i (Nat.lt_of_lt_of_le hi h.size) (fun hm => by
    rcases hs i hm with h1 | h1
    · exact hf h1
    · omega)).trans (h.block i hi hf)⟩
theorem Only.of_below {B : Nat} {fp : List Nat} {w w' : World} (h : Below B w w') (hB : w.heap.size ≤ B) : Only fp w w' := ⟨h.os, h.tape, h.output, h.size, fun b hb _ => h.block b (by omega)⟩
theorem Only.alloc {fp : List Nat} {a w : World} (h : Only fp a w) (o : Obj) : Only fp a (w.alloc o) :=
  h.trans (fp' := []) ⟨rfl, rfl, rfl, by simp, fun k hk _ => Below.heap_alloc _ _ _ hk⟩ (fun _ hx => by cases hx)
theorem Only.drew {fp : List Nat} {a w : World} (h : Only fp a w) : Only fp a w.drew := ⟨h.os, h.tape, h.output, h.size, h.block⟩
theorem Only.drewN {fp : List Nat} {a w : World} (h : Only fp a w) (n : Nat) : Only fp a (w.drewN n) := ⟨h.os, h.tape, h.output, h.size, h.block⟩
theorem Only.setCell {fp : List Nat} {a w : World} (h : Only fp a w) {p : Addr} (hp : p.block ∈ fp ∨ a.heap.size ≤ p.block) (u : Value) : Only fp a (w.setCell p u) :=
  h.trans (fp' := [p.block]) ⟨rfl, rfl, rfl, by simp [World.setCell], fun k hk hf => Below.heap_setCell _ _ _ _ (by simpa using hf)⟩ (fun x hx => by simp at hx; subst hx; exact hp)
theorem Only.grown {fp : List Nat} {a w w' : World} {row : Option Nat} (h : Only fp a w) (hg : w.grownBy w' row) (hr : ∀ k, row = some k → k ∈ fp ∨ a.heap.size ≤ k) : Only fp a w' :=
  h.trans (fp' := row.toList) ⟨hg.os, hg.tape, hg.output, hg.size, fun k hk hf => hg.block k hk (fun e => hf (by simp [← e]))⟩ (fun x hx => hr x (by simpa using hx))
theorem Only.mono {fp fp' : List Nat} {a w : World} (h : Only fp a w) (hs : ∀ x ∈ fp, x ∈ fp' ∨ a.heap.size ≤ x) : Only fp' a w :=
  ⟨h.os, h.tape, h.output, h.size, fun b hb hf => h.block b hb (fun hm => by
    rcases hs b hm with h1 | h1
    · exact hf h1
    · omega)⟩
theorem Only.below {fp : List Nat} {w w' : World} (h : Only fp w w') {B : Nat} (hs : ∀ x ∈ fp, B ≤ x) (hB : B ≤ w.heap.size) : Below B w w' :=
  ⟨h.os, h.tape, h.output, h.size, fun b hb => h.block b (by omega) (fun hm => by have := hs b hm; omega)⟩
theorem Only.cell {fp : List Nat} {w w' : World} (h : Only fp w w') {p : Addr} {u : Value} (hc : w.cell? p = some u) (hf : p.block ∉ fp) : w'.cell? p = some u :=
  (World.cell?_of_block (h.block p.block (World.block_lt_of_cell? w p hc) hf)).trans hc

theorem newest (w : World) (o : Obj) : (w.alloc o).heap[w.heap.size]? = some o := heap_alloc_new w o

/-! ### Keys -/
abbrev Key := Int × Int
def kv (k : Key) : Value := .agg #[.int .i64 k.1, .int .i64 k.2]
theorem kv_inj {a b : Key} (h : kv a = kv b) : a = b := by
  obtain ⟨a1, a2⟩ := a
  obtain ⟨b1, b2⟩ := b
  simp [kv] at h
  simp [h]

theorem check28 (em : Bool) (k : Key) (w : World) : (Instr.checkKey em 10000 28 (kv k)).run Try.prog w = .ok () w := by
  obtain ⟨a, b⟩ := k
  exact (by kernel_rfl)
theorem eq28 (x y : Key) (w : World) : (Op.equal 28 (kv x) (kv y)).run Try.prog w = .ok (decide (x = y)) w := by
  obtain ⟨a, b⟩ := x
  obtain ⟨c, d⟩ := y
  have h1 : Try.prog.underlying 28 = some (.struct (Try.prog.fieldsOf 28)) := by kernel_rfl
  have h2 : Try.prog.stoodInHeld 28 = false := by kernel_rfl
  unfold Op.equal Op.maxDepth kv
  rw [run_equalIn_agg _ _ _ _ _ h1 h2]
  simp [go_sem]
  by_cases hac : a = c <;> by_cases hbd : b = d <;> simp [hac, hbd]

theorem asking (k : Key) (w : World) : ∀ (es : List MapEntry) (i : Nat), (∀ e ∈ es, ∃ q : Key, e.key = kv q) →
    ((Instr.findAsking 28 (kv k) es i).run Try.prog w = .ok none w ∧ ∀ e ∈ es, e.key ≠ kv k) ∨
    ∃ j e, (Instr.findAsking 28 (kv k) es i).run Try.prog w = .ok (some (i + j, e.val)) w ∧ es[j]? = some e ∧ e.key = kv k
  | [], i, _ => .inl ⟨rfl, by simp⟩
  | e :: es, i, h => by
    obtain ⟨q, hq⟩ := h e (by simp)
    by_cases hk : k = q
    · subst hk
      refine .inr ⟨0, e, ?_, rfl, hq⟩
      simp [Instr.findAsking, hq, eq28, Result.andThen]
    · rcases asking k w es (i + 1) (fun e he => h e (by simp [he])) with ⟨h1, h2⟩ | ⟨j, e', h1, h2, h3⟩
      · refine .inl ⟨by simp [Instr.findAsking, hq, eq28, hk, h1, Result.andThen], fun e' he' => ?_⟩
        simp at he'
        rcases he' with rfl | he'
        · rw [hq]; exact fun e => hk (kv_inj e).symm
        · exact h2 e' he'
      · exact .inr ⟨j + 1, e', by simp [Instr.findAsking, hq, eq28, hk, h1, Result.andThen]; omega, by simpa using h2, h3⟩

theorem find28 (k : Key) (w : World) (es : List MapEntry) (h : ∀ e ∈ es, ∃ q : Key, e.key = kv q) :
    ((Instr.findKey 28 (kv k) es).run Try.prog w = .ok none w ∧ ∀ e ∈ es, e.key ≠ kv k) ∨
    ∃ j e, (Instr.findKey 28 (kv k) es).run Try.prog w = .ok (some (j, e.val)) w ∧ es[j]? = some e ∧ e.key = kv k := by
  have h1 : Try.prog.underlying 28 = some (.struct (Try.prog.fieldsOf 28)) := by kernel_rfl
  cases es with
  | nil => exact .inl ⟨by simp [Instr.findKey, run_underlying h1, Instr.findNow, Result.andThen], by simp⟩
  | cons e es =>
    have e1 : (Instr.findKey 28 (kv k) (e :: es)).run Try.prog w = (Instr.findAsking 28 (kv k) (e :: es) 0).run Try.prog w := by
      simp [Instr.findKey, run_underlying h1, Instr.findNow, Instr.sameNow, Result.andThen]
    rw [e1]
    rcases asking k w (e :: es) 0 h with h2 | ⟨j, e', h2, h3⟩
    · exact .inl h2
    · exact .inr ⟨j, e', by rw [h2, Nat.zero_add], h3⟩

/-- Block M is a map whose keys are just those of ks, each with true. -/
def HasKeys (w : World) (M : Nat) (ks : List Key) : Prop :=
  ∃ (es : Array MapEntry) (clock : Nat), w.heap[M]? = some (.map es clock) ∧ (∀ e ∈ es.toList, ∃ q : Key, e.key = kv q ∧ e.val = .bool true) ∧
    (es.toList.map (·.key)).Nodup ∧ ∀ q : Key, q ∈ ks ↔ ∃ e ∈ es.toList, e.key = kv q

theorem HasKeys.made (w : World) : HasKeys (w.alloc (.map #[] 0)) w.heap.size [] := ⟨#[], 0, newest _ _, by simp, by simp, by simp⟩
theorem HasKeys.keep {w w' : World} {M : Nat} {ks : List Key} (h : HasKeys w M ks) (hb : w'.heap[M]? = w.heap[M]?) : HasKeys w' M ks := by
  obtain ⟨es, c, h1, h2⟩ := h
  exact ⟨es, c, hb.trans h1, h2⟩
theorem HasKeys.lt {w : World} {M : Nat} {ks : List Key} (h : HasKeys w M ks) : M < w.heap.size := by
  obtain ⟨es, c, h1, h2⟩ := h
  exact (Array.getElem?_eq_some_iff.1 h1).1

theorem under48 : Try.prog.underlying 48 = some (.map 28 4) := by kernel_rfl

theorem HasKeys.look {w : World} {M : Nat} {ks : List Key} (h : HasKeys w M ks) (k : Key) :
    (Instr.lookup 48 (.map (some M)) (kv k) false).run Try.prog w = .ok (.bool (decide (k ∈ ks))) w := by
  obtain ⟨es, c, h1, h2, h3, h4⟩ := h
  rcases find28 k w es.toList (fun e he => (h2 e he).imp fun _ h => h.1) with ⟨f1, f2⟩ | ⟨j, e, f1, f2, f3⟩
  · have : ¬ k ∈ ks := fun hk => by obtain ⟨e, he, hek⟩ := (h4 k).1 hk; exact f2 e he hek
    simp [Instr.lookup, run_underlying under48, MapKept.run_getObj_map h1, check28, f1, this, Result.andThen]
  · have hm := List.mem_of_getElem? f2
    have : k ∈ ks := (h4 k).2 ⟨e, hm, f3⟩
    obtain ⟨q, _, hv⟩ := h2 e hm
    simp [Instr.lookup, run_underlying under48, MapKept.run_getObj_map h1, check28, f1, this, hv, Result.andThen]

theorem HasKeys.congr {w : World} {M : Nat} {ks ls : List Key} (h : HasKeys w M ks) (hm : ∀ q, q ∈ ls ↔ q ∈ ks) : HasKeys w M ls := by
  obtain ⟨es, c, h1, h2, h3, h4⟩ := h
  exact ⟨es, c, h1, h2, h3, fun q => (hm q).trans (h4 q)⟩

theorem set_block (w : World) (M : Nat) (o : Obj) (h : M < w.heap.size) : Only [M] w (ChangeMaps.setBlock w M o) ∧ (ChangeMaps.setBlock w M o).heap[M]? = some o :=
  ⟨⟨rfl, rfl, rfl, by simp [ChangeMaps.setBlock], fun b _ hb => by simp at hb; simp [ChangeMaps.setBlock, Ne.symm hb]⟩, by simp [ChangeMaps.setBlock, h]⟩

theorem HasKeys.store {w : World} {M : Nat} {ks : List Key} (h : HasKeys w M ks) (k : Key) (hk : k ∉ ks) :
    ∃ w', (Instr.mapUpdate 48 (.map (some M)) (kv k) (.bool true)).run Try.prog w = .ok () w' ∧ HasKeys w' M (ks ++ [k]) ∧ Only [M] w w' ∧ w'.heap.size = w.heap.size := by
  have hlt := h.lt
  obtain ⟨es, c, h1, h2, h3, h4⟩ := h
  rcases find28 k w es.toList (fun e he => (h2 e he).imp fun _ h => h.1) with ⟨f1, f2⟩ | ⟨j, e, f1, f2, f3⟩
  · obtain ⟨s1, s2⟩ := set_block w M (.map (es.push ⟨kv k, .bool true, c⟩) (c + 1)) hlt
    refine ⟨_, ?_, ⟨_, _, s2, ?_, ?_, ?_⟩, s1, by simp [ChangeMaps.setBlock]⟩
    · simp [Instr.mapUpdate, run_underlying under48, MapKept.run_getObj_map h1, check28, f1, MapKept.run_setObj_map _ h1, Result.andThen, ChangeMaps.setBlock]
    · intro e he
      simp at he
      rcases he with he | rfl
      · exact h2 e (by simpa using he)
      · exact ⟨k, rfl, rfl⟩
    · simp only [Array.toList_push, List.map_append, List.map_cons, List.map_nil]
      refine List.nodup_append.2 ⟨h3, by simp, fun a ha b hb => ?_⟩
      simp at hb
      subst hb
      obtain ⟨e, he, rfl⟩ := List.mem_map.1 ha
      exact f2 e he
    · intro q
      simp only [List.mem_append, List.mem_singleton, Array.toList_push, h4 q]
      constructor
      · rintro (⟨e, he, hq⟩ | rfl)
        · exact ⟨e, .inl he, hq⟩
        · exact ⟨_, .inr rfl, rfl⟩
      · rintro ⟨e, he | rfl, hq⟩
        · exact .inl ⟨e, he, hq⟩
        · exact .inr (kv_inj hq).symm
  · exact absurd ((h4 k).2 ⟨e, List.mem_of_getElem? f2, f3⟩) hk

theorem mem_eraseIdx_key {l : List MapEntry} {j : Nat} {e : MapEntry} {v : Value} (hn : (l.map (·.key)).Nodup) (hj : l[j]? = some e) (hv : e.key = v) (x : MapEntry) :
    x ∈ l.eraseIdx j ↔ x ∈ l ∧ x.key ≠ v := by
  subst hv
  induction l generalizing j with
  | nil => simp at hj
  | cons a l ih =>
    simp only [List.map_cons, List.nodup_cons] at hn
    cases j with
    | zero =>
      simp at hj
      subst hj
      simp only [List.eraseIdx_cons_zero, List.mem_cons]
      constructor
      · exact fun hx => ⟨.inr hx, fun e => hn.1 (List.mem_map.2 ⟨x, hx, e⟩)⟩
      · rintro ⟨rfl | hx, hne⟩
        · exact absurd rfl hne
        · exact hx
    | succ j =>
      simp at hj
      simp only [List.eraseIdx_cons_succ, List.mem_cons, ih hn.2 hj]
      constructor
      · rintro (rfl | ⟨hx, hne⟩)
        · exact ⟨.inl rfl, fun e2 => hn.1 (List.mem_map.2 ⟨e, List.mem_of_getElem? hj, e2.symm⟩)⟩
        · exact ⟨.inr hx, hne⟩
      · rintro ⟨rfl | hx, hne⟩
        · exact .inl rfl
        · exact .inr ⟨hx, hne⟩

theorem HasKeys.drop {w : World} {M : Nat} {ks : List Key} (h : HasKeys w M ks) (k : Key) :
    ∃ w', (∀ ty, (Builtin.delete_ #[48, 28] ty #[.map (some M), kv k]).run Try.prog w = .ok (.tuple #[]) w') ∧ HasKeys w' M (ks.filter fun q => decide (q ≠ k)) ∧ Only [M] w w' ∧ w'.heap.size = w.heap.size := by
  have hlt := h.lt
  obtain ⟨es, c, h1, h2, h3, h4⟩ := h
  rcases find28 k w es.toList (fun e he => (h2 e he).imp fun _ h => h.1) with ⟨f1, f2⟩ | ⟨j, e, f1, f2, f3⟩
  · obtain ⟨s1, s2⟩ := set_block w M (.map es c) hlt
    refine ⟨_, fun ty => ?_, ⟨_, _, s2, h2, h3, ?_⟩, s1, by simp [ChangeMaps.setBlock]⟩
    · simp [Builtin.delete_, run_underlying under48, MapKept.run_getObj_map h1, check28, f1, MapKept.run_setObj_map _ h1, Result.andThen, ChangeMaps.setBlock]
    · intro q
      simp only [List.mem_filter, decide_eq_true_eq, h4 q]
      constructor
      · exact fun h => h.1
      · rintro ⟨e, he, hq⟩
        exact ⟨⟨e, he, hq⟩, fun e2 => f2 e he (by rw [hq, e2])⟩
  · have hjs : j < es.size := by simpa using (List.getElem?_eq_some_iff.1 f2).1
    have hsub : (es.eraseIdxIfInBounds j).toList = es.toList.eraseIdx j := by
      unfold Array.eraseIdxIfInBounds
      rw [dif_pos hjs]
      simp
    obtain ⟨s1, s2⟩ := set_block w M (.map (es.eraseIdxIfInBounds j) c) hlt
    refine ⟨_, fun ty => ?_, ⟨_, _, s2, ?_, ?_, ?_⟩, s1, by simp [ChangeMaps.setBlock]⟩
    · simp [Builtin.delete_, run_underlying under48, MapKept.run_getObj_map h1, check28, f1, MapKept.run_setObj_map _ h1, Result.andThen, ChangeMaps.setBlock]
    · rw [hsub]
      exact fun x hx => h2 x ((mem_eraseIdx_key h3 f2 f3 x).1 hx).1
    · rw [hsub]
      exact List.Nodup.sublist (List.Sublist.map _ (List.eraseIdx_sublist _ _)) h3
    · intro q
      rw [hsub]
      simp only [List.mem_filter, decide_eq_true_eq, h4 q]
      constructor
      · rintro ⟨⟨x, hx, hq⟩, hne⟩
        exact ⟨x, (mem_eraseIdx_key h3 f2 f3 x).2 ⟨hx, fun e2 => hne (kv_inj (hq.symm.trans e2))⟩, hq⟩
      · rintro ⟨x, hx, hq⟩
        obtain ⟨hx1, hx2⟩ := (mem_eraseIdx_key h3 f2 f3 x).1 hx
        exact ⟨⟨x, hx1, hq⟩, fun e2 => hx2 (by rw [hq, e2])⟩

end Go.Proofs.Ytpanakfbbdeihaa
