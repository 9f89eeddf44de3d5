/-
  PROVED: contracts of the queue's 'New', 'is', 'Len' and 'Put'. Conditions: each theorem's own premises.
-/
import Derived.Test.YtpanakfbbdeihaaMem
import Derived.BigQuiet
import Derived.Deep.QuietTactic
import Derived.Lib.Hide
import Derived.Laws.EntriesVeiled
import Derived.Deep.DeepMust
import Derived.Deep.LoopGhost
import Derived.Deep.RegionLaw
import Derived.Deep.RegionHeld3
namespace Go.Proofs.Ytpanakfbbdeihaa
open Go.RowKit
set_option linter.unusedVariables false

/-- A key's cells; a list's. -/
def kc (k : Key) : List Value := [.int .i64 k.1, .int .i64 k.2]
def cs (ks : List Key) : List Value := ks.flatMap kc
theorem cs_length (ks : List Key) : (cs ks).length = ks.length * 2 := by
  induction ks with
  | nil => rfl
  | cons k ks ih => simp [cs, kc] at ih ⊢; omega
theorem cs_append (a b : List Key) : cs (a ++ b) = cs a ++ cs b := by simp [cs]

/-- The queue at block Q, its map at M, its slice v, what waits ks. -/
structure QAt (B : Nat) (w : World) (Q M : Nat) (v : Value) (ks : List Key) : Prop where
  q : w.heap[Q]? = some (.cells #[v, .map (some M)] 50 (0, 0))
  row : w.ownsRow B 28 2 v ks.length (cs ks)
  map : HasKeys w M ks
  bq : B ≤ Q
  bm : B ≤ M
  nodup : ks.Nodup
  len : ks.length ≤ 64

/-- The queue's blocks. -/
def qfp (Q M : Nat) (v : Value) : List Nat := Q :: M :: v.ownBlock.toList

theorem QAt.keep {B : Nat} {w w' : World} {Q M : Nat} {v : Value} {ks : List Key} (h : QAt B w Q M v ks) (hb : ∀ b ∈ qfp Q M v, w'.heap[b]? = w.heap[b]?) : QAt B w' Q M v ks := by
  refine ⟨(hb Q (by simp [qfp])).trans h.q, ⟨h.row.1, ?_⟩, h.map.keep (hb M (by simp [qfp])), h.bq, h.bm, h.nodup, h.len⟩
  rcases h.row.2 with hn | ⟨g, cap, cur, rfl, hg, hh, r⟩
  · exact .inl hn
  · exact .inr ⟨g, cap, cur, rfl, hg, (hb g (by simp [qfp, Value.ownBlock])).trans hh, r⟩

theorem QAt.lt {B : Nat} {w : World} {Q M : Nat} {v : Value} {ks : List Key} (h : QAt B w Q M v ks) : ∀ b ∈ qfp Q M v, B ≤ b ∧ b < w.heap.size := by
  intro b hb
  simp only [qfp, List.mem_cons, Option.mem_toList] at hb
  rcases hb with rfl | rfl | hb
  · exact ⟨h.bq, lt_of_block h.q⟩
  · exact ⟨h.bm, h.map.lt⟩
  · exact h.row.lt b hb

theorem QAt.only {B : Nat} {w w' : World} {Q M : Nat} {v : Value} {ks : List Key} (h : QAt B w Q M v ks) {fp : List Nat} (ho : Only fp w w') (hf : ∀ b ∈ qfp Q M v, b ∉ fp) : QAt B w' Q M v ks :=
  h.keep fun b hb => ho.block b (h.lt b hb).2 (hf b hb)
theorem QAt.below {B : Nat} {w w' : World} {Q M : Nat} {v : Value} {ks : List Key} (h : QAt B w Q M v ks) (ho : Below w.heap.size w w') : QAt B w' Q M v ks :=
  h.keep fun b hb => ho.block b (h.lt b hb).2

theorem under48' : Try.prog.underlying 48 = some (.map 28 4) := under48

/-- 'is' of a queue that New made. -/
theorem is_any {B : Nat} {w : World} {Q M : Nat} {v : Value} {ks : List Key} (h : QAt B w Q M v ks) :
    Calls Try.prog 18 #[.pointer (some ⟨Q, 0, none⟩)] w fun e w' => e = .returned (.bool true) ∧ w = w' := by
  have c1 : w.cell? ⟨Q, 1, none⟩ = some (.map (some M)) := by simp [World.cell?, h.q]
  have qT : ∀ (w : World) (r : Option Nat), (binOp .neq 48 (.map r) (.map none)).run Try.prog w = .ok (.bool (!r.isNone)) w := fun w r => run_neq_map_nil w _ _ _ r under48
  clear h
  go_enter Try.func18, Try.ntmps18
  go_wp2
  go_ret
  exact ⟨rfl, rfl⟩

theorem is_nil (w : World) : Calls Try.prog 18 #[.pointer none] w fun e w' => e = .returned (.bool false) ∧ w = w' := by
  go_enter Try.func18, Try.ntmps18
  go_wp2
  go_ret
  exact ⟨rfl, rfl⟩

theorem is_bare (w : World) (Q : Nat) (v : Value) (h : w.cell? ⟨Q, 1, none⟩ = some (.map none)) : Calls Try.prog 18 #[.pointer (some ⟨Q, 0, none⟩)] w fun e w' => e = .returned (.bool false) ∧ w = w' := by
  have qT : ∀ (w : World) (r : Option Nat), (binOp .neq 48 (.map r) (.map none)).run Try.prog w = .ok (.bool (!r.isNone)) w := fun w r => run_neq_map_nil w _ _ _ r under48
  go_enter Try.func18, Try.ntmps18
  go_wp2
  go_ret
  exact ⟨rfl, rfl⟩

theorem own_shape {w : World} {B n : Nat} {v : Value} {xs : List Value} (h : w.ownsRow B 28 2 v n xs) : ∃ a cap, v = .slice a n cap ∧ n ≤ cap ∧ cap ≤ maxLen := by
  rcases h.2 with ⟨rfl, rfl⟩ | ⟨g, cap, cur, rfl, _, _, hc, hm, _⟩
  · exact ⟨none, 0, rfl, Nat.le_refl _, by unfold maxLen; omega⟩
  · exact ⟨_, cap, rfl, hc, hm⟩

theorem len_any {B : Nat} {w : World} {Q M : Nat} {v : Value} {ks : List Key} (h : QAt B w Q M v ks) :
    Calls Try.prog 17 #[.pointer (some ⟨Q, 0, none⟩)] w fun e w' => e = .returned (.int .i64 ks.length) ∧ w = w' := by
  have C := Lib.hid (is_any h)
  obtain ⟨a, cap, rfl, hc, hm⟩ := own_shape h.row
  have c0 : w.cell? ⟨Q, 0, none⟩ = some (.slice a ks.length cap) := by simp [World.cell?, h.q]
  have hl := h.len
  clear h
  go_enter Try.func17, Try.ntmps17
  go_wp2_with fail
  refine C.out.mono ?_
  rintro e w' ⟨rfl, rfl⟩
  go_wp2
  go_ret
  exact ⟨rfl, rfl⟩

def NewEnd (w : World) (e : Ending) (w' : World) : Prop :=
  ∃ Q M v, e = .returned (.pointer (some ⟨Q, 0, none⟩)) ∧ QAt w.heap.size w' Q M v [] ∧ Below w.heap.size w w' ∧ v.ownBlock = none

theorem new_any (w : World) : Calls Try.prog 7 #[] w (NewEnd w) := by
  have hmm := @run_makeMap Try.prog
  have q1 : QAt w.heap.size ((w.alloc (Obj.map #[] 0)).alloc (Obj.cells #[Value.slice none 0 0, Value.map (some w.heap.size)] 50)) (w.heap.size + 1) w.heap.size (.slice none 0 0) [] :=
    ⟨by simpa using newest (w.alloc (Obj.map #[] 0)) (Obj.cells #[Value.slice none 0 0, Value.map (some w.heap.size)] 50), World.ownsRow_nil _ _ _ _, (HasKeys.made w).keep (Below.heap_alloc _ _ _ (by simp)), by omega, by omega, by simp, by simp⟩
  have Q1 := Lib.hid q1
  clear q1
  go_enter Try.func7, Try.ntmps7
  go_wp2
  go_ret
  exact ⟨_, _, _, rfl, Q1.out, ((Below.refl _ w).alloc (Nat.le_refl _) _).alloc (by simp) _, rfl⟩

/-- A contract's end: the world as it was. -/
theorem quiet {f : FuncId} {args : Array Value} {w : World} {n : Nat} {v : Value} (h : Calls Try.prog f args (w.drewN n) fun e w' => e = .returned v ∧ w.drewN n = w') :
    Calls Try.prog f args (w.drewN n) fun e w'' => e = .returned v ∧ ∃ m, w'' = w.drewN m :=
  h.mono fun _ _ ⟨he, hw⟩ => ⟨he, n, hw.symm⟩

theorem QAt.drewN {B : Nat} {w : World} {Q M : Nat} {v : Value} {ks : List Key} (h : QAt B w Q M v ks) (n : Nat) : QAt B (w.drewN n) Q M v ks := h.keep fun _ _ => rfl
theorem QAt.alloc {B : Nat} {w : World} {Q M : Nat} {v : Value} {ks : List Key} (h : QAt B w Q M v ks) (o : Obj) : QAt B (w.alloc o) Q M v ks := h.keep fun b hb => Below.heap_alloc _ _ _ (h.lt b hb).2

/-- What Put leaves: the queue's blocks, or new ones. -/
def PutEnd (B : Nat) (w : World) (Q M : Nat) (v : Value) (ks : List Key) (k : Key) (e : Ending) (w' : World) : Prop :=
  ∃ v', e = .returned (.bool (decide (k ∉ ks ∧ ks.length < 64))) ∧ QAt B w' Q M v' (if k ∉ ks ∧ ks.length < 64 then ks ++ [k] else ks) ∧ Only (qfp Q M v) w w' ∧ (v'.ownBlock = v.ownBlock ∨ ∀ b, v'.ownBlock = some b → w.heap.size ≤ b)

/-- A world behind a box of a key. -/
structure Boxed (w : World) (a b : Int) (W : World) : Prop where
  only : Only [] w W
  size : W.heap.size = w.heap.size + 1
  block : W.heap[w.heap.size]? = some (.cells #[.int .i64 a, .int .i64 b] 28 (0, 0))
theorem boxed (w : World) (a b : Int) : ∃ W, w.alloc (.cells #[.int .i64 a, .int .i64 b] 28) = W ∧ Boxed w a b W :=
  ⟨_, rfl, (Only.refl _ w).alloc _, by simp, newest _ _⟩

theorem put_has {B : Nat} {w : World} {Q M : Nat} {v : Value} {ks : List Key} (h : QAt B w Q M v ks) (a b : Int) (hk : (a, b) ∈ ks) :
    Calls Try.prog 8 #[.pointer (some ⟨Q, 0, none⟩), .agg #[.int .i64 a, .int .i64 b]] w (PutEnd B w Q M v ks (a, b)) := by
  obtain ⟨W, hW, bx⟩ := boxed w a b
  have h1 : QAt B W Q M v ks := h.only bx.only (by simp)
  have HK := Lib.hid hk
  have C := Lib.hid (fun n => is_any (h1.drewN n))
  have L : ∀ n, (Instr.lookup 48 (.map (some M)) (.agg #[.int .i64 a, .int .i64 b]) false).run Try.prog (W.drewN n) = .ok (.bool true) (W.drewN n) := fun n => by
    have := (h1.drewN n).map.look (a, b)
    rw [decide_eq_true hk] at this
    exact this
  have c1 : W.cell? ⟨Q, 1, none⟩ = some (.map (some M)) := by simp [World.cell?, h1.q]
  have b0 : W.cell? ⟨w.heap.size, 0, none⟩ = some (.int .i64 a) := by simp [World.cell?, bx.block]
  have b1 : W.cell? ⟨w.heap.size, 1, none⟩ = some (.int .i64 b) := by simp [World.cell?, bx.block]
  have H1 := Lib.hid h1
  have BX := Lib.hid bx
  have H0 := Lib.hid h
  clear h h1 hk bx
  go_enter Try.func8, Try.ntmps8
  go_wp2_with fail
  clear hW
  go_quiet ((go_at_call 18; exact quiet (C.out _)))
  go_wp2
  go_ret
  refine ⟨v, ?_, ?_, (BX.out.only.drewN _).mono (by simp), .inl rfl⟩
  · have := HK.out
    simp [this]
  · have := HK.out
    rw [if_neg (by simp [this])]
    exact H1.out.drewN _

theorem put_full {B : Nat} {w : World} {Q M : Nat} {v : Value} {ks : List Key} (h : QAt B w Q M v ks) (a b : Int) (hk : (a, b) ∉ ks) (hl : ¬ ks.length < 64) :
    Calls Try.prog 8 #[.pointer (some ⟨Q, 0, none⟩), .agg #[.int .i64 a, .int .i64 b]] w (PutEnd B w Q M v ks (a, b)) := by
  obtain ⟨W, hW, bx⟩ := boxed w a b
  have h1 : QAt B W Q M v ks := h.only bx.only (by simp)
  have HL := Lib.hid hl
  have C := Lib.hid (fun n => is_any (h1.drewN n))
  have L : ∀ n, (Instr.lookup 48 (.map (some M)) (.agg #[.int .i64 a, .int .i64 b]) false).run Try.prog (W.drewN n) = .ok (.bool false) (W.drewN n) := fun n => by
    have := (h1.drewN n).map.look (a, b)
    rw [decide_eq_false hk] at this
    exact this
  obtain ⟨ad, cap, rfl, hc, hm⟩ := own_shape h.row
  have c0 : W.cell? ⟨Q, 0, none⟩ = some (.slice ad ks.length cap) := by simp [World.cell?, h1.q]
  have c1 : W.cell? ⟨Q, 1, none⟩ = some (.map (some M)) := by simp [World.cell?, h1.q]
  have b0 : W.cell? ⟨w.heap.size, 0, none⟩ = some (.int .i64 a) := by simp [World.cell?, bx.block]
  have b1 : W.cell? ⟨w.heap.size, 1, none⟩ = some (.int .i64 b) := by simp [World.cell?, bx.block]
  have h64 : (64 : Int) ≤ ks.length := by omega
  have hN : 64 ≤ ks.length := by omega
  have H1 := Lib.hid h1
  have BX := Lib.hid bx
  clear h h1 hk bx hl
  go_enter Try.func8, Try.ntmps8
  go_wp2_with fail
  clear hW
  go_quiet ((go_at_call 18; exact quiet (C.out _)))
  go_wp2
  go_ret
  refine ⟨.slice ad ks.length cap, ?_, ?_, (BX.out.only.drewN _).mono (by simp), .inl rfl⟩
  · have := HL.out
    simp [this]
  · rw [if_neg (fun e => HL.out e.2)]
    exact H1.out.drewN _

theorem Key.info : (Try.prog.info? 28).map (fun i => (i.zero, i.size, i.bytes)) = some (some (.agg #[.int .i64 0, .int .i64 0]), 2, 16) := by kernel_rfl

theorem news2 (W : World) (a b : Int) (j : Nat) (u : Value) (hj : [Value.int .i64 a, Value.int .i64 b][j]? = some u) :
    (W.alloc (.cells #[.int .i64 a, .int .i64 b] 28)).cell? ((⟨W.heap.size, 0, none⟩ : Addr).add j) = some u := by
  match j, hj with
  | 0, hj => simp at hj; subst hj; simp [Addr.add]
  | 1, hj => simp at hj; subst hj; simp [Addr.add]
theorem one2 (a b : Int) : ∀ u ∈ [Value.int .i64 a, Value.int .i64 b], u.oneCell' = true := by
  intro u hu
  simp at hu
  rcases hu with rfl | rfl <;> rfl

theorem QAt.apart {B : Nat} {w : World} {Q M : Nat} {v : Value} {ks : List Key} (h : QAt B w Q M v ks) : v.ownBlock ≠ some Q ∧ v.ownBlock ≠ some M ∧ Q ≠ M := by
  obtain ⟨es, c, hm, _⟩ := h.map
  refine ⟨fun e => ?_, fun e => ?_, fun e => ?_⟩
  · rcases h.row.2 with ⟨rfl, _⟩ | ⟨g, cap, cur, rfl, _, hg, _⟩
    · cases e
    · obtain rfl : g = Q := by simpa [Value.ownBlock] using e
      rw [h.q] at hg
      simp at hg
  · rcases h.row.2 with ⟨rfl, _⟩ | ⟨g, cap, cur, rfl, _, hg, _⟩
    · cases e
    · obtain rfl : g = M := by simpa [Value.ownBlock] using e
      rw [hm] at hg
      simp at hg
  · subst e
    rw [h.q] at hm
    simp at hm

/-- Behind Put's append. -/
structure PutMid (B : Nat) (w W1 : World) (Q M : Nat) (v v' : Value) (ks : List Key) (k : Key) (W : World) : Prop where
  q : W.heap[Q]? = some (.cells #[v, .map (some M)] 50 (0, 0))
  row : W.ownsRow B 28 2 v' (ks.length + 1) (cs ks ++ kc k)
  map : HasKeys W M ks
  only : Only (qfp Q M v) w W
  own : v'.ownBlock = v.ownBlock ∨ ∀ b, v'.ownBlock = some b → w.heap.size ≤ b
  box : ∀ u, W1.heap[w.heap.size]? = some u → W.heap[w.heap.size]? = some u

theorem put_mid {B : Nat} {w W1 W2 : World} {Q M : Nat} {v v' : Value} {ks : List Key} {k : Key} (h0 : QAt B w Q M v ks) (h : QAt B W1 Q M v ks) (ho : Only [] w W1)
    (hown : W2.ownsRow B 28 2 v' (ks.length + 1) (cs ks ++ kc k)) (hgrow' : (W1.alloc (.cells #[.int .i64 k.1, .int .i64 k.2] 28)).drew.grownBy W2 v.ownBlock)
    (hat : v'.ownBlock = v.ownBlock ∨ v'.ownBlock = some (W1.heap.size + 1)) : PutMid B w W1 Q M v v' ks k W2 := by
  obtain ⟨a1, a2, a3⟩ := h.apart
  have hgrow : (W1.alloc (.cells #[.int .i64 k.1, .int .i64 k.2] 28)).grownBy W2 v.ownBlock := ⟨hgrow'.os, hgrow'.tape, hgrow'.output, hgrow'.size, hgrow'.block⟩
  have h' := h.alloc (.cells #[.int .i64 k.1, .int .i64 k.2] 28)
  refine ⟨(hgrow.block Q (lt_of_block h'.q) (fun e => a1 e.symm)).trans h'.q, hown, h'.map.keep (hgrow.block M h'.map.lt (fun e => a2 e.symm)), ?_, ?_, ?_⟩
  · refine ((ho.alloc _).mono (by simp)).grown hgrow (fun b hb => .inl ?_)
    simp [qfp, hb]
  · rcases hat with h1 | h1
    · exact .inl h1
    · exact .inr (fun b hb => by rw [h1] at hb; have := ho.size; simp at hb; omega)
  · intro u hu
    have hlt := lt_of_block hu
    refine (hgrow.block _ (by simp; omega) (fun e => ?_)).trans ((Below.heap_alloc _ _ _ hlt).trans hu)
    have := (h0.lt w.heap.size (by simp [qfp, ← e])).2
    omega

/-- Behind Put's last store. -/
theorem put_last {B : Nat} {w W1 W2 W4 : World} {Q M : Nat} {v v' : Value} {ks : List Key} {a b : Int} (h : QAt B w Q M v ks) (hm : PutMid B w W1 Q M v v' ks (a, b) W2) (hk : (a, b) ∉ ks) (hl : ks.length < 64)
    (hs : HasKeys W4 M (ks ++ [(a, b)])) (ho : Only [M] (W2.setCell ⟨Q, 0, none⟩ v') W4) : PutEnd B w Q M v ks (a, b) (.returned (.bool true)) W4 := by
  have hQM : Q ≠ M := h.apart.2.2
  have hW2 : W2.heap.size ≤ W4.heap.size := by have := ho.size; simpa [World.setCell] using this
  have q3 : (W2.setCell ⟨Q, 0, none⟩ v').heap[Q]? = some (.cells #[v', .map (some M)] 50 (0, 0)) := by
    have hlt := lt_of_block hm.q
    have h' : W2.heap[Q] = .cells #[v, .map (some M)] 50 (0, 0) := by simpa [Array.getElem?_eq_getElem hlt] using hm.q
    show (W2.heap.modify Q _)[Q]? = _
    rw [Array.getElem?_eq_getElem (by simpa using hlt), Array.getElem_modify_self, h']
    rfl
  have hc : cs (ks ++ [(a, b)]) = cs ks ++ kc (a, b) := by simp [cs]
  have hcond : (a, b) ∉ ks ∧ ks.length < 64 := ⟨hk, hl⟩
  refine ⟨v', by simp [hk, hl], ?_, ?_, hm.own⟩
  · rw [if_pos hcond]
    refine ⟨?_, ?_, hs, h.bq, h.bm, List.nodup_append.2 ⟨h.nodup, by simp, fun x hx y hy => by simp at hy; subst hy; exact fun e => hk (e ▸ hx)⟩, by simp; omega⟩
    · exact (ho.block Q (lt_of_block q3) (by simpa using hQM)).trans q3
    · rw [hc]
      rcases hm.row with ⟨r1, r2⟩
      refine ⟨by simpa using r1, ?_⟩
      rcases r2 with ⟨_, h0⟩ | ⟨g, cap, cur, rfl, hg, hh, r⟩
      · omega
      · have hgQ : g ≠ Q := fun e => by subst e; rw [hm.q] at hh; simp at hh
        have hgM : g ≠ M := fun e => by subst e; obtain ⟨es, c, hmm, _⟩ := hm.map; rw [hmm] at hh; simp at hh
        have e3 : (W2.setCell ⟨Q, 0, none⟩ (.slice (some ⟨g, 0, none⟩) (ks.length + 1) cap)).heap[g]? = some (.cells cur 28 (0, 0)) := (Below.heap_setCell _ _ _ _ hgQ).trans hh
        exact .inr ⟨g, cap, cur, by simp, hg, (ho.block g (lt_of_block e3) (by simpa using hgM)).trans e3, by simpa using r⟩
  · exact (hm.only.setCell (.inl (by simp [qfp])) _).trans ho (fun x hx => .inl (by simp at hx; simp [qfp, hx]))

set_option maxHeartbeats 400000 in
theorem put_new {B : Nat} {w : World} {Q M : Nat} {v : Value} {ks : List Key} (h : QAt B w Q M v ks) (a b : Int) (hk : (a, b) ∉ ks) (hl : ks.length < 64) :
    Calls Try.prog 8 #[.pointer (some ⟨Q, 0, none⟩), .agg #[.int .i64 a, .int .i64 b]] w (PutEnd B w Q M v ks (a, b)) := by
  obtain ⟨i0, hi, hz0, hz1, hz2⟩ := info_parts Key.info
  obtain ⟨W, hW, bx⟩ := boxed w a b
  have h1 : QAt B W Q M v ks := h.only bx.only (by simp)
  have HK := Lib.hid hk
  have C := Lib.hid (fun n => is_any (h1.drewN n))
  have L : ∀ n, (Instr.lookup 48 (.map (some M)) (.agg #[.int .i64 a, .int .i64 b]) false).run Try.prog (W.drewN n) = .ok (.bool false) (W.drewN n) := fun n => by
    have := (h1.drewN n).map.look (a, b)
    rw [decide_eq_false hk] at this
    exact this
  obtain ⟨ad, cap, rfl, hc, hm⟩ := own_shape h.row
  have c0 : W.cell? ⟨Q, 0, none⟩ = some (.slice ad ks.length cap) := by simp [World.cell?, h1.q]
  have c1 : W.cell? ⟨Q, 1, none⟩ = some (.map (some M)) := by simp [World.cell?, h1.q]
  have b0 : W.cell? ⟨w.heap.size, 0, none⟩ = some (.int .i64 a) := by simp [World.cell?, bx.block]
  have b1 : W.cell? ⟨w.heap.size, 1, none⟩ = some (.int .i64 b) := by simp [World.cell?, bx.block]
  have h64 : (ks.length : Int) < 64 := by omega
  have H1 := Lib.hid h1
  have BX := Lib.hid bx
  have H0 := Lib.hid h
  clear h h1 hk bx
  go_enter Try.func8, Try.ntmps8
  go_wp2_with fail
  clear hW
  go_quiet ((go_at_call 18; exact quiet (C.out _)))
  go_wp2_with fail
  clear L
  have H2 := Lib.hid (H1.out.drewN nq)
  have r0 : (W.drewN nq).cell? ⟨Q, 0, none⟩ = some (.slice ad ks.length cap) := c0
  have r1 : (W.drewN nq).cell? ⟨Q, 1, none⟩ = some (.map (some M)) := c1
  have r2 : (W.drewN nq).cell? ⟨w.heap.size, 0, none⟩ = some (.int .i64 a) := b0
  have r3 : (W.drewN nq).cell? ⟨w.heap.size, 1, none⟩ = some (.int .i64 b) := b1
  have o1 : Hid (Only [] w (W.drewN nq)) := Lib.hid (BX.out.only.drewN _)
  have bk : Hid ((W.drewN nq).heap[w.heap.size]? = some (.cells #[.int .i64 a, .int .i64 b] 28 (0, 0))) := Lib.hid BX.out.block
  clear c0 c1 b0 b1 H1 BX C
  generalize W.drewN nq = W1 at *
  have hQ : Q < W1.heap.size := lt_of_block H2.out.q
  have hbx : w.heap.size < W1.heap.size := by
    rcases Nat.lt_or_ge w.heap.size W1.heap.size with h | h
    · exact h
    · simp [World.cell?, Array.getElem?_eq_none h] at r2
  have HO : Hid (W1.ownsRow B 28 2 (.slice ad ks.length cap) ks.length (cs ks)) := Lib.hid H2.out.row
  have HB : B ≤ W1.heap.size := by have := H2.out.bq; omega
  have P := Lib.hid (fun v' W2 => put_mid (v' := v') (W2 := W2) (k := (a, b)) H0.out H2.out o1.out)
  clear HB
  go_region_law (refine step_append_lies _ rfl (.tmp 28) (.tmp 30) 44 rfl B 28 i0 (.agg #[.int .i64 0, .int .i64 0]) 2 16 Try.underlying44 hi hz0 hz1 hz2 rfl (by decide) (.slice ad ks.length cap) ks.length (cs ks) rfl (by exact HO.out.alloc _) ⟨W1.heap.size, 0, none⟩ 1 1 [.int .i64 a, .int .i64 b] rfl rfl (by exact fun j u hj => news2 W1 a b j u hj) (one2 a b) (by decide) (by unfold maxLen; omega) (by omega) (by have := H2.out.bq; simp; omega) (W1.heap.size + 1) (by simp) ?_; intro g cap' W2 hown hgrow hat hlt; have PM := Lib.hid (P.out _ W2 hown hgrow (by rcases hat with h | h; exact .inl h.symm; exact .inr (by rw [h]; rfl))); have f0 : W2.cell? ⟨Q, 0, none⟩ = some (.slice ad ks.length cap) := (by have := PM.out.q; simp [World.cell?, this]); have f1 : W2.frozen? ⟨Q, 0, none⟩ = false := (by have := PM.out.q; simp [World.frozen?, this]); clear hown hgrow hat hlt)
  all_goals
    have hQw : Q < w.heap.size := lt_of_block H0.out.q
    have f2 : W2.cell? ⟨Q, 1, none⟩ = some (.map (some M)) := by have := PM.out.q; simp [World.cell?, this]
    have f3 : W2.cell? ⟨w.heap.size, 0, none⟩ = some (.int .i64 a) := by have := PM.out.box _ bk.out; simp [World.cell?, this]
    have f4 : W2.cell? ⟨w.heap.size, 1, none⟩ = some (.int .i64 b) := by have := PM.out.box _ bk.out; simp [World.cell?, this]
    obtain ⟨W4, hu, hk4, ho4, _⟩ := HasKeys.store (w := (W2.setCell ⟨Q, 0, none⟩ (.slice (some ⟨g, 0, none⟩) (ks.length + 1) cap')).drew) (PM.out.map.keep (Below.heap_setCell _ _ _ _ (Ne.symm H0.out.apart.2.2))) (a, b) HK.out
    have hu' : (Instr.mapUpdate 48 (.map (some M)) (.agg #[.int .i64 a, .int .i64 b]) (.bool true)).run Try.prog ((W2.setCell ⟨Q, 0, none⟩ (.slice (some ⟨g, 0, none⟩) (ks.length + 1) cap')).drew) = .ok () W4 := hu
    have R := Lib.hid (put_last H0.out PM.out HK.out hl hk4 ⟨ho4.os, ho4.tape, ho4.output, ho4.size, ho4.block⟩)
    clear hu hk4 ho4 f0 f1 r0 r1 r2 r3
    go_wp2_with fail
    go_region
    all_goals
      go_wp2
      go_ret
      exact R.out

theorem put_any {B : Nat} {w : World} {Q M : Nat} {v : Value} {ks : List Key} (h : QAt B w Q M v ks) (a b : Int) :
    Calls Try.prog 8 #[.pointer (some ⟨Q, 0, none⟩), .agg #[.int .i64 a, .int .i64 b]] w (PutEnd B w Q M v ks (a, b)) := by
  by_cases hk : (a, b) ∈ ks
  · exact put_has h a b hk
  · by_cases hl : ks.length < 64
    · exact put_new h a b hk hl
    · exact put_full h a b hk hl
end Go.Proofs.Ytpanakfbbdeihaa
