/-
  PROVED: contracts of the closures over a row of answers, of the reference's 'Do', of 'num' and of 'live'. Conditions: each theorem's own premises.
-/
import Derived.Test.YtfokbnbfaienjaaRetry
namespace Go.Proofs.Ytfokbnbfaienjaa
open Go.RowKit
set_option linter.unusedVariables false

/-- Below B, nothing but block R has turned. -/
structure BelowBut (B R : Nat) (w w' : World) : Prop where
  os : w'.os = w.os
  tape : w'.tape = w.tape
  output : w'.output = w.output
  size : w.heap.size ≤ w'.heap.size
  block : ∀ b, b < B → b ≠ R → w'.heap[b]? = w.heap[b]?

theorem BelowBut.refl (B R : Nat) (w : World) : BelowBut B R w w := ⟨rfl, rfl, rfl, Nat.le_refl _, fun _ _ _ => rfl⟩
theorem BelowBut.below {B R : Nat} {a b c : World} (h : BelowBut B R a b) (k : Below B b c) : BelowBut B R a c :=
  ⟨k.os.trans h.os, k.tape.trans h.tape, k.output.trans h.output, Nat.le_trans h.size k.size, fun i hi hr => (k.block i hi).trans (h.block i hi hr)⟩
theorem BelowBut.touched {B R : Nat} {a b c : World} (h : BelowBut B R a b) (k : Touched R b c) : BelowBut B R a c :=
  ⟨k.os.trans h.os, k.tape.trans h.tape, k.output.trans h.output, k.size ▸ h.size, fun i hi hr => (k.block i hr).trans (h.block i hi hr)⟩
/-- What lies below the row as well is as it was. -/
theorem BelowBut.toBelow {B R C : Nat} {w w' : World} (h : BelowBut B R w w') (hB : C ≤ B) (hR : C ≤ R) : Below C w w' :=
  ⟨h.os, h.tape, h.output, h.size, fun b hb => h.block b (by omega) (by omega)⟩

theorem add_block (x : Addr) (i : Nat) : (x.add i).block = x.block := by unfold Addr.add; split <;> rfl

theorem IsRow.kept {B R : Nat} {k : IntKind} {w w' : World} {a : Option Addr} {len cap : Nat} {zs : List Int} (h : IsRow k w a len cap zs) (hb : BelowBut B R w w')
    (ha : ∀ x, a = some x → 0 < zs.length → x.block < B ∧ x.block ≠ R) : IsRow k w' a len cap zs := by
  rcases h with h | ⟨x, rfl, hl, hm, hz, hc, hw⟩
  · exact .inl h
  · exact .inr ⟨x, rfl, hl, hm, hz, fun i hi => by
      obtain ⟨h1, h2⟩ := ha x rfl (by omega)
      exact (World.cell?_of_block (w := w) (a := x.add i) (by rw [add_block]; exact hb.block x.block h1 h2)).trans (hc i hi), hw⟩

/-- What has been told: k times, the last time x, each time before it 11. -/
structure Told (f : Nat → Int) (k : Nat) (x : Int) : Prop where
  none : k = 0 → x = 11
  last : ∀ j, j + 1 = k → x = f j
  before : ∀ j, j + 1 < k → f j = 11

theorem Told.start (f : Nat → Int) : Told f 0 11 := ⟨fun _ => rfl, fun j h => by omega, fun j h => by omega⟩
theorem Told.next {f : Nat → Int} {k : Nat} (h : Told f k 11) : Told f (k + 1) (f k) :=
  ⟨fun h => by omega, fun j hj => by obtain rfl : j = k := by omega
                                     rfl, fun j hj => by
    by_cases e : j + 1 = k
    · exact (h.last j e).symm
    · exact h.before j (by omega)⟩

/-- Two that stop are one. -/
theorem Told.same {f : Nat → Int} {t : Int} {k k' : Nat} {x x' : Int} (h : Told f k x) (h' : Told f k' x') (hk : 1 ≤ k) (hk' : 1 ≤ k') (ht : (k : Int) ≤ t) (ht' : (k' : Int) ≤ t)
    (hs : x = 11 → (k : Int) = t) (hs' : x' = 11 → (k' : Int) = t) : k = k' ∧ x = x' := by
  have key : ∀ {a b : Nat} {y z : Int}, Told f a y → Told f b z → 1 ≤ a → (b : Int) ≤ t → (y = 11 → (a : Int) = t) → ¬ a < b := by
    intro a b y z ha hb h1 hbt hy hlt
    have e := ha.last (a - 1) (by omega)
    have e' := hb.before (a - 1) (by omega)
    have := hy (by rw [e, e'])
    omega
  have h1 := key h h' hk ht' hs
  have h2 := key h' h hk' ht hs'
  obtain rfl : k = k' := by omega
  exact ⟨rfl, by rw [h.last (k - 1) (by omega), h'.last (k - 1) (by omega)]⟩

/-- The row that is asked: R its block, V the variable that points to it. -/
structure RowInv (w0 : World) (B R V : Nat) (a : Option Addr) (len cap : Nat) (zs : List Int) (k : Nat) (x : Int) (w : World) : Prop where
  row : w.heap[R]? = some (.cells #[.slice a len cap, .int .i64 k] 26 (0, 0))
  kept : BelowBut B R w0 w
  told : Told (rowAt zs len) k x

/-- What stands still while a row is asked. -/
structure RowBase (w0 : World) (B R V : Nat) (a : Option Addr) (len cap : Nat) (zs : List Int) : Prop where
  var : w0.heap[V]? = some (.cells #[.pointer (some ⟨R, 0, none⟩)] 24 (0, 0))
  cells : IsRow .i64 w0 a len cap zs
  apart : ∀ x, a = some x → 0 < zs.length → x.block < B ∧ x.block ≠ R
  rlt : R < B
  vlt : V < B
  vne : V ≠ R

theorem clos8 {w0 : World} {B R V : Nat} {a : Option Addr} {len cap : Nat} {zs : List Int} (hb : RowBase w0 B R V a len cap zs) (k : Nat) (v : World) (hk : k < 100)
    (hi : RowInv w0 B R V a len cap zs k 11 v) : Calls Try.prog 8 #[.pointer (some ⟨V, 0, none⟩)] v (AskKept B (RowInv w0 B R V a len cap zs) (k + 1) v) := by
  have A := Lib.hid (ask_any R a len cap zs k hk v hi.row (hb.cells.kept hi.kept hb.apart))
  have cV := cell_of_one ((hi.kept.block V hb.vlt hb.vne).trans hb.var)
  go_enter Try.func8, Try.ntmps8
  go_wp2_with fail
  refine A.out.mono ?_
  rintro e v1 ⟨rfl, hr, ht⟩
  go_wp2_with fail
  go_ret
  exact ⟨_, rfl, ⟨hr, hi.kept.touched ht, hi.told.next⟩, fun b hb1 _ => ht.block b (by have := hb.rlt; omega)⟩
theorem clos11 {w0 : World} {B R V : Nat} {a : Option Addr} {len cap : Nat} {zs : List Int} (hb : RowBase w0 B R V a len cap zs) (k : Nat) (v : World) (hk : k < 100)
    (hi : RowInv w0 B R V a len cap zs k 11 v) : Calls Try.prog 11 #[.pointer (some ⟨V, 0, none⟩)] v (AskKept B (RowInv w0 B R V a len cap zs) (k + 1) v) := by
  have A := Lib.hid (ask_any R a len cap zs k hk v hi.row (hb.cells.kept hi.kept hb.apart))
  have cV := cell_of_one ((hi.kept.block V hb.vlt hb.vne).trans hb.var)
  go_enter Try.func11, Try.ntmps11
  go_wp2_with fail
  refine A.out.mono ?_
  rintro e v1 ⟨rfl, hr, ht⟩
  go_wp2_with fail
  go_ret
  exact ⟨_, rfl, ⟨hr, hi.kept.touched ht, hi.told.next⟩, fun b hb1 _ => ht.block b (by have := hb.rlt; omega)⟩
theorem clos16 {w0 : World} {B R V : Nat} {a : Option Addr} {len cap : Nat} {zs : List Int} (hb : RowBase w0 B R V a len cap zs) (k : Nat) (v : World) (hk : k < 100)
    (hi : RowInv w0 B R V a len cap zs k 11 v) : Calls Try.prog 16 #[.pointer (some ⟨V, 0, none⟩)] v (AskKept B (RowInv w0 B R V a len cap zs) (k + 1) v) := by
  have A := Lib.hid (ask_any R a len cap zs k hk v hi.row (hb.cells.kept hi.kept hb.apart))
  have cV := cell_of_one ((hi.kept.block V hb.vlt hb.vne).trans hb.var)
  go_enter Try.func16, Try.ntmps16
  go_wp2_with fail
  refine A.out.mono ?_
  rintro e v1 ⟨rfl, hr, ht⟩
  go_wp2_with fail
  go_ret
  exact ⟨_, rfl, ⟨hr, hi.kept.touched ht, hi.told.next⟩, fun b hb1 _ => ht.block b (by have := hb.rlt; omega)⟩

theorem AskKept.some {B : Nat} {I : Nat → Int → World → Prop} {k : Nat} {w : World} {e : Ending} {w' : World} (h : AskKept B I k w e w') : SomeAsk I k e w' := by
  obtain ⟨x, h1, h2, _⟩ := h
  exact ⟨x, h1, h2⟩

theorem num_any (x : Int) (w : World) : Calls Try.prog 13 #[.int .i64 x] w fun e w' => e = .returned (.int .i64 x) ∧ w = w' := by
  go_enter Try.func13, Try.ntmps13
  go_wp2
  go_ret
  exact ⟨rfl, rfl⟩

theorem newest (w : World) (o : Obj) : (w.alloc o).heap[w.heap.size]? = some o := heap_alloc_new w o
theorem newer (w : World) (o p : Obj) : ((w.alloc o).alloc p).heap[w.heap.size]? = some o := (Below.heap_alloc _ _ _ (by simp)).trans (newest w o)
theorem newer2 (w : World) (o p q : Obj) : (((w.alloc o).alloc p).alloc q).heap[w.heap.size]? = some o := (Below.heap_alloc _ _ _ (by simp; omega)).trans (newer w o p)
theorem newest1 (w : World) (o p : Obj) : ((w.alloc o).alloc p).heap[w.heap.size + 1]? = some p := by simpa using newest (w.alloc o) p
theorem newer1 (w : World) (o p q : Obj) : (((w.alloc o).alloc p).alloc q).heap[w.heap.size + 1]? = some p := by simpa using newer (w.alloc o) p q
theorem newest2 (w : World) (o p q : Obj) : (((w.alloc o).alloc p).alloc q).heap[w.heap.size + 1 + 1]? = some q := by simpa using newest ((w.alloc o).alloc p) q

theorem live_told {k : Nat} {x : Int} (h : Told (rowAt [11] 1) k x) (h1 : 1 ≤ k) (h3 : (k : Int) ≤ 3) (hx : x = 11 → (k : Int) = 3) : k = 2 ∧ x = 0 := by
  have f0 : rowAt [11] 1 0 = 11 := rfl
  have f1 : rowAt [11] 1 1 = 0 := rfl
  rcases (show k = 1 ∨ k = 2 ∨ k = 3 by omega) with rfl | rfl | rfl
  · have := hx ((h.last 0 rfl).trans f0)
    omega
  · exact ⟨rfl, (h.last 1 rfl).trans f1⟩
  · have := h.before 1 (by omega)
    omega

/-- The page's example. -/
theorem live_any (w : World) : Calls Try.prog 6 #[] w fun e w' => e = .returned (.bool true) ∧ Below w.heap.size w w' := by
  have hmf : ∀ (fn : Fn) (first cap : Array Value) (w : World), (Instr.makeFunc fn first cap).run Try.prog w = .ok (.func fn first cap) w := fun _ _ _ _ => rfl
  have c16 : Callable 16 := fun _ _ => by kernel_rfl
  have base : RowBase (((w.alloc (Obj.cells #[Value.int IntKind.i64 11] 3)).alloc (Obj.cells #[Value.slice (some { block := w.heap.size, off := 0 }) 1 1, Value.int IntKind.i64 0] 26)).alloc (Obj.cells #[Value.pointer (some { block := w.heap.size + 1, off := 0 })] 24)) (w.heap.size + 3) (w.heap.size + 1) (w.heap.size + 1 + 1) (some ⟨w.heap.size, 0, none⟩) 1 1 [11] :=
    ⟨newest2 _ _ _ _, .inr ⟨_, rfl, Nat.le_refl _, by unfold maxLen; omega, rfl, fun i hi => by
        obtain rfl : i = 0 := by simpa using hi
        exact (by simp [World.cell?, Addr.add, newer2]), by intro n hn; simp at hn; subst hn; rfl⟩,
      fun x hx _ => by cases hx; exact ⟨by show w.heap.size < _; omega, by show w.heap.size ≠ _; omega⟩, by omega, by omega, by omega⟩
  have inv0 : RowInv (((w.alloc (Obj.cells #[Value.int IntKind.i64 11] 3)).alloc (Obj.cells #[Value.slice (some { block := w.heap.size, off := 0 }) 1 1, Value.int IntKind.i64 0] 26)).alloc (Obj.cells #[Value.pointer (some { block := w.heap.size + 1, off := 0 })] 24)) (w.heap.size + 3) (w.heap.size + 1) (w.heap.size + 1 + 1) (some ⟨w.heap.size, 0, none⟩) 1 1 [11] 0 11 (((w.alloc (Obj.cells #[Value.int IntKind.i64 11] 3)).alloc (Obj.cells #[Value.slice (some { block := w.heap.size, off := 0 }) 1 1, Value.int IntKind.i64 0] 26)).alloc (Obj.cells #[Value.pointer (some { block := w.heap.size + 1, off := 0 })] 24)) :=
    ⟨newer1 _ _ _ _, BelowBut.refl _ _ _, Told.start _⟩
  have C := Lib.hid (do_any 3 (by omega) (by omega) 16 c16 #[.pointer (some ⟨w.heap.size + 1 + 1, 0, none⟩)] _ _ inv0 (Lib.hid fun k v hk hi => (clos16 base k v (by omega) hi).mono fun _ _ h => h.some))
  clear base inv0
  go_enter Try.func6, Try.ntmps6
  go_wp2_with fail
  refine C.out.mono ?_
  rintro e v ⟨k, x, rfl, h1, h3, hx, hinv⟩
  obtain ⟨rfl, rfl⟩ := live_told hinv.told h1 h3 hx
  go_wp2
  go_ret
  exact ⟨rfl, ((((Below.refl _ w).alloc (Nat.le_refl _) _).alloc (by simp) _).alloc (by simp; omega) _).trans (hinv.kept.toBelow (by omega) (by omega))⟩

theorem ref_arg (tries : Int) (h : tries < 1 ∨ 8 < tries) (a : Option Addr) (len cap : Nat) (w : World) :
    Calls Try.prog 12 #[.int .i64 tries, .slice a len cap] w fun e w' => e = .returned (.tuple #[.int .i64 1, .bool false, .int .i64 0]) ∧ w = w' := by
  rcases h with h | h
  · go_enter Try.func12, Try.ntmps12
    go_wp2
    go_ret3
    exact ⟨rfl, rfl⟩
  · have h' : ¬ tries < 1 := by omega
    go_enter Try.func12, Try.ntmps12
    go_wp2
    go_ret3
    exact ⟨rfl, rfl⟩

theorem failedB_next (k : Nat) (x : Int) : failedB (k + 1) x = (failedB k 11 || x == 11) := by
  by_cases h : 1 ≤ k
  · by_cases h2 : 2 ≤ k <;> simp [failedB, h, h2]
  · have h2 : ¬ 2 ≤ k := by omega
    simp [failedB, h, h2]

def RefEnd (tries : Int) (f : Nat → Int) (w : World) (e : Ending) (w' : World) : Prop :=
  ∃ (k : Nat) (x : Int), e = .returned (.tuple #[.int .i64 x, .bool (k == 1 && x != 11), .int .i64 k]) ∧ 1 ≤ k ∧ (k : Int) ≤ tries ∧ (x = 11 → (k : Int) = tries) ∧ Told f k x ∧ w = w'

def RefRel (tries : Int) (f : Nat → Int) (s l n : Value) : Prop :=
  ∃ (k : Nat) (x : Int), s = .bool (!failedB k x) ∧ l = .int .i64 x ∧ n = .int .i64 k ∧ (k : Int) ≤ tries ∧ Told f k x

set_option maxHeartbeats 400000 in
theorem ref_any (tries : Int) (h1 : 1 ≤ tries) (h8 : tries ≤ 8) (a : Option Addr) (len cap : Nat) (zs : List Int) (w : World) (hz : IsRow .i64 w a len cap zs) :
    Calls Try.prog 12 #[.int .i64 tries, .slice a len cap] w (RefEnd tries (rowAt zs len) w) := by
  have HZ := Lib.hid hz
  clear hz
  go_enter Try.func12, Try.ntmps12
  go_wp2
  go_loop [7, 8, 9] (fun s l n => RefRel tries (rowAt zs len) s l n) (fun _ _ n => (tries - intOf n).toNat)
  case atStart => exact ⟨0, 11, rfl, rfl, rfl, by show ((0 : Nat) : Int) ≤ tries; omega, Told.start _⟩
  case round =>
    obtain ⟨k, x, rfl, rfl, rfl, hk, ht⟩ := hrel
    have HT := Lib.hid ht
    clear ht
    by_cases hkt : (k : Int) < tries
    · by_cases hx : x = 11
      · subst hx
        have F1 := Lib.hid (failedB_next k (rowAt zs len k))
        generalize hs : failedB k 11 = s at *
        have HS := Lib.hid hs
        clear hs
        by_cases hlt : k < len
        · have R := Lib.hid (show rowAt zs len k = zs.getD k 0 by simp [rowAt, hlt])
          rcases HZ.out with ⟨_, h0, _⟩ | ⟨y, rfl, hl, hm, hzl, hc, hw⟩
          · omega
          obtain ⟨b, off, rfl, hc2⟩ := ints_at hc (by omega)
          have hck := hc2 k (by omega)
          clear hc hc2 hw
          unfold maxLen at hm
          clear hzl
          generalize zs.getD k 0 = v at hck R
          cases s
          all_goals
            go_wp2
            go_round
            case rel => exact ⟨k + 1, _, by rw [F1.out, R.out]; rfl, by rw [R.out], by go_num, by omega, HT.out.next⟩
            case measure => simp [intOf]; omega
        · have R := Lib.hid (show rowAt zs len k = 0 by simp [rowAt, hlt])
          have hlt' : (len : Int) ≤ k := by omega
          cases s
          all_goals
            go_wp2
            go_round
            case rel => exact ⟨k + 1, _, by rw [F1.out, R.out]; rfl, by rw [R.out], by go_num, by omega, HT.out.next⟩
            case measure => simp [intOf]; omega
      · have hx' : (x == 11) = false := by simpa using hx
        have HX := Lib.hid hx
        clear hx
        have hk1 : 1 ≤ k := by
          rcases Nat.eq_zero_or_pos k with h | h
          · exact absurd (HT.out.none h) HX.out
          · exact h
        have HE := Lib.hid (failedB_end k x hk1)
        go_wp2
        go_ret3
        exact ⟨k, x, by rw [HE.out, Bool.not_not]; rfl, hk1, hk, fun h => absurd h HX.out, HT.out, rfl⟩
    · have hke := Lib.hid (show (k : Int) = tries by omega)
      have HE := Lib.hid (failedB_end k x (by omega))
      go_wp2
      go_ret3
      exact ⟨k, x, by rw [HE.out, Bool.not_not]; rfl, by have := hke.out; omega, hk, fun _ => hke.out, HT.out, rfl⟩

/-- A row's cells lie in the world's heap. -/
theorem IsRow.lt {k : IntKind} {w : World} {a : Option Addr} {len cap : Nat} {zs : List Int} (h : IsRow k w a len cap zs) : ∀ x, a = some x → 0 < zs.length → x.block < w.heap.size := by
  intro x hx hp
  rcases h with ⟨rfl, _⟩ | ⟨y, rfl, _, _, _, hc, _⟩
  · cases hx
  · cases hx
    have h0 := hc 0 hp
    rcases Nat.lt_or_ge x.block w.heap.size with h | h
    · exact h
    · exfalso
      have : (x.add 0).block = x.block := add_block x 0
      simp [World.cell?, this, Array.getElem?_eq_none h] at h0
end Go.Proofs.Ytfokbnbfaienjaa
