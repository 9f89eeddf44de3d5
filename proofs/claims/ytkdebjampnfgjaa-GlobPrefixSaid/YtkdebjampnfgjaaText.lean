/-
  PROVED: the runes of a text, the small runes, one step of a range over a text, what a row of runes in memory is. Conditions: each theorem's own premises.
-/
import Derived.Test.YtkdebjampnfgjaaRows
import Derived.WalkKit
import Derived.WalkSpells
import Derived.WalkLawsBesides
import Derived.Deep.AppendLies
import Derived.Lib.OthersKept
import Derived.Lib.Hide
import Derived.BigQuiet
namespace Go.Proofs.Ytkdebjampnfgjaa
open Go.RowKit
set_option linter.unusedVariables false

/-- The runes from a place on; the fuel bounds how many. -/
def runesFrom (s : ByteArray) : Nat → Nat → List Int
  | 0, _ => []
  | f + 1, pos => if pos < s.size then ((Utf8.decode s pos).1 : Int) :: runesFrom s f (pos + (Utf8.decode s pos).2) else []

def runesAt (s : ByteArray) (pos : Nat) : List Int := runesFrom s (s.size - pos) pos
def runes (s : ByteArray) : List Int := runesAt s 0

theorem decode_pos (s : ByteArray) (pos : Nat) (h : pos < s.size) : 1 ≤ (Utf8.decode s pos).2 := by
  by_cases ha : (s[pos]'h).toNat < 128
  · rw [decode_ascii s pos h ha]; exact Nat.le_refl _
  · exact (decode_high s pos h (by omega)).2

theorem runesFrom_fuel (s : ByteArray) (f g pos : Nat) (hf : s.size - pos ≤ f) (hg : s.size - pos ≤ g) : runesFrom s f pos = runesFrom s g pos := by
  induction f generalizing g pos with
  | zero =>
    cases g with
    | zero => rfl
    | succ g => rw [runesFrom, runesFrom, if_neg (by omega)]
  | succ f ih =>
    cases g with
    | zero => rw [runesFrom, runesFrom, if_neg (by omega)]
    | succ g =>
      rw [runesFrom, runesFrom]
      split
      · rename_i h
        have := decode_pos s pos h
        rw [ih g _ (by omega) (by omega)]
      · rfl

theorem runesAt_next (s : ByteArray) (pos : Nat) (h : pos < s.size) : runesAt s pos = ((Utf8.decode s pos).1 : Int) :: runesAt s (pos + (Utf8.decode s pos).2) := by
  have hp := decode_pos s pos h
  unfold runesAt
  obtain ⟨f, hf⟩ : ∃ f, s.size - pos = f + 1 := ⟨s.size - pos - 1, by omega⟩
  rw [hf, runesFrom, if_pos h]
  rw [runesFrom_fuel s f (s.size - (pos + (Utf8.decode s pos).2)) _ (by omega) (Nat.le_refl _)]
theorem runesAt_end (s : ByteArray) (pos : Nat) (h : ¬ pos < s.size) : runesAt s pos = [] := by
  unfold runesAt
  cases h2 : s.size - pos with
  | zero => rfl
  | succ f => rw [runesFrom, if_neg h]

theorem runesFrom_length (s : ByteArray) (f pos : Nat) : (runesFrom s f pos).length ≤ f := by
  induction f generalizing pos with
  | zero => simp [runesFrom]
  | succ f ih =>
    rw [runesFrom]
    split
    · have := ih (pos + (Utf8.decode s pos).2)
      simp; omega
    · simp
theorem runesAt_length (s : ByteArray) (pos : Nat) : (runesAt s pos).length ≤ s.size := Nat.le_trans (runesFrom_length _ _ _) (by omega)
theorem runes_length (s : ByteArray) : (runes s).length ≤ s.size := runesAt_length s 0

/-- A rune, of A to Z the small one. -/
def low (c : Int) : Int := if 65 ≤ c ∧ c ≤ 90 then c + 32 else c
def folded (s : ByteArray) : List Int := (runes s).map low
theorem folded_length (s : ByteArray) : (folded s).length ≤ s.size := by simpa [folded] using runes_length s

def ri (l : List Int) : List Value := l.map (.int .i32 ·)
theorem ri_get (l : List Int) (i : Nat) (h : i < l.length) : (ri l)[i]? = some (.int .i32 l[i]) := by simp [ri, h]
theorem ri_append (l m : List Int) : ri (l ++ m) = ri l ++ ri m := by simp [ri]
theorem ri_length (l : List Int) : (ri l).length = l.length := by simp [ri]

/-- What has been gone through and what is left. -/
structure FoldRel (w0 : World) (s : ByteArray) (k : Nat) (v : Value) (l : List Int) (pos : Nat) (w : World) : Prop where
  sum : l ++ (runesAt s pos).map low = folded s
  row : w.ownsRow w0.heap.size 21 1 v l.length (ri l)
  below : Below w0.heap.size w0 w
  it : w.heap[k]? = some (.stringIter s pos)
  hk : w0.heap.size ≤ k

def FoldEnd (w0 : World) (s : ByteArray) (e : Ending) (w : World) : Prop := ∃ v, e = .returned v ∧ w.ownsRow w0.heap.size 21 1 v (folded s).length (ri (folded s)) ∧ Below w0.heap.size w0 w

theorem FoldRel.len {w0 w : World} {s : ByteArray} {k : Nat} {v : Value} {l : List Int} {pos : Nat} (h : FoldRel w0 s k v l pos w) : l.length ≤ s.size := by
  have := congrArg List.length h.sum
  have h2 := folded_length s
  simp at this
  omega

theorem lt_of_block' {w : World} {k : Nat} {o : Obj} (h : w.heap[k]? = some o) : k < w.heap.size := (Array.getElem?_eq_some_iff.1 h).1

theorem FoldRel.next {w0 w w' : World} {s : ByteArray} {k : Nat} {v v' : Value} {l : List Int} {pos : Nat} {o : Obj} (h : FoldRel w0 s k v l pos w) (hpos : pos < s.size)
    (hown : w'.ownsRow w0.heap.size 21 1 v' (l.length + 1) (ri l ++ [.int .i32 (low (Utf8.decode s pos).1)])) (hgrow : ((w.iterAt k s (pos + (Utf8.decode s pos).2)).alloc o).grownBy w' v.ownBlock) : FoldRel w0 s k v' (l ++ [low (Utf8.decode s pos).1]) (pos + (Utf8.decode s pos).2) w' := by
  have hkl := lt_of_block' h.it
  have hi : ((w.iterAt k s (pos + (Utf8.decode s pos).2)).alloc o).heap[k]? = some (.stringIter s (pos + (Utf8.decode s pos).2)) :=
    (Below.heap_alloc _ _ _ (by rw [Lib.iterAt_size]; exact hkl)).trans (Lib.iterAt_heap w k s pos _ h.it)
  refine ⟨?_, by simpa [ri] using hown, ?_, ?_, h.hk⟩
  · have := h.sum
    rw [runesAt_next s pos hpos] at this
    simpa using this
  · have hb : Below w0.heap.size w0 ((w.iterAt k s (pos + (Utf8.decode s pos).2)).alloc o) := (Lib.below_iterAt h.below h.hk s _).alloc (by rw [Lib.iterAt_size]; exact h.below.size) o
    exact hb.grown hgrow hb.size (fun b hb => (h.row.lt b hb).1)
  · refine (hgrow.block k (by simp [Lib.iterAt_size]; omega) (fun e => ?_)).trans hi
    rcases h.row.2 with ⟨rfl, _⟩ | ⟨g, cap, cur, rfl, _, hg, _⟩
    · cases e
    · obtain rfl : k = g := by simpa [Value.ownBlock] using e
      rw [h.it] at hg
      cases hg

theorem FoldRel.finish {w0 w : World} {s : ByteArray} {k : Nat} {v : Value} {l : List Int} {pos : Nat} (h : FoldRel w0 s k v l pos w) (hpos : ¬ pos < s.size) : FoldEnd w0 s (.returned v) w := by
  have hs := h.sum
  rw [runesAt_end s pos hpos] at hs
  simp at hs
  subst hs
  exact ⟨v, rfl, h.row, h.below⟩

end Go.Proofs.Ytkdebjampnfgjaa
