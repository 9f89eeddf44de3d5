/-
  PROVED: a slice of acts that came in, opened; the state behind an act. Conditions: each theorem's own premises.
-/
import Derived.Test.YtfcifdddmcnjcaaStep
import Derived.ProofKit
import Derived.OpenShut
import Derived.ShutString
import Derived.ChangeOld
import Derived.Deep.Slices
import Derived.Deep.RegionWith
namespace Go.Proofs.Ytfcifdddmcnjcaa
open Go.ChangeShapes Go.WideShapes Go.ChangeAt Go.RowKit
open Go.ChangeMaps (open_string shut_string)
set_option linter.unusedVariables false

theorem own : ownKnob Try.prog.godebug = none := by kernel_rfl
theorem laidOut : laidOutB Try.prog = true := by kernel_rfl

/-- An act: what is done, where. -/
structure Act where
  d : Int
  i : Int
instance : Inhabited Act := ⟨⟨0, 0⟩⟩

def ActCells (w : World) (b off : Nat) (x : Act) : Prop :=
  w.cell? ⟨b, off, none⟩ = some (.int .i64 x.d) ∧ w.cell? ⟨b, off + 1, none⟩ = some (.int .i64 x.i)
def ActsAt (w : World) (a : Option Addr) (l : List Act) : Prop :=
  l ≠ [] → ∃ b off, a = some ⟨b, off, none⟩ ∧ b < w.heap.size ∧ ∀ i (h : i < l.length), ActCells w b (off + i * 2) l[i]
theorem ActCells.below {w w' : World} {b off B : Nat} {x : Act} (h : ActCells w b off x) (hb : Below B w w') (hB : b < B) : ActCells w' b off x :=
  ⟨(hb.cell (p := ⟨b, off, none⟩) hB).trans h.1, (hb.cell (p := ⟨b, off + 1, none⟩) hB).trans h.2⟩

theorem open_acts {H : Type} {enc : TypeId × Value → H} {w : World} {a : Option Addr} {len cap fuel : Nat} {x : DataW H × List MemPlace} (h : DataW.trod enc Try.prog w 0 (fun _ => true) true fuel 31 (Value.slice a len cap).cells.toList = some x) :
    ∃ l : List Act, len = l.length ∧ l.length ≤ cap ∧ cap ≤ maxLen ∧ ActsAt w a l := by
  rcases Deep.open_slice Try.underlying31 (by simpa [Value.cells] using h) with ⟨hcs, _⟩ | ⟨ad, l', c', m, n, D, Pl, hcs, _, hl, hm, hmm, _, hx⟩
  · simp at hcs
    obtain ⟨rfl, rfl, rfl⟩ := hcs
    exact ⟨[], rfl, Nat.le_refl _, by unfold maxLen; omega, fun h => absurd rfl h⟩
  · simp at hcs
    obtain ⟨rfl, rfl, rfl⟩ := hcs
    have hlm : len ≤ m := by rw [hmm]; split <;> omega
    have hC : Try.prog.cellsOf 33 = 2 := by kernel_rfl
    have each : ∀ i, i < len → ∃ x : Act, w.cell? (ad.add (i * 2)) = some (.int .i64 x.d) ∧ w.cell? (ad.add (i * 2 + 1)) = some (.int .i64 x.i) := by
      intro i hi
      obtain ⟨cs', h1, h2⟩ := hx i (by omega)
      rw [hC] at h1
      obtain ⟨_, hlen, hcell⟩ := World.cells?_some h1
      obtain ⟨xs, k, hk, hxy, _, hxl, hf⟩ := DataW.trod_struct Try.underlying33 h2
      match cs', hlen, xs, hxl with
      | [v0, v1], _, [y0, y1], _ =>
        have g0 := hf 0 _ rfl
        have g1 := hf 1 _ rfl
        have c1 : Try.prog.cellsOf 3 = 1 := by kernel_rfl
        simp [c1] at g0 g1
        obtain ⟨x0, e0, _, _⟩ := DataW.trod_int Try.underlying3 g0
        obtain ⟨x1, e1, _, _⟩ := DataW.trod_int Try.underlying3 g1
        simp at e0 e1
        subst e0 e1
        have q0 := hcell 0 (by omega)
        have q1 := hcell 1 (by omega)
        rw [Deep.add_add] at q0 q1
        exact ⟨⟨x0, x1⟩, by simpa using q0, by simpa using q1⟩
    obtain ⟨f, hf⟩ := Deep.choose_lt each
    refine ⟨(List.range len).map f, by simp, by simpa using hl, hm, fun hne => ?_⟩
    have hpos : 0 < len := by
      rcases Nat.eq_zero_or_pos len with h | h
      · subst h; simp at hne
      · exact h
    obtain ⟨b, off, spot⟩ := ad
    have c0 := (hf 0 hpos).1
    have hspot : spot = none := by simpa [Addr.add] using World.cell?_spot c0
    subst hspot
    refine ⟨b, off, rfl, ?_, fun i hi => ?_⟩
    · have := World.block_lt_of_cell? w _ c0
      simpa [Addr.add] using this
    · have hi' : i < len := by simpa using hi
      obtain ⟨c1, c2⟩ := hf i hi'
      rw [Addr.add_lit] at c1 c2
      have e : ((List.range len).map f)[i] = f i := by simp
      rw [e]
      exact ⟨c1, by rw [← Nat.add_assoc] at c2; exact c2⟩

/-- The state behind an act. -/
def nxt (n : Nat) (d i : Int) (f : Nat → Slot) (h : Nat) : (Nat → Slot) × Nat := if d = 0 then (takeR n f h).2.2 else (stepS n d i f, h)

theorem pins_nxt {n m h : Nat} {f : Nat → Slot} {d i : Int} (hf : PinsLe n m f) (hh : h < n ∨ h = 0) : PinsLe n (m + 1) (nxt n d i f h).1 := by
  unfold nxt
  split
  · exact (pins_take hf hh).mono (Nat.le_succ m)
  · exact pins_step hf

theorem do_any {w : World} {B C A n : Nat} {f : Nat → Slot} {h B' D T U P : Nat} (k : ClockAt w B C A n f h) (r : RefAt w B' D T U P n f h) (hc : C < B') (ha : A < B') {m : Nat} (hm : m ≤ 1000) (hf : PinsLe n m f) (d i : Int) :
    Calls Try.prog 12 #[.pointer (some ⟨C, 0, none⟩), .pointer (some ⟨D, 0, none⟩), .agg #[.int .i64 d, .int .i64 i]] w (DoEnd w B C A n (nxt n d i f h).1 (nxt n d i f h).2 B' D T U P (nxt n d i f h).1 (nxt n d i f h).2) := by
  by_cases hd : d = 0
  · subst hd
    exact do_0 k r hc ha (fun j hj => (hf j hj).1) i
  · simp only [nxt, if_neg hd]
    exact do_act k r hc ha hm hf hf d i hd

end Go.Proofs.Ytfcifdddmcnjcaa
