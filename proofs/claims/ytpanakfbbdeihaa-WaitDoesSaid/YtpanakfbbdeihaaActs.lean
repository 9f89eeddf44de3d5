/-
  PROVED: a slice of acts that came in, opened; the reference's slice; the relation of the statement's loop. Conditions: each theorem's own premises.
-/
import Derived.Test.YtpanakfbbdeihaaNil
import Derived.ProofKit
import Derived.OpenShut
import Derived.ShutString
import Derived.ChangeOld
import Derived.Deep.Slices
import Derived.Deep.RegionWith
namespace Go.Proofs.Ytpanakfbbdeihaa.waitDoes
open Go.ChangeShapes Go.WideShapes Go.ChangeAt Go.RowKit
open Go.ChangeMaps (open_string shut_string)
set_option linter.unusedVariables false

theorem own : ownKnob Try.prog.godebug = none := by kernel_rfl
theorem laidOut : laidOutB Try.prog = true := by kernel_rfl

/-- An act: what is done, the key, the number. -/
structure Act where
  d : Int
  o : Int
  p : Int
  n : Int
instance : Inhabited Act := ⟨⟨0, 0, 0, 0⟩⟩

def ActCells (w : World) (b off : Nat) (x : Act) : Prop :=
  w.cell? ⟨b, off, none⟩ = some (.int .i64 x.d) ∧ w.cell? ⟨b, off + 1, none⟩ = some (.int .i64 x.o) ∧ w.cell? ⟨b, off + 2, none⟩ = some (.int .i64 x.p) ∧ w.cell? ⟨b, off + 3, none⟩ = some (.int .i64 x.n)

def ActsAt (w : World) (a : Option Addr) (l : List Act) : Prop :=
  l ≠ [] → ∃ b off, a = some ⟨b, off, none⟩ ∧ b < w.heap.size ∧ ∀ i (h : i < l.length), ActCells w b (off + i * 4) l[i]

theorem ActCells.below {w w' : World} {b off B : Nat} {x : Act} (h : ActCells w b off x) (hb : Below B w w') (hB : b < B) : ActCells w' b off x :=
  ⟨(hb.cell (p := ⟨b, off, none⟩) hB).trans h.1, (hb.cell (p := ⟨b, off + 1, none⟩) hB).trans h.2.1, (hb.cell (p := ⟨b, off + 2, none⟩) hB).trans h.2.2.1, (hb.cell (p := ⟨b, off + 3, none⟩) hB).trans h.2.2.2⟩

theorem open_acts {H : Type} {enc : TypeId × Value → H} {w : World} {a : Option Addr} {len cap fuel : Nat} {x : DataW H × List MemPlace} (h : DataW.trod enc Try.prog w 0 (fun _ => true) true fuel 34 (Value.slice a len cap).cells.toList = some x) :
    ∃ l : List Act, len = l.length ∧ l.length ≤ cap ∧ cap ≤ maxLen ∧ ActsAt w a l := by
  rcases Deep.open_slice Try.underlying34 (by simpa [Value.cells] using h) with ⟨hcs, _⟩ | ⟨ad, l', c', m, n, D, Pl, hcs, _, hl, hm, hmm, _, hx⟩
  · simp at hcs
    obtain ⟨rfl, rfl, rfl⟩ := hcs
    exact ⟨[], rfl, Nat.le_refl _, by unfold maxLen; omega, fun h => absurd rfl h⟩
  · simp at hcs
    obtain ⟨rfl, rfl, rfl⟩ := hcs
    have hlm : len ≤ m := by rw [hmm]; split <;> omega
    have hC : Try.prog.cellsOf 36 = 4 := by kernel_rfl
    have each : ∀ i, i < len → ∃ x : Act, w.cell? (ad.add (i * 4)) = some (.int .i64 x.d) ∧ w.cell? (ad.add (i * 4 + 1)) = some (.int .i64 x.o) ∧ w.cell? (ad.add (i * 4 + 2)) = some (.int .i64 x.p) ∧ w.cell? (ad.add (i * 4 + 3)) = some (.int .i64 x.n) := by
      intro i hi
      obtain ⟨cs', h1, h2⟩ := hx i (by omega)
      rw [hC] at h1
      obtain ⟨_, hlen, hcell⟩ := World.cells?_some h1
      obtain ⟨xs, k, hk, hxy, _, hxl, hf⟩ := DataW.trod_struct Try.underlying36 h2
      match cs', hlen, xs, hxl with
      | [v0, v1, v2, v3], _, [y0, y1, y2], _ =>
        have g0 := hf 0 _ rfl
        have g1 := hf 1 _ rfl
        have g2 := hf 2 _ rfl
        have c1 : Try.prog.cellsOf 3 = 1 := by kernel_rfl
        have c2 : Try.prog.cellsOf 30 = 2 := by kernel_rfl
        simp [c1, c2] at g0 g1 g2
        obtain ⟨x0, e0, _, _⟩ := DataW.trod_int Try.underlying3 g0
        obtain ⟨x3, e3, _, _⟩ := DataW.trod_int Try.underlying3 g2
        obtain ⟨zs, k', _, _, _, hzl, hg⟩ := DataW.trod_struct Try.underlying30 g1
        match zs, hzl with
        | [z0, z1], _ =>
          have f0 := hg 0 _ rfl
          have f1 := hg 1 _ rfl
          simp [c1] at f0 f1
          obtain ⟨x1, e1, _, _⟩ := DataW.trod_int Try.underlying3 f0
          obtain ⟨x2, e2, _, _⟩ := DataW.trod_int Try.underlying3 f1
          simp at e0 e1 e2 e3
          subst e0 e1 e2 e3
          have q0 := hcell 0 (by omega)
          have q1 := hcell 1 (by omega)
          have q2 := hcell 2 (by omega)
          have q3 := hcell 3 (by omega)
          rw [Deep.add_add] at q0 q1 q2 q3
          exact ⟨⟨x0, x1, x2, x3⟩, by simpa using q0, by simpa using q1, by simpa using q2, by simpa using q3⟩
    obtain ⟨f, hf⟩ := Deep.choose_lt each
    refine ⟨(List.range len).map f, by simp, by simpa using hl, hm, fun hne => ?_⟩
    have hpos : 0 < len := by
      rcases Nat.eq_zero_or_pos len with h | h
      · subst h; simp at hne
      · exact h
    obtain ⟨b, off, spot⟩ := ad
    have c0 := (hf 0 hpos).1
    have hspot : spot = none := by simpa [Addr.add] using World.cell?_spot c0
    subst hspot
    refine ⟨b, off, rfl, ?_, fun i hi => ?_⟩
    · have := World.block_lt_of_cell? w _ c0
      simpa [Addr.add] using this
    · have hi' : i < len := by simpa using hi
      obtain ⟨c1, c2, c3, c4⟩ := hf i hi'
      rw [Addr.add_lit] at c1 c2 c3 c4
      have e : ((List.range len).map f)[i] = f i := by simp
      rw [e]
      exact ⟨c1, by rw [← Nat.add_assoc] at c2; exact c2, by rw [← Nat.add_assoc] at c3; exact c3, by rw [← Nat.add_assoc] at c4; exact c4⟩

/-- The reference's slice: readable, in a block of its own element type. -/
structure RefAt (w : World) (a : Option Addr) (cap : Nat) (ks : List Key) : Prop where
  rd : RdAt w a ks
  ty : ∀ x, a = some x → ks ≠ [] → ∃ cur, w.heap[x.block]? = some (.cells cur 30 (0, 0))
  le : ks.length ≤ cap
  max : cap ≤ maxLen

theorem RefAt.keep {w w' : World} {a : Option Addr} {cap : Nat} {ks : List Key} (h : RefAt w a cap ks) (hsz : w.heap.size ≤ w'.heap.size) (hb : ∀ x, a = some x → ks ≠ [] → w'.heap[x.block]? = w.heap[x.block]?) : RefAt w' a cap ks := by
  refine ⟨fun hne => ?_, fun x hx hne => ?_, h.le, h.max⟩
  · obtain ⟨b, off, rfl, hlt, hc⟩ := h.rd hne
    have hbb := hb _ rfl hne
    exact ⟨b, off, rfl, Nat.lt_of_lt_of_le hlt hsz, fun i hi => ⟨(World.cell?_of_block (w := w) (a := ⟨b, off + i * 2, none⟩) hbb).trans (hc i hi).1, (World.cell?_of_block (w := w) (a := ⟨b, off + i * 2 + 1, none⟩) hbb).trans (hc i hi).2⟩⟩
  · obtain ⟨cur, hcur⟩ := h.ty x hx hne
    exact ⟨cur, (hb x hx hne).trans hcur⟩
theorem RefAt.lt {w : World} {a : Option Addr} {cap : Nat} {ks : List Key} (h : RefAt w a cap ks) (x : Addr) (hx : a = some x) (hne : ks ≠ []) : x.block < w.heap.size := by
  obtain ⟨cur, hcur⟩ := h.ty x hx hne
  exact lt_of_block hcur
theorem RefAt.below {w w' : World} {a : Option Addr} {cap : Nat} {ks : List Key} (h : RefAt w a cap ks) (hb : Below w.heap.size w w') : RefAt w' a cap ks :=
  h.keep hb.size fun x hx hne => hb.block _ (h.lt x hx hne)
theorem RefAt.only {B : Nat} {w w' : World} {Q M : Nat} {v : Value} {ls ks : List Key} {a : Option Addr} {cap : Nat} (h : RefAt w a cap ks) (hq : QAt B w Q M v ls) (ho : Only (qfp Q M v) w w') : RefAt w' a cap ks := by
  refine h.keep ho.size fun x hx hne => ho.block _ (h.lt x hx hne) (fun hm => ?_)
  obtain ⟨cur, hcur⟩ := h.ty x hx hne
  simp only [qfp, List.mem_cons, Option.mem_toList] at hm
  rcases hm with hm | hm | hm
  · have := hq.q; rw [← hm, hcur] at this; simp at this
  · obtain ⟨es, c, hmm, _⟩ := hq.map; rw [← hm, hcur] at hmm; simp at hmm
  · rcases hq.row.2 with ⟨rfl, _⟩ | ⟨g', cap', cur', rfl, _, hg', _⟩
    · cases hm
    · obtain rfl : g' = x.block := by simpa [Value.ownBlock] using hm
      rw [hcur] at hg'; simp at hg'
theorem RefAt.own {w : World} {B : Nat} {v : Value} {ks : List Key} (h : w.ownsRow B 30 2 v ks.length (cs ks)) : ∃ a cap, v = .slice a ks.length cap ∧ RefAt w a cap ks := by
  have h0 := h
  rcases h.2 with ⟨rfl, hn⟩ | ⟨g, cap, cur, rfl, hg, hh, hc, hm, hs, ht⟩
  · have : ks = [] := List.length_eq_zero_iff.1 hn
    subst this
    exact ⟨none, 0, rfl, ⟨fun h => absurd rfl h, (fun x hx => by cases hx), Nat.le_refl _, by unfold maxLen; omega⟩⟩
  · refine ⟨some ⟨g, 0, none⟩, cap, rfl, ⟨fun hne => ⟨g, 0, rfl, lt_of_block hh, fun i hi => ?_⟩, (fun x hx _ => by cases hx; exact ⟨cur, hh⟩), hc, hm⟩⟩
    obtain ⟨g1, g2⟩ := cs_get ks i hi
    exact ⟨by rw [Nat.zero_add, h0.cellAt (i * 2) (by omega), g1], by rw [Nat.zero_add, h0.cellAt (i * 2 + 1) (by omega), g2]⟩
/-- Without its first. -/
theorem RefAt.tail {w : World} {b off cap : Nat} {k : Key} {r : List Key} (h : RefAt w (some ⟨b, off, none⟩) cap (k :: r)) (a' : Option Addr) (ha : r ≠ [] → a' = some ⟨b, off + 2, none⟩) : RefAt w a' (cap - 1) r := by
  refine ⟨fun hne => ?_, fun x hx hne => ?_, by have := h.le; simp at this; omega, by have := h.max; omega⟩
  · obtain ⟨b', off', e, hlt, hc⟩ := h.rd (by simp)
    cases e
    refine ⟨b, off + 2, ha hne, hlt, fun i hi => ?_⟩
    have := hc (i + 1) (by simp; omega)
    simp only [List.getElem_cons_succ] at this
    have e1 : off + (i + 1) * 2 = off + 2 + i * 2 := by omega
    rw [e1] at this
    exact this
  · rw [ha hne] at hx
    cases hx
    exact h.ty ⟨b, off, none⟩ rfl (by simp)

/-- The relation of the loop. -/
structure DoesRel (B : Nat) (w0 : World) (Q M : Nat) (vw : Value) (ks : List Key) (w : World) : Prop where
  q : ∃ v, QAt B w Q M v ks
  r : ∃ a cap, vw = .slice a ks.length cap ∧ RefAt w a cap ks
  below : Below B w0 w

def DoesLoop (w0 : World) (n Q M : Nat) (vw i : Value) (w : World) : Prop :=
  ∃ (ks : List Key) (j : Nat), i = .int .i64 j ∧ j ≤ n ∧ DoesRel w0.heap.size w0 Q M vw ks w
end Go.Proofs.Ytpanakfbbdeihaa.waitDoes
