/-
  PROVED: a region that draws its order is walked once, in the order of the text, where every operation yields one value in every world of a class and leaves a world of the class. Conditions: the theorem's own premises.
-/
import Derived.Test.YtpanakfbbdeihaaActs
import Derived.BigQuiet
namespace Go.Proofs.Ytpanakfbbdeihaa
open Go.RowKit
set_option linter.unusedVariables false

/-- A world of the class G. -/
structure Of (G : World → Prop) where
  val : World
  property : G val

theorem wp_region_class {P : Program} {G : World → Prop} {id : Nat} {Q : Exit → Act → World → Prop} {a : Act} {w : World} {l : List Oper} (hm : P.follows .mixedOrders = true) (hB : Region.lexB .any l.toArray = true) (hG : G w.drew)
    (h : wpQuiet P l.toArray (fun w' => ∃ i : Of G, w' = i.val) (fun a' => ∀ w', (∃ i : Of G, w' = i.val) → Q .normal a' w') l a) : (Code.region id l.toArray true).wp P Q a w :=
  wp_region_quiet (C := fun w' => ∃ i : Of G, w' = i.val) hm hB ⟨⟨_, hG⟩, rfl⟩ (by simpa using h)

/-- What Pop's value and the reference's first are read from. -/
structure KeyG (X : World) (c b off : Nat) (k q : Key) (w : World) : Prop where
  x0 : w.cell? ⟨c, 0, none⟩ = some (.int .i64 k.1)
  x1 : w.cell? ⟨c, 1, none⟩ = some (.int .i64 k.2)
  y0 : w.cell? ⟨b, off, none⟩ = some (.int .i64 q.1)
  y1 : w.cell? ⟨b, off + 1, none⟩ = some (.int .i64 q.2)
  below : Below X.heap.size X w
  hc : c < X.heap.size
  hb : b < X.heap.size

theorem KeyG.next {X w w' : World} {c b off : Nat} {k q : Key} (h : KeyG X c b off k q w) (hb : Below w.heap.size w w') : KeyG X c b off k q w' := by
  have h1 := h.below.size
  have h2 := h.hc
  have h3 := h.hb
  exact ⟨(hb.cell (p := ⟨c, 0, none⟩) (by show c < _; omega)).trans h.x0, (hb.cell (p := ⟨c, 1, none⟩) (by show c < _; omega)).trans h.x1, (hb.cell (p := ⟨b, off, none⟩) (by show b < _; omega)).trans h.y0, (hb.cell (p := ⟨b, off + 1, none⟩) (by show b < _; omega)).trans h.y1, h.below.trans (hb.mono h1), h2, h3⟩

theorem key_class {X : World} {c b off : Nat} {k q : Key} (x y : Int) (i : Of (KeyG X c b off k q)) :
    Calls Try.prog 9 #[.agg #[.int .i64 x, .int .i64 y]] i.val fun e w' => e = .returned (.agg #[.int .i64 x, .int .i64 y]) ∧ ∃ j : Of (KeyG X c b off k q), w' = j.val :=
  (key_any x y i.val).mono fun _ w' h => ⟨h.1, ⟨⟨w', i.property.next h.2⟩, rfl⟩⟩

/-- A row of keys can be read. -/
theorem RdAt.own {w : World} {B n : Nat} {e : TypeId} {v : Value} {ks : List Key} (hn : n = ks.length) (h : w.ownsRow B e 2 v n (cs ks)) : ∃ a cap, v = .slice a ks.length cap ∧ RdAt w a ks ∧ ks.length ≤ cap ∧ cap ≤ maxLen := by
  subst hn
  have h0 := h
  rcases h.2 with ⟨rfl, hn⟩ | ⟨g, cap, cur, rfl, hg, hh, hc, hm, hs, ht⟩
  · have : ks = [] := List.length_eq_zero_iff.1 hn
    subst this
    exact ⟨none, 0, rfl, fun h => absurd rfl h, Nat.le_refl _, by unfold maxLen; omega⟩
  · refine ⟨some ⟨g, 0, none⟩, cap, rfl, fun hne => ⟨g, 0, rfl, lt_of_block hh, fun i hi => ?_⟩, hc, hm⟩
    obtain ⟨g1, g2⟩ := cs_get ks i hi
    exact ⟨by rw [Nat.zero_add, h0.cellAt (i * 2) (by omega), g1], by rw [Nat.zero_add, h0.cellAt (i * 2 + 1) (by omega), g2]⟩

end Go.Proofs.Ytpanakfbbdeihaa
