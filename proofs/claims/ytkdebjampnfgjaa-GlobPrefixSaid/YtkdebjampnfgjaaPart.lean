/-
  PROVED: contracts of 'at', 'find', the library's 'Index' and the reference's 'Runes'. Conditions: each theorem's own premises.
-/
import Derived.Test.YtkdebjampnfgjaaFold
namespace Go.Proofs.Ytkdebjampnfgjaa
open Go.RowKit
set_option linter.unusedVariables false

/-- The runes l can be read from a on. -/
def Rd (w : World) (a : Option Addr) (l : List Int) : Prop :=
  l ≠ [] → ∃ b off, a = some ⟨b, off, none⟩ ∧ b < w.heap.size ∧ ∀ i (h : i < l.length), w.cell? ⟨b, off + i, none⟩ = some (.int .i32 l[i])

theorem Rd.nil (w : World) (a : Option Addr) : Rd w a [] := fun h => absurd rfl h
theorem Rd.below {w w' : World} {a : Option Addr} {l : List Int} (h : Rd w a l) (hb : Below w.heap.size w w') : Rd w' a l := by
  intro hne
  obtain ⟨b, off, rfl, hlt, hc⟩ := h hne
  exact ⟨b, off, rfl, Nat.lt_of_lt_of_le hlt hb.size, fun i hi => (hb.cell (p := ⟨b, off + i, none⟩) hlt).trans (hc i hi)⟩
theorem Rd.own {w : World} {B n : Nat} {v : Value} {l : List Int} (hn : n = l.length) (h : w.ownsRow B 21 1 v n (ri l)) : ∃ a cap, v = .slice a l.length cap ∧ Rd w a l ∧ l.length ≤ cap ∧ cap ≤ maxLen := by
  subst hn
  have h0 := h
  rcases h.2 with ⟨rfl, hn⟩ | ⟨g, cap, cur, rfl, hg, hh, hc, hm, hs, ht⟩
  · have : l = [] := List.length_eq_zero_iff.1 hn
    subst this
    exact ⟨none, 0, rfl, Rd.nil _ _, Nat.le_refl _, by unfold maxLen; omega⟩
  · refine ⟨some ⟨g, 0, none⟩, cap, rfl, fun hne => ⟨g, 0, rfl, lt_of_block' hh, fun i hi => ?_⟩, hc, hm⟩
    have := h0.cells (g := g) rfl i _ (ri_get l i hi)
    rw [Addr.add_lit] at this
    exact this
theorem Rd.drop {w : World} {b off : Nat} {l : List Int} (h : Rd w (some ⟨b, off, none⟩) l) (i : Nat) (a : Option Addr) (ha : i < l.length → a = some ⟨b, off + i, none⟩) : Rd w a (l.drop i) := by
  intro hne
  have hi : i < l.length := by
    rcases Nat.lt_or_ge i l.length with h1 | h1
    · exact h1
    · exact absurd (List.drop_eq_nil_of_le h1) hne
  obtain ⟨b', off', e, hlt, hc⟩ := h (by intro e; rw [e] at hi; simp at hi)
  cases e
  refine ⟨b, off + i, ha hi, hlt, fun j hj => ?_⟩
  have hj' : i + j < l.length := by simp at hj; omega
  have := hc (i + j) hj'
  rw [← Nat.add_assoc] at this
  simpa using this
theorem Rd.take {w : World} {a : Option Addr} {l : List Int} (h : Rd w a l) (i : Nat) : Rd w a (l.take i) := by
  intro hne
  obtain ⟨b, off, e, hlt, hc⟩ := h (by intro e; rw [e] at hne; simp at hne)
  refine ⟨b, off, e, hlt, fun j hj => ?_⟩
  have hj' : j < l.length := by simp at hj; omega
  simpa using hc j hj'

/-- Does a part match a text's beginning? -/
def atB : List Int → List Int → Bool
  | [], _ => true
  | _ :: _, [] => false
  | c :: p, d :: t => (c == 95 || c == d) && atB p t

theorem atB_short (p t : List Int) (h : t.length < p.length) : atB p t = false := by
  induction p generalizing t with
  | nil => simp at h
  | cons c p ih =>
    cases t with
    | nil => rfl
    | cons d t => rw [atB, ih t (by simpa using h), Bool.and_false]
theorem atB_true (p t : List Int) (hl : p.length ≤ t.length) (h : ∀ i (h1 : i < p.length) (h2 : i < t.length), p[i] = 95 ∨ p[i] = t[i]) : atB p t = true := by
  induction p generalizing t with
  | nil => rfl
  | cons c p ih =>
    cases t with
    | nil => simp at hl
    | cons d t =>
      have h0 := h 0 (by simp) (by simp)
      rw [atB, ih t (by simpa using hl) (fun i h1 h2 => by have := h (i + 1) (by simpa using h1) (by simpa using h2); simpa only [List.getElem_cons_succ] using this)]
      simpa using h0
theorem atB_false (p t : List Int) (i : Nat) (h1 : i < p.length) (h2 : i < t.length) (hn : p[i] ≠ 95) (hn2 : p[i] ≠ t[i]) : atB p t = false := by
  induction p generalizing t i with
  | nil => simp at h1
  | cons c p ih =>
    cases t with
    | nil => rfl
    | cons d t =>
      cases i with
      | zero => simp at hn hn2; simp [atB, hn, hn2]
      | succ i => rw [atB, ih t i (by simpa using h1) (by simpa using h2) (by simpa using hn) (by simpa using hn2), Bool.and_false]

def AtRel (p t : List Int) (i : Value) (w0 w : World) : Prop := ∃ j : Nat, i = .int .i64 j ∧ j ≤ p.length ∧ w = w0 ∧ ∀ k (h1 : k < p.length) (h2 : k < t.length), k < j → p[k] = 95 ∨ p[k] = t[k]

set_option maxHeartbeats 1000000 in
theorem at_any {w : World} {a b : Option Addr} {p t : List Int} {ca cb : Nat} (ha : Rd w a p) (hb : Rd w b t) (hca : p.length ≤ ca) (hcb : t.length ≤ cb) (hma : ca ≤ maxLen) (hmb : cb ≤ maxLen) (hp : p.length ≤ 300) (ht : t.length ≤ 300) :
    Calls Try.prog 15 #[.slice a p.length ca, .slice b t.length cb] w fun e w' => e = .returned (.bool (atB p t)) ∧ w = w' := by
  unfold maxLen at hma hmb
  have HA := Lib.hid ha
  have HB := Lib.hid hb
  clear ha hb
  by_cases hlen : t.length < p.length
  · rw [atB_short p t hlen]
    have hlen' : (t.length : Int) < p.length := by omega
    go_enter Try.func15, Try.ntmps15
    go_wp2
    go_ret
    all_goals exact ⟨rfl, rfl⟩
  have hlen' : (p.length : Int) ≤ t.length := by omega
  go_enter Try.func15, Try.ntmps15
  go_wp2
  go_loopw [14] (fun i wr => AtRel p t i w wr) (fun i _ => p.length - (intOf i).toNat)
  case atStart => exact ⟨0, rfl, Nat.zero_le _, rfl, fun k _ _ hk => absurd hk (Nat.not_lt_zero _)⟩
  case round =>
    obtain ⟨j, rfl, hj, rfl, hr⟩ := hrel
    have R := Lib.hid hr
    clear hr
    by_cases hlt : j < p.length
    · have hlt2 : j < t.length := by omega
      obtain ⟨b1, o1, rfl, hb1, hc1⟩ := HA.out (by intro e; rw [e] at hlt; simp at hlt)
      obtain ⟨b2, o2, rfl, hb2, hc2⟩ := HB.out (by intro e; rw [e] at hlt2; simp at hlt2)
      have x1 := hc1 j hlt
      have x2 := hc2 j hlt2
      have N := Lib.hid (fun h1 h2 => atB_false p t j hlt hlt2 h1 h2)
      have Y := Lib.hid (fun (h : p[j] = 95 ∨ p[j] = t[j]) => (fun k (h1 : k < p.length) (h2 : k < t.length) (hk : k < j + 1) => (by
        rcases Nat.lt_or_ge k j with h3 | h3
        · exact R.out k h1 h2 h3
        · obtain rfl : k = j := by omega
          exact h : p[k] = 95 ∨ p[k] = t[k])))
      clear hc1 hc2
      generalize p[j] = c at *
      generalize t[j] = d at *
      by_cases e1 : c = 95
      · subst e1
        go_wp2
        go_roundw
        case rel => exact ⟨j + 1, by go_num, by omega, rfl, Y.out (.inl rfl)⟩
        case measure => simp [intOf]; omega
      · by_cases e2 : c = d
        · subst e2
          go_wp2
          go_roundw
          case rel => exact ⟨j + 1, by go_num, by omega, rfl, Y.out (.inr rfl)⟩
          case measure => simp [intOf]; omega
        · have F := Lib.hid (N.out e1 e2)
          have b1 : (c != 95) = true := by simpa using e1
          have b2 : (c != d) = true := by simpa using e2
          go_wp2
          go_ret
          all_goals simp [F.out]
    · have F := Lib.hid (atB_true p t (by omega) (fun i h1 h2 => R.out i h1 h2 (by omega)))
      have hge : (p.length : Int) ≤ j := by omega
      go_wp2
      go_ret
      all_goals simp [F.out]

end Go.Proofs.Ytkdebjampnfgjaa
