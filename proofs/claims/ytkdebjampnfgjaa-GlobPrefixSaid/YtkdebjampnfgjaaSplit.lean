/-
  PROVED: contracts of the reference's 'Runes' and of 'parts'. Conditions: each theorem's own premises.
-/
import Derived.Test.YtkdebjampnfgjaaFind
namespace Go.Proofs.Ytkdebjampnfgjaa
open Go.RowKit
set_option linter.unusedVariables false

def SameLoop (w0 : World) (ks ls : List Int) (i : Value) (w : World) : Prop := ∃ j : Nat, i = .int .i64 j ∧ j ≤ ks.length ∧ ks.take j = ls.take j ∧ ∃ n, w = w0.drewN n
def SameEnd (w0 : World) (ks ls : List Int) (e : Ending) (w : World) : Prop := e = .returned (.bool (decide (ks = ls))) ∧ ∃ n, w = w0.drewN n

set_option maxHeartbeats 1000000 in
theorem same_any {w : World} {a b : Option Addr} {ks ls : List Int} {ca cb : Nat} (ha : Rd w a ks) (hb : Rd w b ls) (hca : ks.length ≤ ca) (hcb : ls.length ≤ cb) (hl : ks.length ≤ 300) (hma : ca ≤ maxLen) (hmb : cb ≤ maxLen) :
    Calls Try.prog 9 #[.slice a ks.length ca, .slice b ls.length cb] w (SameEnd w ks ls) := by
  unfold maxLen at hma hmb
  have HA := Lib.hid ha
  have HB := Lib.hid hb
  clear ha hb
  by_cases hlen : ks.length = ls.length
  · have HL := Lib.hid hlen
    have hle : ls.length ≤ 300 := by omega
    have b0 : ((ks.length : Int) != ls.length) = false := by rw [hlen]; simp
    have l1 : (ks.length : Int) ≤ ls.length := by omega
    have l2 : (ls.length : Int) ≤ ks.length := by omega
    clear hlen
    go_enter Try.func9, Try.ntmps9
    go_wp2
    go_loopw [5] (fun i wr => SameLoop w ks ls i wr) (fun i _ => ks.length - (intOf i).toNat)
    case atStart => exact ⟨0, rfl, Nat.zero_le _, rfl, 0, rfl⟩
    case round =>
      obtain ⟨j, rfl, hj, ht, n, rfl⟩ := hrel
      have HT := Lib.hid ht
      clear ht
      by_cases hlt : j < ks.length
      · have hlt2 : j < ls.length := by omega
        obtain ⟨b1, o1, rfl, _, hc1⟩ := HA.out (by intro e; rw [e] at hlt; simp at hlt)
        obtain ⟨b2, o2, rfl, _, hc2⟩ := HB.out (by intro e; rw [e] at hlt2; simp at hlt2)
        have x0 := hc1 j hlt
        have y0 := hc2 j hlt2
        clear hc1 hc2
        have hkj := Lib.hid (show ks[j]? = some ks[j] by simp [hlt])
        have hlj := Lib.hid (show ls[j]? = some ls[j] by simp [hlt2])
        have i0 : (0 : Int) ≤ j := by omega
        have i1 : (j : Int) < ks.length := by omega
        have i2 : (j : Int) < ls.length := by omega
        generalize ks[j] = x at *
        generalize ls[j] = y at *
        by_cases hxy : x = y
        · subst hxy
          go_wp2_with fail
          go_quiet (fail)
          go_wp2
          go_roundw
          case rel => exact ⟨j + 1, by go_num, by omega, by rw [List.take_add_one, List.take_add_one, HT.out, hkj.out, hlj.out], _, rfl⟩
          case measure => simp [intOf]; omega
        · have HN : Hid (¬ ks = ls) := Lib.hid (fun e => by
            have h1 := hkj.out
            rw [e, hlj.out] at h1
            exact hxy (Option.some.inj h1).symm)
          have b1 : (x != y) = true := by simpa using hxy
          clear hxy
          go_wp2_with fail
          go_quiet (fail)
          go_wp2
          go_ret
          exact ⟨by simp [HN.out], _, World.drewN_drewN _ _ _⟩
      · have HE : Hid (ks = ls) := Lib.hid (by
          obtain rfl : j = ks.length := by omega
          have h1 := HT.out
          rw [List.take_length] at h1
          rw [h1, HL.out, List.take_length])
        go_wp2
        go_ret
        exact ⟨by simp [HE.out], _, rfl⟩
  · have HN : Hid (¬ ks = ls) := Lib.hid (fun e => hlen (by rw [e]))
    have b0 : ((ks.length : Int) != ls.length) = true := by rw [bne_iff_ne]; omega
    clear hlen
    go_enter Try.func9, Try.ntmps9
    go_wp2
    go_ret
    exact ⟨by simp [HN.out], 0, rfl⟩

/-- A pattern's parts between its marks of many. -/
def split37 : List Int → List (List Int)
  | [] => [[]]
  | c :: p => if 37 = c then [] :: split37 p else
    match split37 p with
    | q :: qs => (c :: q) :: qs
    | [] => [[c]]
theorem split37_none (p : List Int) (h : ixN 37 p = none) : split37 p = [p] := by
  induction p with
  | nil => rfl
  | cons c p ih =>
    rw [ixN] at h
    split at h
    · cases h
    · rename_i hc
      have h1 : ixN 37 p = none := by simpa using h
      rw [split37, if_neg hc, ih h1]
theorem split37_some (p : List Int) (i : Nat) (h : ixN 37 p = some i) : split37 p = p.take i :: split37 (p.drop (i + 1)) ∧ i < p.length := by
  induction p generalizing i with
  | nil => cases h
  | cons c p ih =>
    rw [ixN] at h
    split at h
    · rename_i hc
      cases h
      rw [split37, if_pos hc]
      simp
    · rename_i hc
      obtain ⟨k, hk, rfl⟩ := Option.map_eq_some_iff.1 h
      obtain ⟨h1, h2⟩ := ih k hk
      rw [split37, if_neg hc, h1]
      simpa using h2
theorem split37_length (p : List Int) : 0 < (split37 p).length ∧ (split37 p).length ≤ p.length + 1 := by
  induction p with
  | nil => simp [split37]
  | cons c p ih =>
    rw [split37]
    split
    · simp; omega
    · cases h : split37 p with
      | nil => simp
      | cons q qs => rw [h] at ih; simp at ih ⊢; omega

/-- The parts lie so. -/
def PartV (w : World) (x : Value) (q : List Int) : Prop := ∃ a cap, x = .slice a q.length cap ∧ q.length ≤ cap ∧ cap ≤ maxLen ∧ Rd w a q
structure PartsV (w : World) (xs : List Value) (qs : List (List Int)) : Prop where
  len : xs.length = qs.length
  at_ : ∀ i (h : i < xs.length) (h2 : i < qs.length), PartV w xs[i] qs[i]
theorem PartV.below {w w' : World} {x : Value} {q : List Int} (h : PartV w x q) (hb : Below w.heap.size w w') : PartV w' x q := by
  obtain ⟨a, cap, h1, h2, h3, h4⟩ := h
  exact ⟨a, cap, h1, h2, h3, h4.below hb⟩
theorem PartsV.add {w : World} {xs : List Value} {qs : List (List Int)} {x : Value} {q : List Int} (h : PartsV w xs qs) (hx : PartV w x q) : PartsV w (xs ++ [x]) (qs ++ [q]) := by
  refine ⟨by simp [h.len], fun i h1 h2 => ?_⟩
  rcases Nat.lt_or_ge i xs.length with h3 | h3
  · have h4 : i < qs.length := by rw [← h.len]; exact h3
    rw [List.getElem_append_left h3, List.getElem_append_left h4]
    exact h.at_ i h3 h4
  · have h5 : i = xs.length := by simp at h1; omega
    have h6 : i = qs.length := by rw [← h.len]; exact h5
    rw [List.getElem_append_right h3, List.getElem_append_right (by omega)]
    simpa [h5, h6] using hx

end Go.Proofs.Ytkdebjampnfgjaa
