/-
  PROVED: contracts of 'find', the library's 'Index' and the reference's 'Runes'. Conditions: each theorem's own premises.
-/
import Derived.Test.YtkdebjampnfgjaaPart
namespace Go.Proofs.Ytkdebjampnfgjaa
open Go.RowKit
set_option linter.unusedVariables false

/-- Where a part matches first. -/
def findN (p : List Int) : List Int → Option Nat
  | [] => if atB p [] then some 0 else none
  | d :: t => if atB p (d :: t) then some 0 else (findN p t).map (· + 1)
def asInt : Option Nat → Int
  | some i => i
  | none => -1

theorem findN_some (p t : List Int) (i : Nat) (hi : i ≤ t.length) (hn : ∀ k, k < i → atB p (t.drop k) = false) (h : atB p (t.drop i) = true) : findN p t = some i := by
  induction t generalizing i with
  | nil =>
    obtain rfl : i = 0 := by simpa using hi
    simp at h
    simp [findN, h]
  | cons d t ih =>
    cases i with
    | zero => simp at h; simp [findN, h]
    | succ i =>
      have h0 := hn 0 (by omega)
      simp at h0
      rw [findN, if_neg (by simp [h0]), ih i (by simpa using hi) (fun k hk => by simpa using hn (k + 1) (by omega)) (by simpa using h)]
      rfl
theorem findN_none (p t : List Int) (hn : ∀ k, k ≤ t.length → atB p (t.drop k) = false) : findN p t = none := by
  induction t with
  | nil =>
    have := hn 0 (by simp)
    simp at this
    simp [findN, this]
  | cons d t ih =>
    have h0 := hn 0 (by simp)
    simp at h0
    rw [findN, if_neg (by simp [h0]), ih (fun k hk => by simpa using hn (k + 1) (by simpa using hk))]
    rfl

/-- Where a rune is first. -/
def ixN (c : Int) : List Int → Option Nat
  | [] => none
  | d :: t => if c = d then some 0 else (ixN c t).map (· + 1)
theorem ixN_some (c : Int) (t : List Int) (i : Nat) (hi : i < t.length) (hn : ∀ k (h : k < t.length), k < i → c ≠ t[k]) (h : c = t[i]) : ixN c t = some i := by
  induction t generalizing i with
  | nil => simp at hi
  | cons d t ih =>
    cases i with
    | zero => simp at h; simp [ixN, h]
    | succ i =>
      have h0 := hn 0 (by simp) (by omega)
      simp at h0
      rw [ixN, if_neg h0, ih i (by simpa using hi) (fun k h1 h2 => by have := hn (k + 1) (by simpa using h1) (by omega); simpa only [List.getElem_cons_succ] using this) (by simpa only [List.getElem_cons_succ] using h)]
      rfl
theorem ixN_none (c : Int) (t : List Int) (hn : ∀ k (h : k < t.length), c ≠ t[k]) : ixN c t = none := by
  induction t with
  | nil => rfl
  | cons d t ih =>
    have h0 := hn 0 (by simp)
    simp at h0
    rw [ixN, if_neg h0, ih (fun k h1 => by have := hn (k + 1) (by simpa using h1); simpa only [List.getElem_cons_succ] using this)]
    rfl

def IxRel (c : Int) (t : List Int) (i : Value) (w0 w : World) : Prop := ∃ j : Nat, i = .int .i64 j ∧ j ≤ t.length ∧ w = w0 ∧ ∀ k (h : k < t.length), k < j → c ≠ t[k]

set_option maxHeartbeats 1000000 in
theorem index_any {w : World} {a : Option Addr} {t : List Int} {ca : Nat} (c : Int) (ha : Rd w a t) (hca : t.length ≤ ca) (hma : ca ≤ maxLen) (ht : t.length ≤ 300) :
    Calls Try.prog 20 #[.slice a t.length ca, .int .i32 c] w fun e w' => e = .returned (.int .i64 (asInt (ixN c t))) ∧ w = w' := by
  unfold maxLen at hma
  have HA := Lib.hid ha
  clear ha
  go_enter Try.func20, Try.ntmps20
  go_wp2
  go_loopw [8] (fun i wr => IxRel c t i w wr) (fun i _ => t.length - (intOf i).toNat)
  case atStart => exact ⟨0, rfl, Nat.zero_le _, rfl, fun k _ hk => absurd hk (Nat.not_lt_zero _)⟩
  case round =>
    obtain ⟨j, rfl, hj, rfl, hr⟩ := hrel
    have R := Lib.hid hr
    clear hr
    by_cases hlt : j < t.length
    · obtain ⟨b1, o1, rfl, hb1, hc1⟩ := HA.out (by intro e; rw [e] at hlt; simp at hlt)
      have x1 := hc1 j hlt
      have F := Lib.hid (fun h => ixN_some c t j hlt R.out h)
      have Y := Lib.hid (fun (h : c ≠ t[j]) => (fun k (h1 : k < t.length) (hk : k < j + 1) => (by
        rcases Nat.lt_or_ge k j with h3 | h3
        · exact R.out k h1 h3
        · obtain rfl : k = j := by omega
          exact h : c ≠ t[k])))
      clear hc1
      generalize t[j] = d at *
      by_cases e1 : c = d
      · have FF := Lib.hid (F.out e1)
        have b1 : (c == d) = true := by simpa using e1
        clear e1
        go_wp2
        go_ret
        all_goals simp [FF.out, asInt]
      · have b1 : (c == d) = false := by simpa using e1
        go_wp2
        go_roundw
        case rel => exact ⟨j + 1, by go_num, by omega, rfl, Y.out e1⟩
        case measure => simp [intOf]; omega
    · have F := Lib.hid (ixN_none c t (fun i h1 => R.out i h1 (by omega)))
      have hge : (t.length : Int) ≤ j := by omega
      go_wp2
      go_ret
      all_goals simp [F.out, asInt]

theorem Rd.dropMap {w : World} {a : Option Addr} {l : List Int} (h : Rd w a l) (i : Nat) : Rd w (a.map fun x => x.add i) (l.drop i) := by
  by_cases hi : i < l.length
  · obtain ⟨b, off, rfl, _, _⟩ := h (by intro e; rw [e] at hi; simp at hi)
    exact h.drop i _ (fun _ => by simp [Addr.add_lit])
  · rw [List.drop_eq_nil_of_le (by omega)]
    exact Rd.nil _ _
theorem Rd.dropEnd {w : World} {a : Option Addr} {l : List Int} {i : Nat} (h : l.length ≤ i) : Rd w a (l.drop i) := by
  rw [List.drop_eq_nil_of_le h]
  exact Rd.nil _ _
theorem at_n {w : World} {a b : Option Addr} {p t : List Int} {n m ca cb : Nat} (hn : n = p.length) (hm : m = t.length) (ha : Rd w a p) (hb : Rd w b t) (hca : p.length ≤ ca) (hcb : t.length ≤ cb) (hma : ca ≤ maxLen) (hmb : cb ≤ maxLen) (hp : p.length ≤ 300) (ht : t.length ≤ 300) :
    Calls Try.prog 15 #[.slice a n ca, .slice b m cb] w fun e w' => e = .returned (.bool (atB p t)) ∧ w = w' := by
  subst hn hm
  exact at_any ha hb hca hcb hma hmb hp ht

def FindRel (p t : List Int) (i : Value) (w0 w : World) : Prop := ∃ j : Nat, i = .int .i64 j ∧ j ≤ t.length + 1 ∧ w = w0 ∧ ∀ k, k < j → atB p (t.drop k) = false

set_option maxHeartbeats 2000000 in
theorem find_any {w : World} {a b : Option Addr} {p t : List Int} {ca cb : Nat} (ha : Rd w a p) (hb : Rd w b t) (hca : p.length ≤ ca) (hcb : t.length ≤ cb) (hma : ca ≤ maxLen) (hmb : cb ≤ maxLen) (hp : p.length ≤ 300) (ht : t.length ≤ 300) :
    Calls Try.prog 16 #[.slice a p.length ca, .slice b t.length cb] w fun e w' => e = .returned (.int .i64 (asInt (findN p t))) ∧ w = w' := by
  have HA := Lib.hid ha
  have HB := Lib.hid hb
  unfold maxLen at hma hmb
  clear ha hb
  go_enter Try.func16, Try.ntmps16
  go_wp2
  go_loopw [5] (fun i wr => FindRel p t i w wr) (fun i _ => t.length + 1 - (intOf i).toNat)
  case atStart => exact ⟨0, rfl, Nat.zero_le _, rfl, fun k hk => absurd hk (Nat.not_lt_zero _)⟩
  case round =>
    obtain ⟨j, rfl, hj, rfl, hr⟩ := hrel
    have R := Lib.hid hr
    clear hr
    by_cases hlt : j + p.length ≤ t.length
    · have hle : (j : Int) + p.length ≤ t.length := by omega
      have hjt : j ≤ t.length := by omega
      have F := Lib.hid (fun h => findN_some p t j hjt R.out h)
      have Y := Lib.hid (fun (h : atB p (t.drop j) = false) => (fun k (hk : k < j + 1) => (by
        rcases Nat.lt_or_ge k j with h3 | h3
        · exact R.out k h3
        · obtain rfl : k = j := by omega
          exact h : atB p (t.drop k) = false)))
      by_cases hcj : cb = j
      · have hj2 : j = cb := hcj.symm
        subst hj2
        go_wp2_with fail
        refine (at_n rfl (by have := List.length_drop (l := t) (i := j); omega) HA.out (Rd.dropEnd hcb) hca (by rw [List.length_drop]; omega) (by unfold maxLen; omega) (by unfold maxLen; omega) hp (by rw [List.length_drop]; omega)).mono ?_
        rintro e w' ⟨rfl, rfl⟩
        cases hat : atB p (t.drop j)
        · have YY := Lib.hid (Y.out hat)
          go_wp2
          go_roundw
          case rel => exact ⟨j + 1, by go_num, by omega, rfl, YY.out⟩
          case measure => simp [intOf]; omega
        · have FF := Lib.hid (F.out hat)
          go_wp2
          go_ret
          all_goals simp [FF.out, asInt]
      · go_wp2_with fail
        refine (at_n rfl (by have := List.length_drop (l := t) (i := j); omega) HA.out (HB.out.dropMap j) hca (by rw [List.length_drop]; omega) (by unfold maxLen; omega) (by unfold maxLen; omega) hp (by rw [List.length_drop]; omega)).mono ?_
        rintro e w' ⟨rfl, rfl⟩
        cases hat : atB p (t.drop j)
        · have YY := Lib.hid (Y.out hat)
          go_wp2
          go_roundw
          case rel => exact ⟨j + 1, by go_num, by omega, rfl, YY.out⟩
          case measure => simp [intOf]; omega
        · have FF := Lib.hid (F.out hat)
          go_wp2
          go_ret
          all_goals simp [FF.out, asInt]
    · have F := Lib.hid (findN_none p t (fun k hk => by
        rcases Nat.lt_or_ge k j with h3 | h3
        · exact R.out k h3
        · exact atB_short _ _ (by simp; omega)))
      have hge : ¬ (j : Int) + p.length ≤ t.length := by omega
      go_wp2
      go_ret
      all_goals simp [F.out, asInt]

end Go.Proofs.Ytkdebjampnfgjaa
