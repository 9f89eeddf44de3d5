/-
  PROVED: plain law of the hand where all slots are taken and none is pinned. Conditions: each theorem's own premises.
-/
import Derived.Test.YtfcifdddmcnjcaaPivot
import Derived.Deep.LoopGhost
namespace Go.Proofs.Ytfcifdddmcnjcaa
open Go.RowKit
set_option linter.unusedVariables false

/-- All taken, none pinned; which are used. -/
def uF (u : Nat → Bool) : Nat → Slot := fun j => ⟨true, u j, 0⟩
/-- The first j taken and used. -/
def fillF (j : Nat) : Nat → Slot := fun i => if i < j then ⟨true, true, 0⟩ else zeroSlot
/-- One more. -/
def upd (v : Nat → Bool) (k : Nat) : Nat → Bool := fun j => if j = k then true else v j
/-- How many of the first n. -/
def cnt (v : Nat → Bool) : Nat → Nat
  | 0 => 0
  | j + 1 => cnt v j + (if v j then 1 else 0)

theorem cnt_le (v : Nat → Bool) (n : Nat) : cnt v n ≤ n := by
  induction n with
  | zero => exact Nat.le_refl _
  | succ n ih => rw [cnt]; split <;> omega
theorem cnt_congr {v v' : Nat → Bool} {n : Nat} (h : ∀ j, j < n → v j = v' j) : cnt v n = cnt v' n := by
  induction n with
  | zero => rfl
  | succ n ih => rw [cnt, cnt, ih (fun j hj => h j (by omega)), h n (by omega)]
theorem cnt_upd {v : Nat → Bool} {k n : Nat} (hk : k < n) (h : v k = false) : cnt (upd v k) n = cnt v n + 1 := by
  induction n with
  | zero => omega
  | succ n ih =>
    rw [cnt, cnt]
    by_cases e : k = n
    · subst e
      rw [cnt_congr (v := upd v k) (v' := v) (fun j hj => by unfold upd; rw [if_neg (by omega)]), h]
      simp [upd]
    · rw [ih (by omega), show upd v k n = v n by unfold upd; rw [if_neg (fun h => e h.symm)]]
      omega
theorem upd_same {v : Nat → Bool} {k : Nat} (h : v k = true) : upd v k = v := by
  funext j
  unfold upd
  by_cases e : j = k
  · rw [if_pos e, e, h]
  · rw [if_neg e]
theorem cnt_lt {v : Nat → Bool} {n : Nat} (h : cnt v n < n) : ∃ j, j < n ∧ v j = false ∧ ∀ i, i < j → v i = true := by
  have : ∃ j, j < n ∧ v j = false := by
    induction n with
    | zero => omega
    | succ n ih =>
      rw [cnt] at h
      cases hv : v n with
      | false => exact ⟨n, by omega, hv⟩
      | true =>
        rw [hv] at h
        simp at h
        obtain ⟨j, h1, h2⟩ := ih h
        exact ⟨j, by omega, h2⟩
  obtain ⟨j, ⟨h1, h2⟩, h3⟩ := exists_least this
  refine ⟨j, h1, h2, fun i hi => ?_⟩
  cases hv : v i with
  | true => rfl
  | false => have := h3 i ⟨by omega, hv⟩; omega

/-- Many: those that were used, but the first. -/
def others (v : Nat → Bool) : Nat → Bool := fun j => v j && j != 0
theorem others_upd {v : Nat → Bool} {k n : Nat} (hk : k < n) : cnt (others (upd v k)) n = cnt (others v) n + (if (!v k && k != 0) then 1 else 0) := by
  by_cases hv : v k = true
  · rw [upd_same hv, hv]; simp
  · by_cases h0 : k = 0
    · subst h0
      rw [cnt_congr (v := others (upd v 0)) (v' := others v) (fun j _ => by unfold others upd; by_cases e : j = 0 <;> simp [e])]
      simp
    · have hv' : v k = false := by simpa using hv
      have e : others (upd v k) = upd (others v) k := by
        funext j
        unfold others upd
        by_cases e : j = k
        · subst e; simp [h0]
        · simp [e]
      rw [e, cnt_upd hk (by simp [others, hv']), hv']
      simp [h0]
theorem cnt_first {v : Nat → Bool} {n : Nat} (hn : 0 < n) : cnt (upd v 0) n = cnt (others v) n + 1 := by
  have e : upd v 0 = upd (others v) 0 := by
    funext j
    unfold others upd
    by_cases e : j = 0 <;> simp [e]
  rw [e, cnt_upd hn (by simp [others])]

theorem take_fill {n j : Nat} (hj : j < n) : takeR n (fillF j) 0 = (j, true, fillF (j + 1), 0) := by
  have hff : ff (fillF j) n = some j := ff_some.2 ⟨hj, by simp [fillF, zeroSlot], fun i hi => by simp [fillF, hi]⟩
  rw [takeR_free hff]
  have e : setS n (fillF j) j = fillF (j + 1) := by
    rw [setS, if_pos (within_in hj)]
    funext i
    simp only [put, Int.toNat_natCast]
    by_cases h1 : i = j
    · subst h1; simp [fillF, zeroSlot]
    · rw [if_neg h1]
      unfold fillF
      by_cases h2 : i < j
      · rw [if_pos h2, if_pos (by omega)]
      · rw [if_neg h2, if_neg (by omega)]
  rw [e]

/-- d used slots from h on are passed over. -/
def clr (u : Nat → Bool) (h d : Nat) : Nat → Bool := fun j => if h ≤ j ∧ j < h + d then false else u j
theorem rnd_skip {n : Nat} : ∀ (d k : Nat) (u : Nat → Bool) (h : Nat), h + d ≤ n → h < n → (∀ m, m < d → u (h + m) = true) → rnd n (d + k) (uF u) h = rnd n k (uF (clr u h d)) ((h + d) % n) := by
  intro d
  induction d with
  | zero =>
    intro k u h _ hh _
    have e : clr u h 0 = u := by funext j; unfold clr; rw [if_neg (by omega)]
    rw [Nat.zero_add, Nat.add_zero, Nat.mod_eq_of_lt hh, e]
  | succ d ih =>
    intro k u h hd hh hu
    have h0 := hu 0 (by omega)
    rw [Nat.add_zero] at h0
    rw [show d + 1 + k = (d + k) + 1 by omega, rnd, if_neg (by simp [uF]), if_pos (by simpa [uF] using h0)]
    have e : put (uF u) h ⟨(uF u h).t, false, (uF u h).p⟩ = uF (clr u h 1) := by
      funext j
      unfold put uF clr
      by_cases e : j = h
      · subst e; simp
      · rw [if_neg e, if_neg (by omega)]
    rw [e]
    have e3 : clr (clr u h 1) (h + 1) d = clr u h (d + 1) := by
      funext j
      unfold clr
      by_cases c1 : h + 1 ≤ j ∧ j < h + 1 + d
      · rw [if_pos c1, if_pos (by omega)]
      · rw [if_neg c1]
        by_cases c2 : h ≤ j ∧ j < h + 1
        · rw [if_pos c2, if_pos (by omega)]
        · rw [if_neg c2, if_neg (by omega)]
    by_cases hl : d = 0
    · subst hl
      rw [Nat.zero_add]
    · rw [Nat.mod_eq_of_lt (show h + 1 < n by omega), ih k (clr u h 1) (h + 1) (by omega) (by omega) (fun m hm => by
        unfold clr
        rw [if_neg (by omega), show h + 1 + m = h + (m + 1) by omega]
        exact hu (m + 1) (by omega)), e3, show h + 1 + d = h + (d + 1) by omega]

theorem all_taken (n : Nat) (u : Nat → Bool) : ff (uF u) n = none := ff_none.2 fun _ _ => rfl
theorem all_open {n : Nat} (u : Nat → Bool) (hn : 0 < n) : anyOpen (uF u) n = true := anyOpen_iff.2 ⟨0, hn, rfl⟩
theorem set_uF {n k : Nat} {u : Nat → Bool} (hk : k < n) : setS n (uF u) k = uF (upd u k) := by
  rw [setS, if_pos (within_in hk)]
  funext j
  unfold put uF upd
  simp only [Int.toNat_natCast]
  by_cases e : j = k
  · rw [if_pos e, if_pos e]
  · rw [if_neg e, if_neg e]
theorem use_uF {n k : Nat} {u : Nat → Bool} (hk : k < n) : useS n (uF u) k = uF (upd u k) := by
  have : has n (uF u) k = true := by simp [has, within_in hk, uF]
  rw [useS, if_pos this]
  funext j
  unfold put uF upd
  simp only [Int.toNat_natCast]
  by_cases e : j = k
  · rw [if_pos e, if_pos e]
  · rw [if_neg e, if_neg e]

/-- The hand gives the next that is not used. -/
theorem take_next {n h j : Nat} {u : Nat → Bool} (hj : h ≤ j) (hjn : j < n) (hu : ∀ i, h ≤ i → i < j → u i = true) (h0 : u j = false) :
    takeR n (uF u) h = (j, true, uF (upd (clr u h (j - h)) j), (j + 1) % n) := by
  have e1 : (h + (j - h)) % n = j := by rw [show h + (j - h) = j by omega, Nat.mod_eq_of_lt hjn]
  have hr : rnd n (2 * n + 1) (uF u) h = some (j, uF (clr u h (j - h)), (j + 1) % n) := by
    rw [show 2 * n + 1 = (j - h) + ((2 * n - (j - h)) + 1) by omega, rnd_skip (j - h) _ u h (by omega) (by omega) (fun m hm => hu _ (by omega) (by omega)), e1, rnd]
    have e2 : clr u h (j - h) j = false := by unfold clr; rw [if_neg (by omega)]; exact h0
    rw [if_neg (by simp [uF]), if_neg (by simp [uF, e2])]
  rw [takeR_round (all_taken n u) (all_open u (by omega)) hr, set_uF hjn]

/-- All are used: the hand goes once round. -/
theorem take_first {n : Nat} {u : Nat → Bool} (hn : 0 < n) (hu : ∀ i, i < n → u i = true) :
    takeR n (uF u) 0 = (0, true, uF (upd (clr u 0 n) 0), 1 % n) := by
  have hr : rnd n (2 * n + 1) (uF u) 0 = some (0, uF (clr u 0 n), 1 % n) := by
    rw [show 2 * n + 1 = n + (n + 1) by omega, rnd_skip n _ u 0 (by omega) hn (fun m hm => hu _ (by omega)), Nat.zero_add, Nat.mod_self, rnd]
    have e2 : clr u 0 n 0 = false := by unfold clr; rw [if_pos (by omega)]
    rw [if_neg (by simp [uF]), if_neg (by simp [uF, e2])]
  have hs : setS n (uF (clr u 0 n)) ((0 : Nat) : Int) = uF (upd (clr u 0 n) 0) := set_uF hn
  rw [takeR_round (all_taken n u) (all_open u hn) hr, hs]

end Go.Proofs.Ytfcifdddmcnjcaa
