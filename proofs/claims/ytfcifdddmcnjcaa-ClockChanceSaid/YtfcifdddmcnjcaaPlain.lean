/-
  PROVED: the plain law of the hand that goes round, and of what is taken. Conditions: each theorem's own premises.
-/
import Derived.Test.YtfcifdddmcnjcaaNew
namespace Go.Proofs.Ytfcifdddmcnjcaa
open Go.RowKit
set_option linter.unusedVariables false

theorem mod_step {n h d j : Nat} (hn : 0 < n) (e : (h + (d + 1)) % n = j) : ((h + 1) % n + d) % n = j := by
  rw [← e, Nat.mod_add_mod, Nat.add_assoc, Nat.add_comm 1 d]
theorem mod_back {n h : Nat} (hh : h < n) : ((h + 1) % n + (n - 1)) % n = h := by
  rw [Nat.mod_add_mod, show h + 1 + (n - 1) = h + n by omega, Nat.add_mod_right, Nat.mod_eq_of_lt hh]

/-- A slot d steps on that is neither pinned nor used: the hand stops. -/
theorem rnd_near (n : Nat) (hn : 0 < n) : ∀ (d k : Nat) (f : Nat → Slot) (h j : Nat), h < n → (h + d) % n = j → ¬ 0 < (f j).p → (f j).u = false → d < k → ∃ R, rnd n k f h = some R := by
  intro d
  induction d with
  | zero =>
    intro k f h j hh e hp hu hk
    obtain ⟨k, rfl⟩ : ∃ m, k = m + 1 := ⟨k - 1, by omega⟩
    rw [Nat.add_zero, Nat.mod_eq_of_lt hh] at e
    subst e
    exact ⟨_, by rw [rnd, if_neg hp, if_neg (by rw [hu]; simp)]⟩
  | succ d ih =>
    intro k f h j hh e hp hu hk
    obtain ⟨k, rfl⟩ : ∃ m, k = m + 1 := ⟨k - 1, by omega⟩
    have hm : (h + 1) % n < n := Nat.mod_lt _ hn
    have e' := mod_step hn e
    rw [rnd]
    split
    · exact ih k f _ j hm e' hp hu (by omega)
    · split
      · refine ih k _ _ j hm e' ?_ ?_ (by omega)
        · unfold put; split
          · rename_i he; subst he; exact hp
          · exact hp
        · unfold put; split
          · rfl
          · exact hu
      · exact ⟨_, rfl⟩

/-- A slot d steps on that is not pinned: the hand stops behind one more round. -/
theorem rnd_far (n : Nat) (hn : 0 < n) : ∀ (d k : Nat) (f : Nat → Slot) (h j : Nat), h < n → (h + d) % n = j → ¬ 0 < (f j).p → d + n < k → ∃ R, rnd n k f h = some R := by
  intro d
  induction d with
  | zero =>
    intro k f h j hh e hp hk
    obtain ⟨k, rfl⟩ : ∃ m, k = m + 1 := ⟨k - 1, by omega⟩
    rw [Nat.add_zero, Nat.mod_eq_of_lt hh] at e
    subst e
    rw [rnd, if_neg hp]
    split
    · exact rnd_near n hn (n - 1) k _ _ h (Nat.mod_lt _ hn) (mod_back hh) (by rw [put_at]; exact hp) (by rw [put_at]) (by omega)
    · exact ⟨_, rfl⟩
  | succ d ih =>
    intro k f h j hh e hp hk
    obtain ⟨k, rfl⟩ : ∃ m, k = m + 1 := ⟨k - 1, by omega⟩
    have hm : (h + 1) % n < n := Nat.mod_lt _ hn
    have e' := mod_step hn e
    rw [rnd]
    split
    · exact ih k f _ j hm e' hp (by omega)
    · split
      · refine ih k _ _ j hm e' ?_ (by omega)
        unfold put; split
        · rename_i he; subst he; exact hp
        · exact hp
      · exact ⟨_, rfl⟩

theorem rnd_ends {n h : Nat} {f : Nat → Slot} (hh : h < n) {j : Nat} (hj : j < n) (hp : ¬ 0 < (f j).p) : ∃ R, rnd n (2 * n + 1) f h = some R := by
  have hn : 0 < n := by omega
  by_cases e : h ≤ j
  · exact rnd_far n hn (j - h) _ f h j hh (by rw [show h + (j - h) = j by omega, Nat.mod_eq_of_lt hj]) hp (by omega)
  · exact rnd_far n hn (n - h + j) _ f h j hh (by rw [show h + (n - h + j) = j + n by omega, Nat.add_mod_right, Nat.mod_eq_of_lt hj]) hp (by omega)

/-- What the hand gives, and what it turns. -/
theorem rnd_law (n : Nat) (hn : 0 < n) : ∀ (k : Nat) (f : Nat → Slot) (h : Nat) (R : Nat × (Nat → Slot) × Nat), h < n → rnd n k f h = some R →
    R.1 < n ∧ R.2.2 < n ∧ ¬ 0 < (f R.1).p ∧ ∀ j, (R.2.1 j).t = (f j).t ∧ (R.2.1 j).p = (f j).p := by
  intro k
  induction k with
  | zero => intro f h R _ e; cases e
  | succ k ih =>
    intro f h R hh e
    have hm : (h + 1) % n < n := Nat.mod_lt _ hn
    rw [rnd] at e
    split at e
    · exact ih f _ R hm e
    · split at e
      · obtain ⟨a, b, c, d⟩ := ih _ _ R hm e
        refine ⟨a, b, ?_, fun j => ?_⟩
        · revert c; unfold put; split
          · rename_i he; rw [he]; exact id
          · exact id
        · have := d j
          revert this; unfold put; split
          · rename_i he; rw [he]; exact id
          · exact id
      · rename_i hp hu
        obtain rfl := Option.some.inj e
        exact ⟨hh, hm, hp, fun j => ⟨rfl, rfl⟩⟩

/-- The first slot that is not taken. -/
def ff (f : Nat → Slot) : Nat → Option Nat
  | 0 => none
  | j + 1 => match ff f j with
    | some i => some i
    | none => if (f j).t then none else some j
/-- Is one not pinned? -/
def anyOpen (f : Nat → Slot) : Nat → Bool
  | 0 => false
  | j + 1 => anyOpen f j || ((f j).p == 0)

theorem ff_none {f : Nat → Slot} {n : Nat} : ff f n = none ↔ ∀ j, j < n → (f j).t = true := by
  induction n with
  | zero => simp [ff]
  | succ n ih =>
    rw [ff]
    cases e : ff f n with
    | some i =>
      simp only [reduceCtorEq, false_iff]
      intro h
      rw [ih.2 (fun j hj => h j (by omega))] at e
      cases e
    | none =>
      have a := ih.1 e
      simp only
      constructor
      · intro h j hj
        rcases Nat.lt_or_ge j n with h1 | h1
        · exact a j h1
        · obtain rfl : j = n := by omega
          split at h
          · assumption
          · cases h
      · intro h
        rw [if_pos (h n (by omega))]
theorem ff_some {f : Nat → Slot} {n i : Nat} : ff f n = some i ↔ i < n ∧ (f i).t = false ∧ ∀ j, j < i → (f j).t = true := by
  induction n with
  | zero => simp [ff]
  | succ n ih =>
    rw [ff]
    cases e : ff f n with
    | some k =>
      simp only [Option.some.injEq]
      rw [e] at ih
      constructor
      · rintro rfl
        obtain ⟨a, b⟩ := ih.1 rfl
        exact ⟨by omega, b⟩
      · rintro ⟨a, b, c⟩
        rcases Nat.lt_or_ge i n with h1 | h1
        · exact Option.some.inj (ih.2 ⟨h1, b, c⟩)
        · obtain rfl : i = n := by omega
          rw [ff_none.2 c] at e
          cases e
    | none =>
      have a := ff_none.1 e
      simp only
      constructor
      · intro h
        split at h
        · cases h
        · obtain rfl := Option.some.inj h
          rename_i hx
          exact ⟨by omega, by simpa using hx, a⟩
      · rintro ⟨h1, h2, h3⟩
        rcases Nat.lt_or_ge i n with h4 | h4
        · rw [a i h4] at h2; cases h2
        · obtain rfl : i = n := by omega
          rw [if_neg (by rw [h2]; simp)]
theorem anyOpen_iff {f : Nat → Slot} {n : Nat} : anyOpen f n = true ↔ ∃ j, j < n ∧ (f j).p = 0 := by
  induction n with
  | zero => simp [anyOpen]
  | succ n ih =>
    rw [anyOpen, Bool.or_eq_true, ih, beq_iff_eq]
    constructor
    · rintro (⟨j, h1, h2⟩ | h)
      · exact ⟨j, by omega, h2⟩
      · exact ⟨n, by omega, h⟩
    · rintro ⟨j, h1, h2⟩
      rcases Nat.lt_or_ge j n with h3 | h3
      · exact .inl ⟨j, h3, h2⟩
      · obtain rfl : j = n := by omega
        exact .inr h2

/-- Take: which slot, whether, the slots, the hand. -/
def takeR (n : Nat) (f : Nat → Slot) (h : Nat) : Nat × Bool × (Nat → Slot) × Nat :=
  match ff f n with
  | some i => (i, true, setS n f i, h)
  | none => if anyOpen f n then (match rnd n (2 * n + 1) f h with | some (i, f', h') => (i, true, setS n f' i, h') | none => (0, false, f, h)) else (0, false, f, h)

theorem takeR_free {n h i : Nat} {f : Nat → Slot} (e : ff f n = some i) : takeR n f h = (i, true, setS n f i, h) := by simp [takeR, e]
theorem takeR_no {n h : Nat} {f : Nat → Slot} (e : ff f n = none) (o : anyOpen f n = false) : takeR n f h = (0, false, f, h) := by simp [takeR, e, o]
theorem takeR_round {n h i h' : Nat} {f f' : Nat → Slot} (e : ff f n = none) (o : anyOpen f n = true) (r : rnd n (2 * n + 1) f h = some (i, f', h')) : takeR n f h = (i, true, setS n f' i, h') := by simp [takeR, e, o, r]

theorem idx_ff {f : Nat → Slot} {n : Nat} {r : Int} (h : IdxIs f (fun s => !s.t) n r) : (r = -1 ∧ ff f n = none) ∨ ∃ i : Nat, i < n ∧ r = i ∧ ff f n = some i := by
  rcases h with ⟨rfl, h⟩ | ⟨j, hj, rfl, hp, hk⟩
  · exact .inl ⟨rfl, ff_none.2 fun k hk => by simpa using h k hk⟩
  · exact .inr ⟨j, hj, rfl, ff_some.2 ⟨hj, by simpa using hp, fun k h => by simpa using hk k h⟩⟩

end Go.Proofs.Ytfcifdddmcnjcaa
