/-
  PROVED: what 'Match' answers is whether the text parts as the pattern says; what holds of joined patterns, and of a pattern's last rune. Conditions: each theorem's own premises.
-/
import Derived.Test.YtkdebjampnfgjaaMatch
namespace Go.Proofs.Ytkdebjampnfgjaa
set_option linter.unusedVariables false

/-- Does a text part as the pattern says? -/
def Mt : List Int → List Int → Prop
  | [], t => t = []
  | c :: p, t => (c = 37 ∧ ∃ u v, t = u ++ v ∧ Mt p v) ∨ (c ≠ 37 ∧ ∃ d v, t = d :: v ∧ (c = 95 ∨ c = d) ∧ Mt p v)

theorem Mt_nil (t : List Int) : Mt [] t ↔ t = [] := Iff.rfl
theorem Mt_many (p t : List Int) : Mt (37 :: p) t ↔ ∃ u v, t = u ++ v ∧ Mt p v := by
  rw [Mt]
  constructor
  · rintro (⟨_, h⟩ | ⟨h, _⟩)
    · exact h
    · exact absurd rfl h
  · intro h; exact .inl ⟨rfl, h⟩
theorem Mt_one {c : Int} (hc : c ≠ 37) (p t : List Int) : Mt (c :: p) t ↔ ∃ d v, t = d :: v ∧ (c = 95 ∨ c = d) ∧ Mt p v := by
  rw [Mt]
  constructor
  · rintro (⟨h, _⟩ | ⟨_, h⟩)
    · exact absurd h hc
    · exact h
  · intro h; exact .inr ⟨hc, h⟩

theorem Mt_append (p q t : List Int) : Mt (p ++ q) t ↔ ∃ u v, t = u ++ v ∧ Mt p u ∧ Mt q v := by
  induction p generalizing t with
  | nil =>
    constructor
    · intro h; exact ⟨[], t, rfl, rfl, h⟩
    · rintro ⟨u, v, rfl, h, h2⟩
      rw [Mt_nil] at h
      subst h
      exact h2
  | cons c p ih =>
    by_cases hc : c = 37
    · subst hc
      rw [List.cons_append, Mt_many]
      constructor
      · rintro ⟨u, v, rfl, h⟩
        obtain ⟨x, y, rfl, h1, h2⟩ := (ih v).1 h
        exact ⟨u ++ x, y, by simp, (Mt_many _ _).2 ⟨u, x, rfl, h1⟩, h2⟩
      · rintro ⟨a, b, rfl, h1, h2⟩
        obtain ⟨u, x, rfl, h3⟩ := (Mt_many _ _).1 h1
        exact ⟨u, x ++ b, by simp, (ih _).2 ⟨x, b, rfl, h3, h2⟩⟩
    · rw [List.cons_append, Mt_one hc]
      constructor
      · rintro ⟨d, v, rfl, hd, h⟩
        obtain ⟨x, y, rfl, h1, h2⟩ := (ih v).1 h
        exact ⟨d :: x, y, rfl, (Mt_one hc _ _).2 ⟨d, x, rfl, hd, h1⟩, h2⟩
      · rintro ⟨a, b, rfl, h1, h2⟩
        obtain ⟨d, x, rfl, hd, h3⟩ := (Mt_one hc _ _).1 h1
        exact ⟨d, x ++ b, rfl, hd, (ih _).2 ⟨x, b, rfl, h3, h2⟩⟩

theorem Mt_flat (q t : List Int) (h : 37 ∉ q) : Mt q t ↔ q.length = t.length ∧ atB q t = true := by
  induction q generalizing t with
  | nil => rw [Mt_nil]; simp [atB]; exact ⟨fun h => by subst h; rfl, fun h => List.length_eq_zero_iff.1 h.symm⟩
  | cons c q ih =>
    have hc : c ≠ 37 := fun e => h (by simp [e])
    have hq : 37 ∉ q := fun e => h (by simp [e])
    rw [Mt_one hc]
    constructor
    · rintro ⟨d, v, rfl, hd, h1⟩
      obtain ⟨h2, h3⟩ := (ih v hq).1 h1
      refine ⟨by simp [h2], ?_⟩
      rw [atB, h3]
      rcases hd with h | h <;> simp [h]
    · rintro ⟨h1, h2⟩
      cases t with
      | nil => simp at h1
      | cons d v =>
        rw [atB] at h2
        simp at h1 h2
        exact ⟨d, v, rfl, h2.1, (ih v hq).2 ⟨h1, h2.2⟩⟩

theorem atB_front (q m x : List Int) (h : q.length ≤ m.length) : atB q (m ++ x) = atB q m := by
  induction q generalizing m with
  | nil => simp [atB]
  | cons c q ih =>
    cases m with
    | nil => simp at h
    | cons d m => rw [List.cons_append, atB, atB, ih m (by simpa using h)]

/-- The parts, each somewhere behind the one ahead of it. -/
def Mids : List (List Int) → List Int → Prop
  | [], _ => True
  | q :: qs, t => ∃ u m v, t = u ++ (m ++ v) ∧ Mt q m ∧ Mids qs v
theorem Mids_mono (qs : List (List Int)) (x v : List Int) (h : Mids qs v) : Mids qs (x ++ v) := by
  cases qs with
  | nil => trivial
  | cons q qs =>
    obtain ⟨u, m, y, rfl, h1, h2⟩ := h
    exact ⟨x ++ u, m, y, by simp, h1, h2⟩

theorem findN_spec (q t : List Int) : (∀ i, findN q t = some i → atB q (t.drop i) = true ∧ ∀ k, k < i → atB q (t.drop k) = false) ∧ (findN q t = none → ∀ k, k ≤ t.length → atB q (t.drop k) = false) := by
  induction t with
  | nil =>
    constructor
    · intro i h
      rw [findN] at h
      split at h
      · rename_i h1; cases h; exact ⟨by simpa using h1, fun k hk => absurd hk (Nat.not_lt_zero _)⟩
      · cases h
    · intro h k hk
      rw [findN] at h
      split at h
      · cases h
      · rename_i h1; simpa using h1
  | cons d t ih =>
    constructor
    · intro i h
      rw [findN] at h
      split at h
      · rename_i h1; cases h; exact ⟨by simpa using h1, fun k hk => absurd hk (Nat.not_lt_zero _)⟩
      · rename_i h1
        obtain ⟨j, hj, rfl⟩ := Option.map_eq_some_iff.1 h
        obtain ⟨h2, h3⟩ := ih.1 j hj
        refine ⟨by simpa using h2, fun k hk => ?_⟩
        cases k with
        | zero => simpa using h1
        | succ k => simpa using h3 k (by omega)
    · intro h k hk
      rw [findN] at h
      split at h
      · cases h
      · rename_i h1
        cases k with
        | zero => simpa using h1
        | succ k => simpa using ih.2 (by simpa using h) k (by simpa using hk)

theorem midB_iff (qs : List (List Int)) (t : List Int) (h : ∀ q ∈ qs, 37 ∉ q) : midB qs t = true ↔ Mids qs t := by
  induction qs generalizing t with
  | nil => simp [midB, Mids]
  | cons q qs ih =>
    have hq : 37 ∉ q := h q (by simp)
    have ih' := fun t => ih t (fun r hr => h r (by simp [hr]))
    rw [midB]
    constructor
    · intro hm
      cases hf : findN q t with
      | none => rw [hf] at hm; cases hm
      | some i =>
        rw [hf] at hm
        obtain ⟨h1, h2⟩ := (findN_spec q t).1 i hf
        have hil := findN_le q t i hf
        refine ⟨t.take i, (t.drop i).take q.length, t.drop (i + q.length), ?_, (Mt_flat _ _ hq).2 ⟨by rw [List.length_take, List.length_drop]; omega, ?_⟩, (ih' _).1 hm⟩
        · rw [← List.drop_drop, List.take_append_drop, List.take_append_drop]
        · have e := atB_front q ((t.drop i).take q.length) ((t.drop i).drop q.length) (by rw [List.length_take, List.length_drop]; omega)
          rw [List.take_append_drop] at e
          rw [← e]; exact h1
    · rintro ⟨u, m, v, rfl, h1, h2⟩
      obtain ⟨h3, h4⟩ := (Mt_flat _ _ hq).1 h1
      have hat : atB q ((u ++ (m ++ v)).drop u.length) = true := by
        rw [List.drop_left, atB_front q m v (by omega)]
        exact h4
      cases hf : findN q (u ++ (m ++ v)) with
      | none =>
        have := (findN_spec q _).2 hf u.length (by simp)
        rw [hat] at this
        cases this
      | some i =>
        obtain ⟨h5, h6⟩ := (findN_spec q _).1 i hf
        have hiu : i ≤ u.length := by
          rcases Nat.lt_or_ge u.length i with h | h
          · have := h6 _ h; rw [hat] at this; cases this
          · exact h
        refine (ih' _).2 ?_
        have e : (u ++ (m ++ v)).drop (i + q.length) = ((u ++ m).drop (i + q.length)) ++ v := by
          rw [← List.append_assoc, List.drop_append_of_le_length (by simp; omega)]
        rw [e]
        exact Mids_mono _ _ _ h2

/-- The parts joined with the mark of many. -/
def J : List (List Int) → List Int
  | [] => []
  | [q] => q
  | q :: r :: rs => q ++ 37 :: J (r :: rs)
theorem J_cons (q : List Int) (l : List (List Int)) (h : l ≠ []) : J (q :: l) = q ++ 37 :: J l := by
  cases l with
  | nil => exact absurd rfl h
  | cons r rs => rfl
theorem split37_ne (p : List Int) : split37 p ≠ [] := by
  intro h
  have := (split37_length p).1
  rw [h] at this
  simp at this
theorem J_split (p : List Int) : J (split37 p) = p := by
  induction p with
  | nil => rfl
  | cons c p ih =>
    rw [split37]
    split
    · rename_i hc
      rw [J_cons _ _ (split37_ne p), ih, ← hc]
      rfl
    · cases h : split37 p with
      | nil => exact absurd h (split37_ne p)
      | cons q qs =>
        rw [h] at ih
        cases qs with
        | nil => simp [J] at ih ⊢; rw [ih]
        | cons r rs => rw [J] at ih ⊢; simp; exact ih
theorem split37_flat (p : List Int) : ∀ q ∈ split37 p, 37 ∉ q := by
  induction p with
  | nil => intro q hq; simp [split37] at hq; subst hq; simp
  | cons c p ih =>
    intro q hq
    rw [split37] at hq
    split at hq
    · rcases List.mem_cons.1 hq with rfl | h
      · simp
      · exact ih q h
    · rename_i hc
      cases h : split37 p with
      | nil => exact absurd h (split37_ne p)
      | cons r rs =>
        rw [h] at hq ih
        rcases List.mem_cons.1 hq with rfl | h2
        · have := ih r (by simp)
          simp [this]
          exact hc
        · exact ih q (by simp [h2])

theorem Mt_tail (qs : List (List Int)) (L t : List Int) : Mt (37 :: J (qs ++ [L])) t ↔ ∃ m z, t = m ++ z ∧ Mt L z ∧ Mids qs m := by
  induction qs generalizing t with
  | nil =>
    rw [Mt_many]
    constructor
    · rintro ⟨u, v, rfl, h⟩; exact ⟨u, v, rfl, h, trivial⟩
    · rintro ⟨u, v, rfl, h, _⟩; exact ⟨u, v, rfl, h⟩
  | cons q qs ih =>
    rw [List.cons_append, J_cons _ _ (by simp), Mt_many]
    constructor
    · rintro ⟨u, v, rfl, h⟩
      obtain ⟨m, y, rfl, h1, h2⟩ := (Mt_append _ _ _).1 h
      obtain ⟨m', z, rfl, h3, h4⟩ := (ih y).1 h2
      exact ⟨u ++ (m ++ m'), z, by simp, h3, u, m, m', rfl, h1, h4⟩
    · rintro ⟨mm, z, rfl, h3, u, m, m', rfl, h1, h4⟩
      exact ⟨u, m ++ (m' ++ z), by simp, (Mt_append _ _ _).2 ⟨m, m' ++ z, rfl, h1, (ih _).2 ⟨m', z, rfl, h3, h4⟩⟩⟩

theorem globB_iff (p t : List Int) : globB p t = true ↔ Mt p t := by
  have hJ := J_split p
  have hf := split37_flat p
  have hne := split37_ne p
  rw [globB]
  generalize split37 p = qs at *
  subst hJ
  match qs, hne with
  | [q], _ =>
    rw [globC, J, Mt_flat _ _ (hf q (by simp))]
    simp
  | q :: r :: rs, _ =>
    rw [J]
    have hq := hf q (by simp)
    obtain ⟨L, hL⟩ : ∃ L, (r :: rs).getLast (by simp) = L := ⟨_, rfl⟩
    have hrs : r :: rs = (r :: rs).dropLast ++ [L] := by rw [← hL, List.dropLast_concat_getLast]
    have hLf : 37 ∉ L := hf L (by rw [← hL]; exact List.mem_cons_of_mem _ (List.getLast_mem _))
    have hmf : ∀ q ∈ (r :: rs).dropLast, 37 ∉ q := fun x hx => hf x (List.mem_cons_of_mem _ (List.dropLast_subset _ hx))
    rw [globC, hL, hrs, Mt_append]
    simp only [← hrs]
    generalize (r :: rs).dropLast = mid at *
    rw [hrs]
    constructor
    · intro h
      simp only [Bool.and_eq_true, decide_eq_true_eq] at h
      obtain ⟨⟨⟨h1, h2⟩, h3⟩, h4⟩ := h
      refine ⟨t.take q.length, t.drop q.length, by simp, (Mt_flat _ _ hq).2 ⟨by rw [List.length_take]; omega, ?_⟩, (Mt_tail _ _ _).2 ⟨(t.take (t.length - L.length)).drop q.length, t.drop (t.length - L.length), ?_, (Mt_flat _ _ hLf).2 ⟨by rw [List.length_drop]; omega, h3⟩, (midB_iff _ _ hmf).1 h4⟩⟩
      · have e := atB_front q (t.take q.length) (t.drop q.length) (by rw [List.length_take]; omega)
        rw [List.take_append_drop] at e
        rw [← e]; exact h2
      · rw [← List.drop_append_of_le_length (by rw [List.length_take]; omega), List.take_append_drop]
    · rintro ⟨a, b, rfl, h1, h2⟩
      obtain ⟨m, z, rfl, h3, h4⟩ := (Mt_tail _ _ _).1 h2
      obtain ⟨l1, x1⟩ := (Mt_flat _ _ hq).1 h1
      obtain ⟨l2, x2⟩ := (Mt_flat _ _ hLf).1 h3
      have e1 : (a ++ (m ++ z)).length - L.length = (a ++ m).length := by simp; omega
      simp only [Bool.and_eq_true, decide_eq_true_eq]
      rw [e1, ← List.append_assoc, List.drop_left, List.take_left, l1, List.drop_left]
      refine ⟨⟨⟨by simp; omega, ?_⟩, x2⟩, (midB_iff _ _ hmf).2 h4⟩
      rw [List.append_assoc, atB_front q a _ (by omega)]
      exact x1

/-! ### Joined patterns -/
theorem Mt_all (t : List Int) : Mt [37] t := (Mt_many _ _).2 ⟨t, [], by simp, rfl⟩
theorem Mt_wrap (p t : List Int) (h : Mt p t) : Mt (37 :: (p ++ [37])) t := (Mt_many _ _).2 ⟨[], t, rfl, (Mt_append _ _ _).2 ⟨t, [], by simp, h, Mt_all _⟩⟩
theorem Mt_join (p q a b : List Int) (c : Int) (h : Mt p a) (k : Mt q b) : Mt (p ++ 37 :: q) (a ++ c :: b) :=
  (Mt_append _ _ _).2 ⟨a, c :: b, rfl, h, (Mt_many _ _).2 ⟨[c], b, rfl, k⟩⟩

/-! ### A pattern's last rune -/
theorem Mt_snoc_many (p t : List Int) : Mt (p ++ [37]) t ↔ ∃ u v, t = u ++ v ∧ Mt p u := by
  rw [Mt_append]
  constructor
  · rintro ⟨u, v, rfl, h, _⟩; exact ⟨u, v, rfl, h⟩
  · rintro ⟨u, v, rfl, h⟩; exact ⟨u, v, rfl, h, Mt_all v⟩
theorem Mt_snoc_one {c : Int} (hc : c ≠ 37) (p t : List Int) : Mt (p ++ [c]) t ↔ ∃ u d, t = u ++ [d] ∧ Mt p u ∧ (c = 95 ∨ c = d) := by
  rw [Mt_append]
  constructor
  · rintro ⟨u, v, rfl, h, h2⟩
    obtain ⟨d, x, rfl, hd, h3⟩ := (Mt_one hc _ _).1 h2
    rw [Mt_nil] at h3
    subst h3
    exact ⟨u, d, rfl, h, hd⟩
  · rintro ⟨u, d, rfl, h, hd⟩
    exact ⟨u, [d], rfl, h, (Mt_one hc _ _).2 ⟨d, [], rfl, hd, rfl⟩⟩

end Go.Proofs.Ytkdebjampnfgjaa
