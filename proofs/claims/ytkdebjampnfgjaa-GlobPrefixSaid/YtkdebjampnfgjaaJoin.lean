/-
  PROVED: the runes of two texts that are joined, of which the second begins with a rune of one byte. Conditions: each theorem's own premises.
-/
import Derived.Test.YtkdebjampnfgjaaLaw
namespace Go.Proofs.Ytkdebjampnfgjaa
set_option linter.unusedVariables false

/-- A byte; past the end: 0. -/
def byteAt (s : ByteArray) (i : Nat) : Nat := ((s.data[i]?).getD default).toNat
theorem get_byte (s : ByteArray) (i : Nat) : (s.get! i).toNat = byteAt s i := by
  obtain ⟨d⟩ := s
  show (d[i]!).toNat = ((d[i]?).getD default).toNat
  rw [getElem!_def]
  cases d[i]? <;> rfl
theorem byteAt_left (x y : ByteArray) (i : Nat) (h : i < x.size) : byteAt (x ++ y) i = byteAt x i := by
  unfold byteAt
  rw [ByteArray.data_append, Array.getElem?_append_left h]
theorem byteAt_right (x y : ByteArray) (i : Nat) : byteAt (x ++ y) (x.size + i) = byteAt y i := by
  unfold byteAt
  rw [ByteArray.data_append, Array.getElem?_append_right (show x.data.size ≤ x.size + i from Nat.le_add_right _ _)]
  have e : x.size + i - x.data.size = i := by show x.size + i - x.size = i; omega
  rw [e]

/-- How a rune is read, of bytes. -/
def decodeB (n : Nat) (b : Nat → Nat) : Nat × Nat :=
  let cont (k : Nat) : Bool := decide (k < n) && b k / 64 == 2
  if b 0 < 0x80 then (b 0, 1)
  else if b 0 / 32 == 6 && cont 1 then
    let c := (b 0 % 32) * 64 + b 1 % 64
    if c ≥ 0x80 then (c, 2) else (Utf8.runeError, 1)
  else if b 0 / 16 == 14 && cont 1 && cont 2 then
    let c := (b 0 % 16) * 4096 + (b 1 % 64) * 64 + b 2 % 64
    if c ≥ 0x800 && Utf8.valid c then (c, 3) else (Utf8.runeError, 1)
  else if b 0 / 8 == 30 && cont 1 && cont 2 && cont 3 then
    let c := (b 0 % 8) * 262144 + (b 1 % 64) * 4096 + (b 2 % 64) * 64 + b 3 % 64
    if c ≥ 0x10000 && Utf8.valid c then (c, 4) else (Utf8.runeError, 1)
  else (Utf8.runeError, 1)

theorem decode_eq (s : ByteArray) (i : Nat) (h : i ≤ s.size) : Utf8.decode s i = decodeB (s.size - i) (fun k => byteAt s (i + k)) := by
  have e : ∀ k, decide (i + k < s.size) = decide (k < s.size - i) := fun k => by congr 1; exact propext ⟨fun h => by omega, fun h => by omega⟩
  unfold Utf8.decode decodeB
  simp only [get_byte, e]

theorem decodeB_size (n : Nat) (b : Nat → Nat) (h : 0 < n) : (decodeB n b).2 ≤ n := by
  unfold decodeB
  simp only
  repeat' split
  all_goals simp_all
  all_goals omega

/-- Bytes that are alike as far as the text reaches, of which none behind it goes on with a rune. -/
theorem decodeB_cut (n m : Nat) (b c : Nat → Nat) (h0 : 0 < n) (hnm : n ≤ m) (he : ∀ k, k < n → c k = b k) (hn : n < m → c n / 64 ≠ 2) : decodeB m c = decodeB n b := by
  have ct : ∀ k, (∀ i, i < k → (decide (i < n) = true)) → (decide (k < m) && c k / 64 == 2) = (decide (k < n) && b k / 64 == 2) := by
    intro k hk
    rcases Nat.lt_trichotomy k n with h | h | h
    · rw [he k h, decide_eq_true h, decide_eq_true (by omega)]
    · subst h
      by_cases hm : k < m
      · have := hn hm
        simp [this]
      · simp [hm]
    · have := hk n h
      simp at this
  have e0 := he 0 h0
  have c1 := ct 1 (fun i hi => by simp; omega)
  have c2 : 1 < n → (decide (2 < m) && c 2 / 64 == 2) = (decide (2 < n) && b 2 / 64 == 2) := fun h => ct 2 (fun i hi => by simp; omega)
  have c3 : 2 < n → (decide (3 < m) && c 3 / 64 == 2) = (decide (3 < n) && b 3 / 64 == 2) := fun h => ct 3 (fun i hi => by simp; omega)
  unfold decodeB
  simp only [e0, c1]
  by_cases h1 : 1 < n
  · rw [he 1 h1, c2 h1]
    by_cases h2 : 2 < n
    · rw [he 2 h2, c3 h2]
      by_cases h3 : 3 < n
      · rw [he 3 h3]
      · simp [h3]
    · simp [h2]
  · simp [h1]

theorem decode_left (x y : ByteArray) (i : Nat) (h : i < x.size) (hy : 0 < y.size → byteAt y 0 / 64 ≠ 2) : Utf8.decode (x ++ y) i = Utf8.decode x i := by
  rw [decode_eq x i (by omega), decode_eq (x ++ y) i (by rw [ByteArray.size_append]; omega)]
  refine decodeB_cut _ _ _ _ (by omega) (by rw [ByteArray.size_append]; omega) (fun k hk => byteAt_left x y _ (by omega)) (fun hlt => ?_)
  have e : i + (x.size - i) = x.size + 0 := by omega
  show byteAt (x ++ y) (i + (x.size - i)) / 64 ≠ 2
  rw [e, byteAt_right]
  exact hy (by rw [ByteArray.size_append] at hlt; omega)
theorem decode_right (x y : ByteArray) (i : Nat) (h : i ≤ y.size) : Utf8.decode (x ++ y) (x.size + i) = Utf8.decode y i := by
  rw [decode_eq y i h, decode_eq (x ++ y) (x.size + i) (by rw [ByteArray.size_append]; omega)]
  have e : (x ++ y).size - (x.size + i) = y.size - i := by rw [ByteArray.size_append]; omega
  rw [e]
  congr 1
  funext k
  rw [Nat.add_assoc, byteAt_right]

theorem runesAt_right (x y : ByteArray) (n i : Nat) (h : y.size - i ≤ n) : runesAt (x ++ y) (x.size + i) = runesAt y i := by
  induction n generalizing i with
  | zero => rw [runesAt_end _ _ (by rw [ByteArray.size_append]; omega), runesAt_end _ _ (by omega)]
  | succ n ih =>
    by_cases hi : i < y.size
    · have := decode_pos y i hi
      rw [runesAt_next _ _ (by rw [ByteArray.size_append]; omega), runesAt_next _ _ hi, decode_right x y i (by omega), Nat.add_assoc, ih _ (by omega)]
    · rw [runesAt_end _ _ (by rw [ByteArray.size_append]; omega), runesAt_end _ _ hi]
theorem runesAt_left (x y : ByteArray) (hy : 0 < y.size → byteAt y 0 / 64 ≠ 2) (n i : Nat) (h : x.size - i ≤ n) (hi : i ≤ x.size) : runesAt (x ++ y) i = runesAt x i ++ runesAt (x ++ y) x.size := by
  induction n generalizing i with
  | zero =>
    obtain rfl : i = x.size := by omega
    rw [runesAt_end x _ (by omega)]
    rfl
  | succ n ih =>
    by_cases hi2 : i < x.size
    · have h1 := decode_pos x i hi2
      have h2 := decodeB_size (x.size - i) (fun k => byteAt x (i + k)) (by omega)
      rw [← decode_eq x i (by omega)] at h2
      rw [runesAt_next _ _ (by rw [ByteArray.size_append]; omega), runesAt_next x i hi2, decode_left x y i hi2 hy, ih _ (by omega) (by omega)]
      rfl
    · obtain rfl : i = x.size := by omega
      rw [runesAt_end x _ (by omega)]
      rfl
theorem runes_append (x y : ByteArray) (hy : 0 < y.size → byteAt y 0 / 64 ≠ 2) : runes (x ++ y) = runes x ++ runes y := by
  unfold runes
  rw [runesAt_left x y hy x.size 0 (by omega) (by omega)]
  congr 1
  exact runesAt_right x y y.size 0 (by omega)
theorem folded_append (x y : ByteArray) (hy : 0 < y.size → byteAt y 0 / 64 ≠ 2) : folded (x ++ y) = folded x ++ folded y := by
  unfold folded
  rw [runes_append x y hy, List.map_append]

theorem runes_byte (c : UInt8) (y : ByteArray) (h : c.toNat < 128) : runes (⟨#[c]⟩ ++ y) = (c.toNat : Int) :: runes y := by
  have hs : (⟨#[c]⟩ ++ y : ByteArray).size = 1 + y.size := by rw [ByteArray.size_append]; rfl
  have e : Utf8.decode (⟨#[c]⟩ ++ y) 0 = (c.toNat, 1) := by
    rw [decode_eq _ _ (Nat.zero_le _)]
    have h0 : byteAt (⟨#[c]⟩ ++ y) 0 = c.toNat := byteAt_left ⟨#[c]⟩ y 0 Nat.one_pos
    unfold decodeB
    simp [h0, h]
  unfold runes
  rw [runesAt_next _ _ (by omega), e]
  congr 1
  exact runesAt_right ⟨#[c]⟩ y y.size 0 (by omega)
theorem folded_byte (c : UInt8) (y : ByteArray) (h : c.toNat < 128) (hl : low c.toNat = c.toNat) : folded (⟨#[c]⟩ ++ y) = (c.toNat : Int) :: folded y := by
  unfold folded
  rw [runes_byte c y h, List.map_cons, hl]

theorem folded_many : folded ⟨#[37]⟩ = [37] := by decide +kernel
theorem folded_wrap (p : ByteArray) : folded (⟨#[37]⟩ ++ p ++ ⟨#[37]⟩) = 37 :: (folded p ++ [37]) := by
  rw [folded_append _ _ (fun _ => by decide +kernel), folded_many, folded_byte 37 p (by decide) (by decide)]
  rfl
theorem folded_mid (c : UInt8) (h : c.toNat < 128) (hl : low c.toNat = c.toNat) (p q : ByteArray) : folded (p ++ ⟨#[c]⟩ ++ q) = folded p ++ (c.toNat : Int) :: folded q := by
  rw [ByteArray.append_assoc, folded_append _ _ (fun _ => ?_), folded_byte c q h hl]
  have h0 : byteAt (⟨#[c]⟩ ++ q) 0 = c.toNat := byteAt_left ⟨#[c]⟩ q 0 Nat.one_pos
  rw [h0]
  omega

end Go.Proofs.Ytkdebjampnfgjaa
