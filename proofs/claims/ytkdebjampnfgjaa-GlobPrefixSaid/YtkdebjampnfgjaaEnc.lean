/-
  PROVED: a text that is made of runes has these runes; what a pattern's beginning without marks matches. Conditions: each theorem's own premises.
-/
import Derived.Test.YtkdebjampnfgjaaRune
import Derived.Laws.Cover4
namespace Go.Proofs.Ytkdebjampnfgjaa
set_option linter.unusedVariables false

theorem bool_ext' {a b : Bool} (h : a = true ↔ b = true) : a = b := by cases a <;> cases b <;> simp_all

theorem bytes_snoc (l : List Int) (c : Int) : runesBytes (l ++ [c]) = runesBytes l ++ Utf8.encode c := by
  simp [runesBytes]

theorem encode_list (r : Int) : (Utf8.encode r).data.toList = Lib.encodeRune r := by
  unfold Utf8.encode Lib.encodeRune
  by_cases h1 : 0 ≤ r ∧ r ≤ 127
  · have v : Utf8.valid r = true := by simp [Utf8.valid]; omega
    rw [Lib.encodeRuneZ_one h1.1 h1.2]
    simp only [v, if_true]
    rw [if_pos (by omega)]
    rfl
  by_cases h2 : 128 ≤ r ∧ r ≤ 2047
  · have v : Utf8.valid r = true := by simp [Utf8.valid]; omega
    rw [Lib.encodeRuneZ_two h2.1 h2.2]
    simp only [v, if_true]
    rw [if_neg (by omega), if_pos (by omega)]
    have e1 : (192 + r / 64).toNat = 0xC0 + r.toNat / 64 := by omega
    have e2 : (128 + r % 64).toNat = 0x80 + r.toNat % 64 := by omega
    simp only [List.map_cons, List.map_nil, e1, e2]
  by_cases h3 : (2048 ≤ r ∧ r < 55296) ∨ (57343 < r ∧ r ≤ 65535)
  · have v : Utf8.valid r = true := by simp [Utf8.valid]; omega
    rw [Lib.encodeRuneZ_three h3]
    simp only [v, if_true]
    rw [if_neg (by omega), if_neg (by omega), if_pos (by omega)]
    have e1 : (224 + r / 4096).toNat = 0xE0 + r.toNat / 4096 := by omega
    have e2 : (128 + r / 64 % 64).toNat = 0x80 + r.toNat / 64 % 64 := by omega
    have e3 : (128 + r % 64).toNat = 0x80 + r.toNat % 64 := by omega
    simp only [List.map_cons, List.map_nil, e1, e2, e3]
  by_cases h4 : 65536 ≤ r ∧ r ≤ 1114111
  · have v : Utf8.valid r = true := by simp [Utf8.valid]; omega
    rw [Lib.encodeRuneZ_four h4.1 h4.2]
    simp only [v, if_true]
    rw [if_neg (by omega), if_neg (by omega), if_neg (by omega)]
    have e1 : (240 + r / 262144).toNat = 0xF0 + r.toNat / 262144 := by omega
    have e2 : (128 + r / 4096 % 64).toNat = 0x80 + r.toNat / 4096 % 64 := by omega
    have e3 : (128 + r / 64 % 64).toNat = 0x80 + r.toNat / 64 % 64 := by omega
    have e4 : (128 + r % 64).toNat = 0x80 + r.toNat % 64 := by omega
    simp only [List.map_cons, List.map_nil, e1, e2, e3, e4]
  · have v : Utf8.valid r = false := by simp [Utf8.valid]; omega
    rw [Lib.encodeRuneZ_bad (by omega)]
    simp only [v, if_neg Bool.false_ne_true]
    rfl

theorem bytes_list (l : List Int) (c : Int) : (runesBytes (l ++ [c])).data.toList = (runesBytes l).data.toList ++ Lib.encodeRune c := by
  rw [bytes_snoc, ByteArray.data_append, Array.toList_append, encode_list]

theorem decode_valid (s : ByteArray) (i : Nat) (h : i ≤ s.size) : Utf8.valid ((Utf8.decode s i).1 : Int) = true := by
  rw [decode_eq s i h]
  unfold decodeB
  have e : Utf8.valid ((Utf8.runeError : Nat) : Int) = true := by decide
  simp only
  repeat' split
  all_goals simp_all [Utf8.valid]
  all_goals omega

/-- The bytes of one rune. -/
theorem byteAt_encode (c : Int) (k : Nat) : byteAt (Utf8.encode c) k = (((Lib.encodeRune c)[k]?).getD default).toNat := by
  unfold byteAt
  rw [← encode_list, ← Array.getElem?_toList]
theorem size_encode (c : Int) : (Utf8.encode c).size = (Lib.encodeRune c).length := by
  rw [← encode_list]
  rfl

theorem decodeB_two (b : Nat → Nat) (x0 x1 n : Nat) (h0 : b 0 = x0) (h1 : b 1 = x1) (g1 : ¬ x0 < 128) (g2 : x0 / 32 = 6) (g3 : x1 / 64 = 2) (g4 : x0 % 32 * 64 + x1 % 64 = n) (g5 : 128 ≤ n) : decodeB 2 b = (n, 2) := by
  unfold decodeB
  simp only [h0, h1, g4]
  simp [g1, g2, g3, g5]
theorem decodeB_three (b : Nat → Nat) (x0 x1 x2 n : Nat) (h0 : b 0 = x0) (h1 : b 1 = x1) (h2 : b 2 = x2) (g1 : ¬ x0 < 128) (g2 : ¬ x0 / 32 = 6) (g3 : x0 / 16 = 14) (g4 : x1 / 64 = 2) (g5 : x2 / 64 = 2)
    (g6 : x0 % 16 * 4096 + x1 % 64 * 64 + x2 % 64 = n) (g7 : 2048 ≤ n) (v : Utf8.valid n = true) : decodeB 3 b = (n, 3) := by
  unfold decodeB
  simp only [h0, h1, h2, g6]
  simp [g1, g2, g3, g4, g5, g7, v]
theorem decodeB_four (b : Nat → Nat) (x0 x1 x2 x3 n : Nat) (h0 : b 0 = x0) (h1 : b 1 = x1) (h2 : b 2 = x2) (h3 : b 3 = x3) (g1 : ¬ x0 < 128) (g2 : ¬ x0 / 32 = 6) (g3 : ¬ x0 / 16 = 14) (g4 : x0 / 8 = 30) (g5 : x1 / 64 = 2) (g6 : x2 / 64 = 2)
    (g7 : x3 / 64 = 2) (g8 : x0 % 8 * 262144 + x1 % 64 * 4096 + x2 % 64 * 64 + x3 % 64 = n) (g9 : 65536 ≤ n) (v : Utf8.valid n = true) : decodeB 4 b = (n, 4) := by
  unfold decodeB
  simp only [h0, h1, h2, h3, g8]
  simp [g1, g2, g3, g4, g5, g6, g7, g9, v]

theorem byte_of (x : Int) (m : Nat) (h : x = m) (hm : m < 256) : (x.toNat.toUInt8).toNat = m := by
  subst h
  simp
  omega

theorem decode_encode (c : Int) (v : Utf8.valid c = true) : (((Utf8.decode (Utf8.encode c) 0).1 : Int) = c ∧ (Utf8.decode (Utf8.encode c) 0).2 = (Utf8.encode c).size) ∧ byteAt (Utf8.encode c) 0 / 64 ≠ 2 := by
  have hv : (0 ≤ c ∧ c < 55296) ∨ (57344 ≤ c ∧ c ≤ 1114111) := by
    simp [Utf8.valid] at v
    omega
  rw [decode_eq _ _ (Nat.zero_le _), size_encode]
  have hb : (fun k => byteAt (Utf8.encode c) (0 + k)) = fun k => (((Lib.encodeRune c)[k]?).getD default).toNat := by
    funext k
    rw [byteAt_encode, Nat.zero_add]
  rw [hb, byteAt_encode]
  unfold Lib.encodeRune
  obtain ⟨n, rfl⟩ : ∃ n : Nat, c = n := ⟨c.toNat, by omega⟩
  by_cases h1 : n ≤ 127
  · rw [Lib.encodeRuneZ_one (by omega) (by omega)]
    have e0 := byte_of (n : Int) n rfl (by omega)
    have e : decodeB 1 (fun k => ((((([(n : Int)]).map fun (x : Int) => x.toNat.toUInt8))[k]?).getD default).toNat) = (n, 1) := by
      unfold decodeB
      simp only [List.map_cons, List.map_nil, List.getElem?_cons_zero, Option.getD_some, e0]
      rw [if_pos (by omega)]
    refine ⟨⟨?_, ?_⟩, ?_⟩
    · show ((decodeB 1 _).1 : Int) = n
      rw [e]
    · show (decodeB 1 _).2 = 1
      rw [e]
    · show (((n : Int)).toNat.toUInt8).toNat / 64 ≠ 2
      rw [e0]; omega
  by_cases h2 : n ≤ 2047
  · rw [Lib.encodeRuneZ_two (by omega) (by omega)]
    have e0 := byte_of (192 + (n : Int) / 64) (192 + n / 64) (by omega) (by omega)
    have e1 := byte_of (128 + (n : Int) % 64) (128 + n % 64) (by omega) (by omega)
    have e : decodeB 2 (fun k => (((([192 + (n : Int) / 64, 128 + (n : Int) % 64].map fun (x : Int) => x.toNat.toUInt8))[k]?).getD default).toNat) = (n, 2) :=
      decodeB_two _ (192 + n / 64) (128 + n % 64) n e0 e1 (by omega) (by omega) (by omega) (by omega) (by omega)
    refine ⟨⟨?_, ?_⟩, ?_⟩
    · show ((decodeB 2 _).1 : Int) = n
      rw [e]
    · show (decodeB 2 _).2 = 2
      rw [e]
    · show ((192 + (n : Int) / 64).toNat.toUInt8).toNat / 64 ≠ 2
      rw [e0]; omega
  by_cases h3 : n ≤ 65535
  · rw [Lib.encodeRuneZ_three (by omega)]
    have e0 := byte_of (224 + (n : Int) / 4096) (224 + n / 4096) (by omega) (by omega)
    have e1 := byte_of (128 + (n : Int) / 64 % 64) (128 + n / 64 % 64) (by omega) (by omega)
    have e2 := byte_of (128 + (n : Int) % 64) (128 + n % 64) (by omega) (by omega)
    have e : decodeB 3 (fun k => (((([224 + (n : Int) / 4096, 128 + (n : Int) / 64 % 64, 128 + (n : Int) % 64].map fun (x : Int) => x.toNat.toUInt8))[k]?).getD default).toNat) = (n, 3) :=
      decodeB_three _ (224 + n / 4096) (128 + n / 64 % 64) (128 + n % 64) n e0 e1 e2 (by omega) (by omega) (by omega) (by omega) (by omega) (by omega) (by omega) v
    refine ⟨⟨?_, ?_⟩, ?_⟩
    · show ((decodeB 3 _).1 : Int) = n
      rw [e]
    · show (decodeB 3 _).2 = 3
      rw [e]
    · show ((224 + (n : Int) / 4096).toNat.toUInt8).toNat / 64 ≠ 2
      rw [e0]; omega
  · rw [Lib.encodeRuneZ_four (by omega) (by omega)]
    have e0 := byte_of (240 + (n : Int) / 262144) (240 + n / 262144) (by omega) (by omega)
    have e1 := byte_of (128 + (n : Int) / 4096 % 64) (128 + n / 4096 % 64) (by omega) (by omega)
    have e2 := byte_of (128 + (n : Int) / 64 % 64) (128 + n / 64 % 64) (by omega) (by omega)
    have e3 := byte_of (128 + (n : Int) % 64) (128 + n % 64) (by omega) (by omega)
    have e : decodeB 4 (fun k => (((([240 + (n : Int) / 262144, 128 + (n : Int) / 4096 % 64, 128 + (n : Int) / 64 % 64, 128 + (n : Int) % 64].map fun (x : Int) => x.toNat.toUInt8))[k]?).getD default).toNat) = (n, 4) :=
      decodeB_four _ (240 + n / 262144) (128 + n / 4096 % 64) (128 + n / 64 % 64) (128 + n % 64) n e0 e1 e2 e3 (by omega) (by omega) (by omega) (by omega) (by omega) (by omega) (by omega) (by omega) (by omega) v
    refine ⟨⟨?_, ?_⟩, ?_⟩
    · show ((decodeB 4 _).1 : Int) = n
      rw [e]
    · show (decodeB 4 _).2 = 4
      rw [e]
    · show ((240 + (n : Int) / 262144).toNat.toUInt8).toNat / 64 ≠ 2
      rw [e0]; omega

theorem runes_encode (c : Int) (v : Utf8.valid c = true) : runes (Utf8.encode c) = [c] := by
  obtain ⟨⟨h1, h2⟩, _⟩ := decode_encode c v
  have hs : 0 < (Utf8.encode c).size := by rw [size_encode, ← Lib.runeCells_length]; have := (Lib.runeCells_le c).1; omega
  unfold runes
  rw [runesAt_next _ _ hs, h1, h2, Nat.zero_add, runesAt_end _ _ (Nat.lt_irrefl _)]

theorem runes_bytes' (n : Nat) : ∀ l : List Int, l.length = n → (∀ c ∈ l, Utf8.valid c = true) → runes (runesBytes l) = l := by
  induction n with
  | zero =>
    intro l hl _
    obtain rfl := List.length_eq_zero_iff.1 hl
    rfl
  | succ n ih =>
    intro l hl hv
    rcases List.eq_nil_or_concat l with rfl | ⟨m, c, rfl⟩
    · simp at hl
    · rw [List.concat_eq_append] at hl hv ⊢
      rw [bytes_snoc, runes_append _ _ (fun _ => (decode_encode c (hv c (by simp))).2), runes_encode c (hv c (by simp)), ih m (by simpa using hl) (fun x hx => hv x (by simp [hx]))]
theorem runes_bytes (l : List Int) (hv : ∀ c ∈ l, Utf8.valid c = true) : runes (runesBytes l) = l := runes_bytes' _ l rfl hv

theorem runesAt_valid (s : ByteArray) (n pos : Nat) (h : s.size - pos ≤ n) : ∀ c ∈ runesAt s pos, Utf8.valid c = true := by
  induction n generalizing pos with
  | zero => rw [runesAt_end s pos (by omega)]; intro c hc; cases hc
  | succ n ih =>
    by_cases hp : pos < s.size
    · have := decode_pos s pos hp
      rw [runesAt_next s pos hp]
      intro c hc
      rcases List.mem_cons.1 hc with rfl | hc
      · exact decode_valid s pos (by omega)
      · exact ih _ (by omega) c hc
    · rw [runesAt_end s pos hp]; intro c hc; cases hc

/-- A rune that is no mark. -/
def plainR (c : Int) : Bool := c != 37 && c != 95
def pfx (P : List Int) : List Int := P.takeWhile plainR
theorem pfx_mem (P : List Int) (c : Int) (h : c ∈ pfx P) : plainR c = true ∧ c ∈ P := by
  induction P with
  | nil => cases h
  | cons d P ih =>
    rw [pfx, List.takeWhile_cons] at h
    split at h
    · rename_i hd
      rcases List.mem_cons.1 h with rfl | h
      · exact ⟨hd, by simp⟩
      · exact ⟨(ih h).1, by simp [(ih h).2]⟩
    · cases h
theorem pfx_self (P : List Int) (h : P.all plainR = true) : pfx P = P := by
  induction P with
  | nil => rfl
  | cons d P ih =>
    simp only [List.all_cons, Bool.and_eq_true] at h
    rw [pfx, List.takeWhile_cons, if_pos h.1]
    congr 1
    exact ih h.2
theorem low_mark (c : Int) : (low c = 37 ↔ c = 37) ∧ (low c = 95 ↔ c = 95) := by
  unfold low
  split <;> omega
theorem Mt_plain (f u : List Int) (h : ∀ c ∈ f, c ≠ 37 ∧ c ≠ 95) : Mt f u ↔ f = u := by
  induction f generalizing u with
  | nil => rw [Mt_nil]; exact eq_comm
  | cons c f ih =>
    have hc := h c (by simp)
    rw [Mt_one hc.1]
    constructor
    · rintro ⟨d, v, rfl, hd, h2⟩
      rcases hd with hd | hd
      · exact absurd hd hc.2
      · rw [hd, (ih v (fun x hx => h x (by simp [hx]))).1 h2]
    · rintro rfl
      exact ⟨c, f, rfl, .inr rfl, (ih f (fun x hx => h x (by simp [hx]))).2 rfl⟩
theorem pfx_plain (P : List Int) : ∀ c ∈ (pfx P).map low, c ≠ 37 ∧ c ≠ 95 := by
  intro c hc
  obtain ⟨x, hx, rfl⟩ := List.mem_map.1 hc
  have := (pfx_mem P x hx).1
  simp [plainR] at this
  exact ⟨fun e => this.1 ((low_mark x).1.1 e), fun e => this.2 ((low_mark x).2.1 e)⟩
theorem folded_pfx (s : ByteArray) : folded (runesBytes (pfx (runes s))) = (pfx (runes s)).map low := by
  have hv : ∀ c ∈ pfx (runes s), Utf8.valid c = true := fun c hc => runesAt_valid s s.size 0 (by omega) c (pfx_mem _ _ hc).2
  unfold folded
  rw [runes_bytes _ hv]

theorem law_begins (p s : ByteArray) (h : globB (folded p) (folded s) = true) : ((pfx (runes p)).map low).length ≤ (folded s).length ∧ (pfx (runes p)).map low = (folded s).take ((pfx (runes p)).map low).length := by
  rw [globB_iff] at h
  have e : folded p = (pfx (runes p)).map low ++ ((runes p).dropWhile plainR).map low := by
    rw [← List.map_append, pfx, List.takeWhile_append_dropWhile]
    rfl
  rw [e] at h
  obtain ⟨u, v, hs, hu, _⟩ := (Mt_append _ _ _).1 h
  rw [Mt_plain _ _ (pfx_plain _)] at hu
  rw [hs, hu]
  simp
theorem law_whole (p s : ByteArray) (h : (runes p).all plainR = true) : globB (folded p) (folded s) = decide (folded p = folded s) := by
  have hp : pfx (runes p) = runes p := pfx_self _ h
  refine bool_ext' ?_
  rw [globB_iff, decide_eq_true_eq, Mt_plain]
  have := pfx_plain (runes p)
  rw [hp] at this
  exact this

end Go.Proofs.Ytkdebjampnfgjaa
