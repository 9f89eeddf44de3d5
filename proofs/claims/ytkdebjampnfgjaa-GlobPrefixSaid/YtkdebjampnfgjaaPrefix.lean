/-
  PROVED: contracts of the two 'Prefix'es. Conditions: each theorem's own premises.
-/
import Derived.Test.YtkdebjampnfgjaaEnc
namespace Go.Proofs.Ytkdebjampnfgjaa
open Go.RowKit
set_option linter.unusedVariables false

/-- What both 'Prefix'es answer. -/
def PreEnd (w0 : World) (s : ByteArray) (e : Ending) (w : World) : Prop :=
  e = .returned (.tuple #[.string (runesBytes (pfx (runes s))), .bool ((runes s).all plainR)]) ∧ Below w0.heap.size w0 w

/-- What has been gone through: no mark is in it. -/
structure Gone (s : ByteArray) (l : List Int) (pos : Nat) : Prop where
  sum : runes s = l ++ runesAt s pos
  plain : l.all plainR = true

theorem Gone.next {s : ByteArray} {l : List Int} {pos : Nat} (h : Gone s l pos) (hp : pos < s.size) (hm : plainR (Utf8.decode s pos).1 = true) : Gone s (l ++ [((Utf8.decode s pos).1 : Int)]) (pos + (Utf8.decode s pos).2) := by
  refine ⟨by rw [h.sum, runesAt_next s pos hp]; simp, ?_⟩
  rw [List.all_append, h.plain]
  simp [hm]
theorem pfx_append (l m : List Int) (h : l.all plainR = true) : pfx (l ++ m) = l ++ pfx m := by
  induction l with
  | nil => rfl
  | cons c l ih =>
    simp only [List.all_cons, Bool.and_eq_true] at h
    rw [List.cons_append, pfx, List.takeWhile_cons, if_pos h.1]
    have := ih h.2
    rw [pfx] at this
    rw [this]
    rfl
theorem Gone.mark {s : ByteArray} {l : List Int} {pos : Nat} (h : Gone s l pos) (hp : pos < s.size) (hm : plainR (Utf8.decode s pos).1 = false) : pfx (runes s) = l ∧ (runes s).all plainR = false := by
  rw [h.sum, runesAt_next s pos hp]
  constructor
  · rw [pfx_append _ _ h.plain, pfx, List.takeWhile_cons, if_neg (by simp [hm]), List.append_nil]
  · rw [List.all_append, List.all_cons, hm]
    simp
theorem Gone.finish {s : ByteArray} {l : List Int} {pos : Nat} (h : Gone s l pos) (hp : ¬ pos < s.size) : pfx (runes s) = l ∧ (runes s).all plainR = true := by
  rw [h.sum, runesAt_end s pos hp, List.append_nil]
  exact ⟨pfx_self l h.plain, h.plain⟩
theorem Gone.len {s : ByteArray} {l : List Int} {pos : Nat} (h : Gone s l pos) : l.length ≤ s.size := by
  have h1 := congrArg List.length h.sum
  have h2 := runes_length s
  simp at h1
  omega

def BytesOf (l : List Int) : List UInt8 := (runesBytes l).data.toList
theorem BytesOf.length (l : List Int) : (BytesOf l).length ≤ 4 * l.length := by
  have := runesBytes_size_le l
  exact this

structure BldRel (w0 : World) (s : ByteArray) (b k : Nat) (l : List Int) (pos : Nat) (w : World) : Prop where
  gone : Gone s l pos
  bld : Lib.IsBuilderF 39 5 w0.heap.size b (Lib.byteCells (BytesOf l)) w
  it : w.heap[k]? = some (.stringIter s pos)
  below : Below w0.heap.size w0 w

def BldLoop (w0 : World) (s : ByteArray) (b k : Nat) (w : World) : Prop := ∃ l pos, BldRel w0 s b k l pos w

set_option maxHeartbeats 4000000 in
theorem prefix_any (s : ByteArray) (hs : s.size ≤ 300) (w : World) : Calls Try.prog 12 #[.string s] w (PreEnd w s) := by
  have R0 : Hid (BldRel w s w.heap.size (w.heap.size + 1) [] 0 ((w.alloc (.cells #[.pointer none, .slice none 0 0] 39)).iter s 0)) := Lib.hid
    ⟨⟨by simp [runes], rfl⟩, (Lib.IsBuilderF.of (Lib.fresh_isBuilder 39 5 w)).alloc _, by simpa using World.iter_heap (w.alloc (.cells #[.pointer none, .slice none 0 0] 39)) s 0, ((Below.refl _ w).alloc (Nat.le_refl _) _).alloc (by simp) _⟩
  go_enter Try.func12, Try.ntmps12
  go_wp2_with fail
  go_loopw [] (fun wr => BldLoop w s w.heap.size (w.heap.size + 1) wr) (fun wr => s.size - wr.iterPos (w.heap.size + 1))
  case atStart => exact ⟨[], 0, R0.out⟩
  case round =>
    clear R0
    obtain ⟨l, pos, hr⟩ := hrel
    have hit := hr.it
    have hl4 := BytesOf.length l
    have hln := hr.gone.len
    have G := Lib.hid hr.gone
    have IT := Lib.hid hr.it
    have hBs := hr.below.size
    by_cases hp : pos < s.size
    · have hnx := fun ty => Lib.run_next_any_at (P := Try.prog) wr (w.heap.size + 1) s pos ty hit hp
      have hd := decode_le s pos
      have hdp := decode_pos s pos hp
      have NX := Lib.hid (fun h => hr.gone.next hp h)
      have MK := Lib.hid (fun h => hr.gone.mark hp h)
      have hBW : Hid (Below w.heap.size w (wr.iterAt (w.heap.size + 1) s (pos + (Utf8.decode s pos).2))) := Lib.hid (Lib.below_iterAt hr.below (k := w.heap.size + 1) (by omega) s _)
      have hIW := Lib.hid (hr.bld.iterAt hit (pos + (Utf8.decode s pos).2))
      have hit2 := Lib.hid (Lib.iterAt_heap wr (w.heap.size + 1) s pos (pos + (Utf8.decode s pos).2) hit)
      have BL := Lib.hid (bytes_list l (Utf8.decode s pos).1)
      clear hr hit
      generalize hW : wr.iterAt (w.heap.size + 1) s (pos + (Utf8.decode s pos).2) = W at *
      generalize hc : (Utf8.decode s pos).1 = c at *
      have hWs := hBW.out.size
      clear hc
      cases hm : plainR (c : Int) with
      | false =>
        have E := Lib.hid (MK.out hm)
        have ST := Lib.hid (string_any w.heap.size w.heap.size (BytesOf l) W hIW.out (by omega))
        by_cases h37 : (c : Int) = 37
        · have b1 : ((c : Int) == 37) = true := by simpa using h37
          go_wp2_with fail
          all_goals
            refine ST.out.mono ?_
            rintro e w2 ⟨rfl, b2⟩
            have B2 := Lib.hid (hBW.out.trans b2)
            clear b2
            go_wp2
            go_ret2
            exact ⟨by rw [E.out.1, E.out.2]; rfl, B2.out⟩
        · have h95 : (c : Int) = 95 := by simp [plainR, h37] at hm; exact hm
          have b1 : ((c : Int) == 37) = false := by simpa using h37
          have b2 : ((c : Int) == 95) = true := by simpa using h95
          go_wp2_with fail
          all_goals
            refine ST.out.mono ?_
            rintro e w2 ⟨rfl, b2⟩
            have B2 := Lib.hid (hBW.out.trans b2)
            clear b2
            go_wp2
            go_ret2
            exact ⟨by rw [E.out.1, E.out.2]; rfl, B2.out⟩
      | true =>
        have b1 : ((c : Int) == 37) = false := by simp [plainR] at hm; simpa using hm.1
        have b2 : ((c : Int) == 95) = false := by simp [plainR] at hm; simpa using hm.2
        have WR := Lib.hid (write_any w.heap.size w.heap.size _ (c : Int) (by omega) (by omega) W hIW.out (by rw [Lib.byteCells_length]; omega) (by omega))
        have GN := Lib.hid (NX.out hm)
        clear hm
        go_wp2_with fail
        refine WR.out.mono ?_
        rintro e w2 ⟨rfl, h1, b3, k1⟩
        have RL : Hid (BldRel w s w.heap.size (w.heap.size + 1) (l ++ [(c : Int)]) (pos + (Utf8.decode s pos).2) w2) := Lib.hid ⟨GN.out, Or.inr (by
          have e1 : BytesOf (l ++ [(c : Int)]) = BytesOf l ++ Lib.encodeRune c := BL.out
          rw [e1, Lib.byteCells_append, Lib.byteCells_encodeRune]
          exact h1), k1.iter hit2.out (by omega), hBW.out.trans b3⟩
        clear h1 b3 k1
        go_wp2
        go_roundw
        case rel => exact ⟨_, _, RL.out⟩
        case measure =>
          have e1 : wr.iterPos (w.heap.size + 1) = pos := by simp [World.iterPos, IT.out]
          have e2 : w2.iterPos (w.heap.size + 1) = pos + (Utf8.decode s pos).2 := by simp [World.iterPos, RL.out.it]
          omega
    · have hnx := fun ty => Lib.run_next_end_at (P := Try.prog) wr (w.heap.size + 1) s pos ty hit hp
      have E := Lib.hid (hr.gone.finish hp)
      have ST := Lib.hid (string_any w.heap.size w.heap.size (BytesOf l) wr hr.bld (by omega))
      have BW := Lib.hid hr.below
      clear hr hit
      go_wp2_with fail
      refine ST.out.mono ?_
      rintro e w2 ⟨rfl, b2⟩
      have B2 := Lib.hid (BW.out.trans b2)
      clear b2
      go_wp2
      go_ret2
      exact ⟨by rw [E.out.1, E.out.2]; rfl, B2.out⟩

end Go.Proofs.Ytkdebjampnfgjaa
