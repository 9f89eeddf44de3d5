/-
  PROVED: the contract of the reference's 'Prefix'. Conditions: each theorem's own premises.
-/
import Derived.Test.YtkdebjampnfgjaaPrefix
namespace Go.Proofs.Ytkdebjampnfgjaa
open Go.RowKit
set_option linter.unusedVariables false

theorem convert_row {w : World} {B : Nat} {v : Value} {l : List Int} (h : w.ownsRow B 21 1 v l.length (ri l)) : (convert 25 9 v).run Try.prog w = .ok (.string (runesBytes l)) w := by
  rcases h.2 with ⟨rfl, h0⟩ | ⟨g, cap, cur, rfl, _⟩
  · obtain rfl := List.length_eq_zero_iff.1 h0
    exact run_convert_runes_nil w 25 9 21 0 0 Try.underlying25 Try.underlying21 Try.underlying9
  · have := run_convert_runes (P := Try.prog) w 25 9 21 ⟨g, 0, none⟩ l.length cap l (Nat.le_refl _) Try.underlying25 Try.underlying21 Try.underlying9 (fun j hj => by
      rw [h.cells (g := g) rfl j _ (ri_get l j hj)]
      simp [List.getD, List.getElem?_eq_getElem hj])
    rw [List.take_length] at this
    exact this

structure RunRel (w0 : World) (s : ByteArray) (k : Nat) (v : Value) (l : List Int) (pos : Nat) (w : World) : Prop where
  gone : Gone s l pos
  row : w.ownsRow w0.heap.size 21 1 v l.length (ri l)
  it : w.heap[k]? = some (.stringIter s pos)
  below : Below w0.heap.size w0 w

def RunLoop (w0 : World) (s : ByteArray) (k : Nat) (v : Value) (w : World) : Prop := ∃ l pos, RunRel w0 s k v l pos w

theorem RunRel.next {w0 w w' : World} {s : ByteArray} {k : Nat} {v v' : Value} {l : List Int} {pos : Nat} {o : Obj} (h : RunRel w0 s k v l pos w) (hk : w0.heap.size ≤ k) (hp : pos < s.size) (hm : plainR (Utf8.decode s pos).1 = true)
    (hown : w'.ownsRow w0.heap.size 21 1 v' (l.length + 1) (ri l ++ [.int .i32 (Utf8.decode s pos).1])) (hgrow : ((w.iterAt k s (pos + (Utf8.decode s pos).2)).alloc o).grownBy w' v.ownBlock) : RunRel w0 s k v' (l ++ [((Utf8.decode s pos).1 : Int)]) (pos + (Utf8.decode s pos).2) w' := by
  have hkl := lt_of_block' h.it
  have hi : ((w.iterAt k s (pos + (Utf8.decode s pos).2)).alloc o).heap[k]? = some (.stringIter s (pos + (Utf8.decode s pos).2)) :=
    (Below.heap_alloc _ _ _ (by rw [Lib.iterAt_size]; exact hkl)).trans (Lib.iterAt_heap w k s pos _ h.it)
  refine ⟨h.gone.next hp hm, by simpa [ri] using hown, ?_, ?_⟩
  · refine (hgrow.block k (by simp [Lib.iterAt_size]; omega) (fun e => ?_)).trans hi
    rcases h.row.2 with ⟨rfl, _⟩ | ⟨g, cap, cur, rfl, _, hg, _⟩
    · cases e
    · obtain rfl : k = g := by simpa [Value.ownBlock] using e
      rw [h.it] at hg
      cases hg
  · have hb : Below w0.heap.size w0 ((w.iterAt k s (pos + (Utf8.decode s pos).2)).alloc o) := (Lib.below_iterAt h.below hk s _).alloc (by rw [Lib.iterAt_size]; exact h.below.size) o
    exact hb.grown hgrow hb.size (fun b hb => (h.row.lt b hb).1)

set_option maxHeartbeats 4000000 in
theorem rprefix_any (s : ByteArray) (hs : s.size ≤ 300) (w : World) : Calls Try.prog 13 #[.string s] w (PreEnd w s) := by
  obtain ⟨i0, hi, hz0, hz1, hz2⟩ := info_parts Rune.info
  have R0 : Hid (RunRel w s (w.heap.size + 1) (.slice (some ⟨w.heap.size, 0, none⟩) 0 0) [] 0 ((w.alloc (.cells #[] 21)).iter s 0)) := Lib.hid
    ⟨⟨by simp [runes], rfl⟩, own_empty _ _ _ ((Below.heap_alloc _ _ _ (by simp)).trans (newest _ _)) (Nat.le_refl _), by simpa using World.iter_heap (w.alloc (.cells #[] 21)) s 0, ((Below.refl _ w).alloc (Nat.le_refl _) _).alloc (by simp) _⟩
  go_enter Try.func13, Try.ntmps13
  go_wp2_with fail
  go_loopw [4] (fun v wr => RunLoop w s (w.heap.size + 1) v wr) (fun _ wr => s.size - wr.iterPos (w.heap.size + 1))
  case atStart => exact ⟨[], 0, R0.out⟩
  case round =>
    clear R0
    obtain ⟨l, pos, hr⟩ := hrel
    have hit := hr.it
    have hln := hr.gone.len
    have IT := Lib.hid hr.it
    have hBs := hr.below.size
    obtain ⟨a1, cap1, rfl, _, _⟩ := own_shape hr.row
    by_cases hp : pos < s.size
    · have hnx := fun ty => Lib.run_next_any_at (P := Try.prog) wr (w.heap.size + 1) s pos ty hit hp
      have hd := decode_le s pos
      have hdp := decode_pos s pos hp
      have T := Lib.hid (fun hm v' w' (o' : Obj) => RunRel.next (v' := v') (w' := w') (o := o') hr (by omega) hp hm)
      have MK := Lib.hid (fun h => hr.gone.mark hp h)
      have hBW : Hid (Below w.heap.size w (wr.iterAt (w.heap.size + 1) s (pos + (Utf8.decode s pos).2))) := Lib.hid (Lib.below_iterAt hr.below (k := w.heap.size + 1) (by omega) s _)
      have HA := Lib.hid (fun o => (row_iterAt (pos' := pos + (Utf8.decode s pos).2) hr.row hit).alloc (o := o))
      have hcv := convert_row (row_iterAt (pos' := pos + (Utf8.decode s pos).2) hr.row hit)
      clear hr hit
      generalize hW : wr.iterAt (w.heap.size + 1) s (pos + (Utf8.decode s pos).2) = W at *
      generalize hc : (Utf8.decode s pos).1 = c at *
      have hWs := hBW.out.size
      clear hc
      cases hm : plainR (c : Int) with
      | false =>
        have E := Lib.hid (MK.out hm)
        by_cases h37 : (c : Int) = 37
        · have b1 : ((c : Int) == 37) = true := by simpa using h37
          go_wp2_with fail
          all_goals
            go_ret2
            exact ⟨by rw [E.out.1, E.out.2]; rfl, hBW.out⟩
        · have h95 : (c : Int) = 95 := by simp [plainR, h37] at hm; exact hm
          have b1 : ((c : Int) == 37) = false := by simpa using h37
          have b2 : ((c : Int) == 95) = true := by simpa using h95
          go_wp2_with fail
          all_goals
            go_ret2
            exact ⟨by rw [E.out.1, E.out.2]; rfl, hBW.out⟩
      | true =>
        have b1 : ((c : Int) == 37) = false := by simp [plainR] at hm; simpa using hm.1
        have b2 : ((c : Int) == 95) = false := by simp [plainR] at hm; simpa using hm.2
        have TT := Lib.hid (T.out hm)
        clear hm hcv T
        go_wp2_with (at_builtin; refine wpList_append_lies _ rfl (.tmp 21) (.tmp 23) 25 rfl w.heap.size 21 i0 (.int .i32 0) 1 4 Try.underlying25 hi hz0 hz1 hz2 rfl (by decide) (.slice a1 l.length cap1) l.length (ri l) rfl (HA.out _) ⟨W.heap.size, 0, none⟩ 1 1 [.int .i32 c] rfl rfl (fun j u hj => news21 W c j u hj) (one21 c) (by decide) (by unfold maxLen; omega) (by omega) (by simp; omega) (W.heap.size + 1) (by simp) ?_; intro g cap' w2 hown hgrow hat hlt2; have R := Lib.hid (TT.out _ w2 _ hown hgrow); clear hown hgrow hat hlt2)
        go_wp2
        go_roundw
        case rel => exact ⟨_, _, by simpa using R.out⟩
        case measure =>
          have e1 : wr.iterPos (w.heap.size + 1) = pos := by simp [World.iterPos, IT.out]
          have e2 : w2.iterPos (w.heap.size + 1) = pos + (Utf8.decode s pos).2 := by simp [World.iterPos, R.out.it]
          omega
    · have hnx := fun ty => Lib.run_next_end_at (P := Try.prog) wr (w.heap.size + 1) s pos ty hit hp
      have E := Lib.hid (hr.gone.finish hp)
      have BW := Lib.hid hr.below
      have hcv := convert_row hr.row
      clear hr hit
      go_wp2_with fail
      go_ret2
      exact ⟨by rw [E.out.1, E.out.2]; rfl, BW.out⟩

end Go.Proofs.Ytkdebjampnfgjaa
