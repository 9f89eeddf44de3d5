/-
  PROVED: contracts of the two 'Fold's. Conditions: each theorem's own premises.
-/
import Derived.Test.YtkdebjampnfgjaaText
namespace Go.Proofs.Ytkdebjampnfgjaa
open Go.RowKit
set_option linter.unusedVariables false

theorem Rune.info : (Try.prog.info? 21).map (fun i => (i.zero, i.size, i.bytes)) = some (some (.int .i32 0), 1, 4) := by kernel_rfl

theorem small_any (c : Int) (h0 : 0 ≤ c) (h1 : c ≤ 2147483647) (w : World) : Calls Try.prog 17 #[.int .i32 c] w fun e w' => e = .returned (.int .i32 (low c)) ∧ w = w' := by
  unfold low
  by_cases h : 65 ≤ c
  · by_cases h2 : c ≤ 90
    · rw [if_pos ⟨h, h2⟩]
      go_enter Try.func17, Try.ntmps17
      go_wp2
      go_ret
      all_goals exact ⟨rfl, rfl⟩
    · rw [if_neg (by omega)]
      go_enter Try.func17, Try.ntmps17
      go_wp2
      go_ret
      all_goals exact ⟨rfl, rfl⟩
  · rw [if_neg (by omega)]
    go_enter Try.func17, Try.ntmps17
    go_wp2
    go_ret
    all_goals exact ⟨rfl, rfl⟩

theorem own_shape {w : World} {B n : Nat} {v : Value} {xs : List Value} {e : TypeId} (h : w.ownsRow B e 1 v n xs) : ∃ a cap, v = .slice a n cap ∧ n ≤ cap ∧ cap ≤ maxLen := by
  rcases h.2 with ⟨rfl, rfl⟩ | ⟨g, cap, cur, rfl, _, _, hc, hm, _⟩
  · exact ⟨none, 0, rfl, Nat.le_refl _, by unfold maxLen; omega⟩
  · exact ⟨_, cap, rfl, hc, hm⟩
theorem newest (w : World) (o : Obj) : (w.alloc o).heap[w.heap.size]? = some o := heap_alloc_new w o
theorem news21 (W : World) (a : Int) (j : Nat) (u : Value) (hj : [Value.int .i32 a][j]? = some u) :
    (W.alloc (.cells #[.int .i32 a] 21)).cell? ((⟨W.heap.size, 0, none⟩ : Addr).add j) = some u := by
  match j, hj with
  | 0, hj => simp at hj; subst hj; simp [Addr.add]
theorem one21 (a : Int) : ∀ u ∈ [Value.int .i32 a], u.oneCell' = true := by
  intro u hu
  simp at hu
  subst hu
  rfl

theorem row_iterAt {w : World} {B n : Nat} {v : Value} {xs : List Value} {k pos pos' : Nat} {s : ByteArray} (h : w.ownsRow B 21 1 v n xs) (hk : w.heap[k]? = some (.stringIter s pos)) : (w.iterAt k s pos').ownsRow B 21 1 v n xs := by
  refine ⟨h.1, ?_⟩
  rcases h.2 with hn | ⟨g, cap, cur, hv, hb, hg, rest⟩
  · exact .inl hn
  · have hkg : g ≠ k := by
      intro e1
      rw [e1, hk] at hg
      cases hg
    exact .inr ⟨g, cap, cur, hv, hb, (Lib.iterAt_other w k g s pos' hkg).trans hg, rest⟩

def FoldLoop (w0 : World) (s : ByteArray) (k : Nat) (v : Value) (w : World) : Prop := ∃ l pos, FoldRel w0 s k v l pos w

set_option maxHeartbeats 1000000 in
theorem fold_any (s : ByteArray) (hs : s.size ≤ 300) (w : World) : Calls Try.prog 10 #[.string s] w (FoldEnd w s) := by
  obtain ⟨i0, hi, hz0, hz1, hz2⟩ := info_parts Rune.info
  have R0 : Hid (FoldRel w s w.heap.size (.slice none 0 0) [] 0 (w.iter s 0)) := Lib.hid ⟨by simp [folded, runes], World.ownsRow_nil _ _ _ _, (Below.refl _ w).alloc (Nat.le_refl _) _, World.iter_heap w s 0, Nat.le_refl _⟩
  go_enter Try.func10, Try.ntmps10
  go_wp2_with fail
  go_loopw [3] (fun v wr => FoldLoop w s w.heap.size v wr) (fun _ wr => s.size - wr.iterPos w.heap.size)
  case atStart => exact ⟨[], 0, R0.out⟩
  case round =>
    clear R0
    obtain ⟨l, pos, hr⟩ := hrel
    have hit := hr.it
    have hlen := hr.len
    by_cases hp : pos < s.size
    · have hnx := fun ty => Lib.run_next_any_at (P := Try.prog) wr w.heap.size s pos ty hit hp
      have hd := decode_le s pos
      have hdp := decode_pos s pos hp
      have T := Lib.hid (fun v' w' (o' : Obj) => FoldRel.next (v' := v') (w' := w') (o := o') hr hp)
      have HA := Lib.hid (fun o => (row_iterAt (pos' := pos + (Utf8.decode s pos).2) hr.row hit).alloc (o := o))
      have hBs := hr.below.size
      obtain ⟨a1, cap1, rfl, _, _⟩ := own_shape hr.row
      have hzs : (wr.iterAt w.heap.size s (pos + (Utf8.decode s pos).2)).heap.size = wr.heap.size := Lib.iterAt_size _ _ _ _
      have IT := Lib.hid hit
      clear hr hit
      generalize hW : wr.iterAt w.heap.size s (pos + (Utf8.decode s pos).2) = W at *
      generalize hc : (Utf8.decode s pos).1 = c at *
      have hWs : w.heap.size ≤ W.heap.size := by omega
      clear hc hzs
      have S := Lib.hid (small_any (c : Int) (by omega) (by omega) W)
      go_wp2_with fail
      refine S.out.mono ?_
      rintro e w' ⟨rfl, rfl⟩
      generalize low (c : Int) = d at *
      clear S hnx
      go_wp2_with (at_builtin; refine wpList_append_lies _ rfl (.tmp 11) (.tmp 14) 25 rfl w.heap.size 21 i0 (.int .i32 0) 1 4 Try.underlying25 hi hz0 hz1 hz2 rfl (by decide) (.slice a1 l.length cap1) l.length (ri l) rfl (HA.out _) ⟨W.heap.size, 0, none⟩ 1 1 [.int .i32 d] rfl rfl (fun j u hj => news21 W d j u hj) (one21 d) (by decide) (by unfold maxLen; omega) (by omega) (by simp; omega) (W.heap.size + 1) (by simp) ?_; intro g cap' w2 hown hgrow hat hlt2; have R := Lib.hid (T.out _ w2 _ hown hgrow); clear hown hgrow hat hlt2)
      go_wp2
      go_roundw
      case rel => exact ⟨_, _, by simpa using R.out⟩
      case measure =>
        have e1 : wr.iterPos w.heap.size = pos := by simp [World.iterPos, IT.out]
        have e2 : w2.iterPos w.heap.size = pos + (Utf8.decode s pos).2 := by simp [World.iterPos, R.out.it]
        omega
    · have hnx := fun ty => Lib.run_next_end_at (P := Try.prog) wr w.heap.size s pos ty hit hp
      have F := Lib.hid (hr.finish hp)
      clear hr hit
      go_wp2
      go_ret
      exact F.out

theorem own_empty (w : World) (B : Nat) (g : Nat) (h : w.heap[g]? = some (.cells #[] 21 (0, 0))) (hg : B ≤ g) : w.ownsRow B 21 1 (.slice (some ⟨g, 0, none⟩) 0 0) 0 [] :=
  ⟨by simp, .inr ⟨g, 0, #[], rfl, hg, h, Nat.le_refl _, by unfold maxLen; omega, by simp, by simp⟩⟩

set_option maxHeartbeats 1000000 in
theorem rfold_any (s : ByteArray) (hs : s.size ≤ 300) (w : World) : Calls Try.prog 11 #[.string s] w (FoldEnd w s) := by
  obtain ⟨i0, hi, hz0, hz1, hz2⟩ := info_parts Rune.info
  have R0 : Hid (FoldRel w s (w.heap.size + 1) (.slice (some ⟨w.heap.size, 0, none⟩) 0 0) [] 0 ((w.alloc (.cells #[] 21)).iter s 0)) := Lib.hid ⟨by simp [folded, runes], own_empty _ _ _ ((Below.heap_alloc _ _ _ (by simp)).trans (newest _ _)) (Nat.le_refl _), ((Below.refl _ w).alloc (Nat.le_refl _) _).alloc (by simp) _, by simpa using World.iter_heap (w.alloc (.cells #[] 21)) s 0, Nat.le_succ _⟩
  go_enter Try.func11, Try.ntmps11
  go_wp2_with fail
  go_loopw [3] (fun v wr => FoldLoop w s (w.heap.size + 1) v wr) (fun _ wr => s.size - wr.iterPos (w.heap.size + 1))
  case atStart => exact ⟨[], 0, R0.out⟩
  case round =>
    clear R0
    obtain ⟨l, pos, hr⟩ := hrel
    have hit := hr.it
    have hlen := hr.len
    by_cases hp : pos < s.size
    · have hnx := fun ty => Lib.run_next_any_at (P := Try.prog) wr (w.heap.size + 1) s pos ty hit hp
      have hd := decode_le s pos
      have hdp := decode_pos s pos hp
      have T := Lib.hid (fun v' w' (o' : Obj) => FoldRel.next (v' := v') (w' := w') (o := o') hr hp)
      have HA := Lib.hid (fun o => (row_iterAt (pos' := pos + (Utf8.decode s pos).2) hr.row hit).alloc (o := o))
      have hBs := hr.below.size
      obtain ⟨a1, cap1, rfl, _, _⟩ := own_shape hr.row
      have hzs : (wr.iterAt (w.heap.size + 1) s (pos + (Utf8.decode s pos).2)).heap.size = wr.heap.size := Lib.iterAt_size _ _ _ _
      have IT := Lib.hid hit
      clear hr hit
      generalize hW : wr.iterAt (w.heap.size + 1) s (pos + (Utf8.decode s pos).2) = W at *
      generalize hc : (Utf8.decode s pos).1 = c at *
      have hWs : w.heap.size ≤ W.heap.size := by omega
      clear hc hzs
      by_cases h1 : 65 ≤ (c : Int)
      · by_cases h2 : (c : Int) ≤ 90
        · have HL := Lib.hid (show low (c : Int) = (c : Int) - 65 + 97 from (if_pos ⟨h1, h2⟩).trans (by omega))
          go_wp2_with (at_builtin; refine wpList_append_lies _ rfl (.tmp 21) (.tmp 23) 25 rfl w.heap.size 21 i0 (.int .i32 0) 1 4 Try.underlying25 hi hz0 hz1 hz2 rfl (by decide) (.slice a1 l.length cap1) l.length (ri l) rfl (HA.out _) ⟨W.heap.size, 0, none⟩ 1 1 [.int .i32 ((c : Int) - 65 + 97)] rfl rfl (fun j u hj => news21 W ((c : Int) - 65 + 97) j u hj) (one21 ((c : Int) - 65 + 97)) (by decide) (by unfold maxLen; omega) (by omega) (by simp; omega) (W.heap.size + 1) (by simp) ?_; intro g cap' w2 hown hgrow hat hlt2; have R := Lib.hid (T.out _ w2 _ (by rw [HL.out]; exact hown) hgrow); clear hown hgrow hat hlt2)
          go_wp2
          go_roundw
          case rel => exact ⟨_, _, by simpa using R.out⟩
          case measure =>
            have e1 : wr.iterPos (w.heap.size + 1) = pos := by simp [World.iterPos, IT.out]
            have e2 : w2.iterPos (w.heap.size + 1) = pos + (Utf8.decode s pos).2 := by simp [World.iterPos, R.out.it]
            omega
        · have HL := Lib.hid (show low (c : Int) = (c : Int) from if_neg (by omega))
          go_wp2_with (at_builtin; refine wpList_append_lies _ rfl (.tmp 21) (.tmp 23) 25 rfl w.heap.size 21 i0 (.int .i32 0) 1 4 Try.underlying25 hi hz0 hz1 hz2 rfl (by decide) (.slice a1 l.length cap1) l.length (ri l) rfl (HA.out _) ⟨W.heap.size, 0, none⟩ 1 1 [.int .i32 (c : Int)] rfl rfl (fun j u hj => news21 W (c : Int) j u hj) (one21 (c : Int)) (by decide) (by unfold maxLen; omega) (by omega) (by simp; omega) (W.heap.size + 1) (by simp) ?_; intro g cap' w2 hown hgrow hat hlt2; have R := Lib.hid (T.out _ w2 _ (by rw [HL.out]; exact hown) hgrow); clear hown hgrow hat hlt2)
          go_wp2
          go_roundw
          case rel => exact ⟨_, _, by simpa using R.out⟩
          case measure =>
            have e1 : wr.iterPos (w.heap.size + 1) = pos := by simp [World.iterPos, IT.out]
            have e2 : w2.iterPos (w.heap.size + 1) = pos + (Utf8.decode s pos).2 := by simp [World.iterPos, R.out.it]
            omega
      · have HL := Lib.hid (show low (c : Int) = (c : Int) from if_neg (by omega))
        go_wp2_with (at_builtin; refine wpList_append_lies _ rfl (.tmp 21) (.tmp 23) 25 rfl w.heap.size 21 i0 (.int .i32 0) 1 4 Try.underlying25 hi hz0 hz1 hz2 rfl (by decide) (.slice a1 l.length cap1) l.length (ri l) rfl (HA.out _) ⟨W.heap.size, 0, none⟩ 1 1 [.int .i32 (c : Int)] rfl rfl (fun j u hj => news21 W (c : Int) j u hj) (one21 (c : Int)) (by decide) (by unfold maxLen; omega) (by omega) (by simp; omega) (W.heap.size + 1) (by simp) ?_; intro g cap' w2 hown hgrow hat hlt2; have R := Lib.hid (T.out _ w2 _ (by rw [HL.out]; exact hown) hgrow); clear hown hgrow hat hlt2)
        go_wp2
        go_roundw
        case rel => exact ⟨_, _, by simpa using R.out⟩
        case measure =>
          have e1 : wr.iterPos (w.heap.size + 1) = pos := by simp [World.iterPos, IT.out]
          have e2 : w2.iterPos (w.heap.size + 1) = pos + (Utf8.decode s pos).2 := by simp [World.iterPos, R.out.it]
          omega
    · have hnx := fun ty => Lib.run_next_end_at (P := Try.prog) wr (w.heap.size + 1) s pos ty hit hp
      have F := Lib.hid (hr.finish hp)
      clear hr hit
      go_wp2
      go_ret
      exact F.out


end Go.Proofs.Ytkdebjampnfgjaa
