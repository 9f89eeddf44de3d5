/-
  PROVED: the contract of 'parts'. Conditions: each theorem's own premises.
-/
import Derived.Test.YtkdebjampnfgjaaSplit
import Derived.Deep.RegionWith
import Derived.Deep.RegionLaw
namespace Go.Proofs.Ytkdebjampnfgjaa
open Go.RowKit
set_option linter.unusedVariables false

theorem Part.info : (Try.prog.info? 25).map (fun i => (i.zero, i.size, i.bytes)) = some (some (.slice none 0 0), 1, 24) := by kernel_rfl

theorem news25 (W : World) (x : Value) (hx : x.oneCell' = true) (j : Nat) (u : Value) (hj : [x][j]? = some u) :
    (W.alloc (.cells #[x] 25)).cell? ((⟨W.heap.size, 0, none⟩ : Addr).add j) = some u := by
  match j, hj with
  | 0, hj => simp at hj; subst hj; simp [Addr.add]
theorem one25 (a : Option Addr) (n c : Nat) : ∀ u ∈ [Value.slice a n c], u.oneCell' = true := by
  intro u hu
  simp at hu
  subst hu
  rfl

def sliceLen : Value → Nat
  | .slice _ n _ => n
  | _ => 0

structure PartsRel (w0 : World) (p : List Int) (v : Value) (done rest : List (List Int)) (xs : List Value) (w : World) : Prop where
  sum : done ++ rest = split37 p
  row : w.ownsRow w0.heap.size 25 1 v done.length xs
  parts : PartsV w0 xs done
  below : Below w0.heap.size w0 w

def PartsLoop (w0 : World) (p : List Int) (v0 v : Value) (w : World) : Prop :=
  ∃ a rest cap done xs, v0 = .slice a rest.length cap ∧ Rd w0 a rest ∧ rest.length ≤ cap ∧ cap ≤ maxLen ∧ rest.length ≤ 300 ∧ PartsRel w0 p v done (split37 rest) xs w

def PartsEnd (w0 : World) (p : List Int) (e : Ending) (w : World) : Prop :=
  ∃ v xs, e = .returned v ∧ w.ownsRow w0.heap.size 25 1 v (split37 p).length xs ∧ PartsV w0 xs (split37 p) ∧ Below w0.heap.size w0 w

theorem PartsRel.len {w0 w : World} {p : List Int} {v : Value} {done rest : List (List Int)} {xs : List Value} (h : PartsRel w0 p v done rest xs w) (hp : p.length ≤ 300) : done.length ≤ 301 := by
  have h1 := congrArg List.length h.sum
  have h2 := (split37_length p).2
  simp at h1
  omega

theorem PartsRel.next {w0 w w' : World} {p : List Int} {v v' x : Value} {q : List Int} {done rest : List (List Int)} {xs : List Value} {o : Obj} (h : PartsRel w0 p v done (q :: rest) xs w) (hx : PartV w0 x q)
    (hown : w'.ownsRow w0.heap.size 25 1 v' (done.length + 1) (xs ++ [x])) (hgrow : (w.alloc o).grownBy w' v.ownBlock) : PartsRel w0 p v' (done ++ [q]) rest (xs ++ [x]) w' := by
  refine ⟨by rw [← h.sum]; simp, by simpa using hown, h.parts.add hx, ?_⟩
  have hb := h.below.alloc h.below.size o
  exact hb.grown hgrow hb.size (fun k hk => (h.row.lt k hk).1)
theorem PartsRel.nextDrew {w0 w w' : World} {p : List Int} {v v' x : Value} {q : List Int} {done rest : List (List Int)} {xs : List Value} {o : Obj} (h : PartsRel w0 p v done (q :: rest) xs w) (hx : PartV w0 x q)
    (hown : w'.ownsRow w0.heap.size 25 1 v' (done.length + 1) (xs ++ [x])) (hgrow : (w.drew.alloc o).grownBy w' v.ownBlock) : PartsRel w0 p v' (done ++ [q]) rest (xs ++ [x]) w' :=
  h.next (o := o) hx hown ⟨hgrow.os, hgrow.tape, hgrow.output, hgrow.size, hgrow.block⟩

set_option maxHeartbeats 2000000 in
theorem parts_any {w : World} {a : Option Addr} {p : List Int} {cap : Nat} (ha : Rd w a p) (hca : p.length ≤ cap) (hma : cap ≤ maxLen) (hp : p.length ≤ 300) :
    Calls Try.prog 14 #[.slice a p.length cap] w (PartsEnd w p) := by
  obtain ⟨i0, hi, hz0, hz1, hz2⟩ := info_parts Part.info
  have S : Hid (PartsLoop w p (.slice a p.length cap) (.slice none 0 0) w) := Lib.hid ⟨a, p, cap, [], [], rfl, ha, hca, hma, hp, by simp, World.ownsRow_nil _ _ _ _, ⟨rfl, fun i h => by simp at h⟩, Below.refl _ _⟩
  clear ha
  go_enter Try.func14, Try.ntmps14
  go_wp2
  go_loopw [0, 3] (fun v0 v wr => PartsLoop w p v0 v wr) (fun v0 _ _ => sliceLen v0)
  case atStart => exact S.out
  case round =>
    clear S hca hma
    obtain ⟨a, q, cap, done, xs, rfl, hr, hca, hma, hq, R⟩ := hrel
    have hdl := R.len hp
    have HR := Lib.hid hr
    have hBs := R.below.size
    have RR := Lib.hid R
    have IX := Lib.hid (index_any (w := wr) 37 (show Rd wr a q from fun hne => by
      obtain ⟨b, off, e, hlt, hc⟩ := hr hne
      exact ⟨b, off, e, Nat.lt_of_lt_of_le hlt hBs, fun i hi => (R.below.cell (p := ⟨b, off + i, none⟩) hlt).trans (hc i hi)⟩) hca hma hq)
    have HA := Lib.hid (R.row)
    obtain ⟨a1, cap1, rfl, _, _⟩ := own_shape R.row
    unfold maxLen at hma
    clear hr R
    go_wp2_with fail
    refine IX.out.mono ?_
    rintro e w' ⟨rfl, rfl⟩
    clear IX
    cases hix : ixN 37 q with
    | none =>
      have FIN := Lib.hid (fun v' w' (o : Obj) => PartsRel.next (v' := v') (w' := w') (o := o) (q := q) (rest := []) (by have := RR.out; rwa [split37_none q hix] at this) ⟨a, cap, rfl, hca, hma, HR.out⟩)
      simp only [asInt]
      clear hix RR
      go_wp2_with (at_builtin; refine wpList_append_lies _ rfl (.tmp 9) (.tmp 11) 31 rfl w.heap.size 25 i0 (.slice none 0 0) 1 24 Try.underlying31 hi hz0 hz1 hz2 rfl (by decide) (.slice a1 done.length cap1) done.length xs rfl (HA.out.alloc _) ⟨wr.heap.size, 0, none⟩ 1 1 [.slice a q.length cap] rfl rfl (fun j u hj => news25 wr _ rfl j u hj) (one25 _ _ _) (by decide) (by unfold maxLen; omega) (by omega) (by simp; omega) (wr.heap.size + 1) (by simp) ?_; intro g cap' w2 hown hgrow hat hlt2; have R := Lib.hid (FIN.out _ w2 _ hown hgrow); clear hown hgrow hat hlt2)
      go_ret
      have e1 := R.out.sum
      rw [List.append_nil] at e1
      exact ⟨_, _, rfl, by have := R.out.row; rw [e1] at this; simpa using this, by have := R.out.parts; rw [e1] at this; exact this, R.out.below⟩
    | some i =>
      obtain ⟨hs, hil⟩ := split37_some q i hix
      obtain ⟨b, off, rfl, hb, hc⟩ := HR.out (by intro e; rw [e] at hil; simp at hil)
      have hil' : (i : Int) < q.length := by omega
      have T := Lib.hid (fun v' w' (o : Obj) => PartsRel.nextDrew (v' := v') (w' := w') (o := o) (q := q.take i) (rest := split37 (q.drop (i + 1))) (by have := RR.out; rwa [hs] at this) ⟨some ⟨b, off, none⟩, cap, by rw [List.length_take, Nat.min_eq_left (by omega)], by simp; omega, hma, HR.out.take i⟩)
      have hi0 : (0 : Int) ≤ i := by omega
      have hi1 : (i : Int) ≤ cap := by omega
      have hi2 : (i : Int) + 1 ≤ q.length := by omega
      have hi4 : (i : Int) ≤ (i : Int) + 1 := by omega
      have hi3 : (0 : Int) ≤ (i : Int) + 1 := by omega
      have hw : IntKind.i64.wrap ((i : Int) + 1) = (i : Int) + 1 := wrap_small _ (by omega) (by omega)
      simp only [asInt]
      clear hix RR hs hc
      by_cases hcj : cap = i + 1
      · subst hcj
        have S : Hid (Rd w (some ⟨b, off, none⟩) (q.drop (i + 1))) := Lib.hid (Rd.dropEnd (by omega))
        go_wp2_with fail
        go_region_law (refine step_append_lies _ rfl (.tmp 13) (.tmp 17) 31 rfl w.heap.size 25 i0 (.slice none 0 0) 1 24 Try.underlying31 hi hz0 hz1 hz2 rfl (by decide) (.slice a1 done.length cap1) done.length xs rfl (by exact HA.out.alloc _) ⟨wr.heap.size, 0, none⟩ 1 1 [.slice (some ⟨b, off, none⟩) i (i + 1)] rfl rfl (by exact fun j u hj => news25 wr _ rfl j u hj) (one25 _ _ _) (by decide) (by unfold maxLen; omega) (by omega) (by simp; omega) (wr.heap.size + 1) (by simp) ?_; intro g cap' w2 hown hgrow hat hlt2; have R := Lib.hid (T.out _ w2 _ hown hgrow); clear hown hgrow hat hlt2)
        all_goals
          go_simp
          go_wp2
          go_roundw
          case rel => exact ⟨_, q.drop (i + 1), 0, done ++ [q.take i], _, by rw [List.length_drop, show q.length - (i + 1) = 0 by omega], S.out, by rw [List.length_drop]; omega, by unfold maxLen; omega, by rw [List.length_drop]; omega, R.out⟩
          case measure => simp [sliceLen]; omega
      · have S : Hid (Rd w (some ⟨b, off + (i + 1), none⟩) (q.drop (i + 1))) := Lib.hid (by have := HR.out.dropMap (i + 1); simpa [Addr.add_lit] using this)
        go_wp2_with fail
        go_region_law (refine step_append_lies _ rfl (.tmp 13) (.tmp 17) 31 rfl w.heap.size 25 i0 (.slice none 0 0) 1 24 Try.underlying31 hi hz0 hz1 hz2 rfl (by decide) (.slice a1 done.length cap1) done.length xs rfl (by exact HA.out.alloc _) ⟨wr.heap.size, 0, none⟩ 1 1 [.slice (some ⟨b, off, none⟩) i cap] rfl rfl (by exact fun j u hj => news25 wr _ rfl j u hj) (one25 _ _ _) (by decide) (by unfold maxLen; omega) (by omega) (by simp; omega) (wr.heap.size + 1) (by simp) ?_; intro g cap' w2 hown hgrow hat hlt2; have R := Lib.hid (T.out _ w2 _ hown hgrow); clear hown hgrow hat hlt2)
        all_goals
          go_simp
          go_wp2
          go_roundw
          case rel => exact ⟨_, q.drop (i + 1), cap - (i + 1), done ++ [q.take i], _, by rw [List.length_drop], S.out, by rw [List.length_drop]; omega, by unfold maxLen; omega, by rw [List.length_drop]; omega, R.out⟩
          case measure => simp [sliceLen]; omega

end Go.Proofs.Ytkdebjampnfgjaa
