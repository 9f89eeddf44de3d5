/-
  PROVED: the contract of the reference's 'Put'. Conditions: each theorem's own premises.
-/
import Derived.Test.YtpanakfbbdeihaaRef
namespace Go.Proofs.Ytpanakfbbdeihaa
open Go.RowKit
set_option linter.unusedVariables false

def RPutEnd (w : World) (v : Value) (ks : List Key) (k : Key) (e : Ending) (w' : World) : Prop :=
  Below w.heap.size w w' ∧
  ((e = .returned (.tuple #[v, .bool false]) ∧ ¬ (k ∉ ks ∧ ks.length < 64)) ∨
   ∃ v', e = .returned (.tuple #[v', .bool true]) ∧ (k ∉ ks ∧ ks.length < 64) ∧ w'.ownsRow w.heap.size 30 2 v' (ks.length + 1) (cs (ks ++ [k])) ∧ v'.ownBlock ≠ none)

structure Boxed30 (w : World) (a b : Int) (W : World) : Prop where
  below : Below w.heap.size w W
  size : W.heap.size = w.heap.size + 1
  block : W.heap[w.heap.size]? = some (.cells #[.int .i64 a, .int .i64 b] 30 (0, 0))
theorem boxed30 (w : World) (a b : Int) : ∃ W, w.alloc (.cells #[.int .i64 a, .int .i64 b] 30) = W ∧ Boxed30 w a b W :=
  ⟨_, rfl, (Below.refl _ w).alloc (Nat.le_refl _) _, by simp, newest _ _⟩

theorem rd_news {w X : World} {bb off : Nat} {ks : List Key} (hb : Below w.heap.size w X) (hbl : bb < w.heap.size)
    (hcl : ∀ i (h : i < ks.length), w.cell? ⟨bb, off + i * 2, none⟩ = some (.int .i64 ks[i].1) ∧ w.cell? ⟨bb, off + i * 2 + 1, none⟩ = some (.int .i64 ks[i].2)) (j : Nat) (u : Value) (hj : (cs ks)[j]? = some u) :
    X.cell? ((⟨bb, off, none⟩ : Addr).add j) = some u := by
  rw [Addr.add_lit]
  have hlt : j < ks.length * 2 := by
    have := (List.getElem?_eq_some_iff.1 hj).1
    rw [cs_length] at this
    exact this
  obtain ⟨i, hi, e⟩ : ∃ i, i < ks.length ∧ (j = i * 2 ∨ j = i * 2 + 1) := ⟨j / 2, by omega, by omega⟩
  obtain ⟨g1, g2⟩ := cs_get ks i hi
  obtain ⟨c1, c2⟩ := hcl i hi
  rcases e with rfl | rfl
  · rw [g1] at hj
    cases hj
    exact (hb.cell (p := ⟨bb, off + i * 2, none⟩) hbl).trans c1
  · rw [g2] at hj
    cases hj
    exact (hb.cell (p := ⟨bb, off + i * 2 + 1, none⟩) hbl).trans c2

theorem cs_one (ks : List Key) : ∀ u ∈ cs ks, u.oneCell' = true := by
  intro u hu
  simp only [cs, List.mem_flatMap] at hu
  obtain ⟨k, _, hk⟩ := hu
  exact one2 k.1 k.2 u hk

theorem news_block {X : World} {g : Nat} {a b : Int} (h : X.heap[g]? = some (.cells #[.int .i64 a, .int .i64 b] 30 (0, 0))) (j : Nat) (u : Value) (hj : [Value.int .i64 a, Value.int .i64 b][j]? = some u) :
    X.cell? ((⟨g, 0, none⟩ : Addr).add j) = some u := by
  rw [Addr.add_lit]
  match j, hj with
  | 0, hj => simp at hj; subst hj; simp [World.cell?, h]
  | 1, hj => simp at hj; subst hj; simp [World.cell?, h]

theorem newer' (w : World) (o p : Obj) : ((w.alloc o).alloc p).heap[w.heap.size]? = some o := (Below.heap_alloc _ _ _ (by simp)).trans (newest w o)
theorem newest' (w : World) (o p : Obj) : ((w.alloc o).alloc p).heap[w.heap.size + 1]? = some p := by simpa using newest (w.alloc o) p

def RPutLoop (ks : List Key) (k : Key) (W : World) (i : Value) (w : World) : Prop := ∃ j : Nat, i = .int .i64 j ∧ j ≤ ks.length ∧ (∀ x ∈ ks.take j, x ≠ k) ∧ ∃ n, w = W.drewN n

theorem rput_last {w W2 W3 : World} {v v2 v3 : Value} {ks : List Key} {a b : Int} (hn : (a, b) ∉ ks) (h64 : ks.length < 64) (hb : Below w.heap.size w W2) (hown2 : W2.ownsRow w.heap.size 30 2 v2 ks.length (cs ks))
    (hown : W3.ownsRow w.heap.size 30 2 v3 (ks.length + 1) (cs ks ++ [.int .i64 a, .int .i64 b])) (hgrow : W2.grownBy W3 v2.ownBlock) : RPutEnd w v ks (a, b) (.returned (.tuple #[v3, .bool true])) W3 := by
  refine ⟨hb.grown hgrow hb.size (fun k hk => (hown2.lt k hk).1), .inr ⟨v3, rfl, ⟨hn, h64⟩, ?_, ?_⟩⟩
  · have e : cs (ks ++ [(a, b)]) = cs ks ++ [.int .i64 a, .int .i64 b] := by simp [cs, kc]
    rw [e]; exact hown
  · obtain ⟨g, cap, rfl, _⟩ := hown.form (by omega)
    simp [Value.ownBlock]

theorem rput_zero {w W2 W3 : World} {v2 v3 : Value} {a b : Int} (hn : (a, b) ∉ ([] : List Key)) (hb : Below w.heap.size w W2) (hown2 : W2.ownsRow w.heap.size 30 2 v2 0 [])
    (hown : W3.ownsRow w.heap.size 30 2 v3 (0 + 1) ([] ++ [.int .i64 a, .int .i64 b])) (hgrow : W2.grownBy W3 v2.ownBlock) : ∀ v, RPutEnd w v [] (a, b) (.returned (.tuple #[v3, .bool true])) W3 := by
  intro v
  refine ⟨hb.grown hgrow hb.size (fun k hk => (hown2.lt k hk).1), .inr ⟨v3, rfl, ⟨hn, by simp⟩, ?_, ?_⟩⟩
  · simpa [cs, kc] using hown
  · obtain ⟨g, cap, rfl, _⟩ := hown.form (by omega)
    simp [Value.ownBlock]

set_option maxHeartbeats 4000000 in
theorem rput_any {w : World} {ad : Option Addr} {ks : List Key} {cap : Nat} (hr : RdAt w ad ks) (hc : ks.length ≤ cap) (hl : ks.length ≤ 200) (hm : cap ≤ maxLen) (a b : Int) :
    Calls Try.prog 11 #[.slice ad ks.length cap, .agg #[.int .i64 a, .int .i64 b]] w (RPutEnd w (.slice ad ks.length cap) ks (a, b)) := by
  obtain ⟨i0, hi, hz0, hz1, hz2⟩ := info_parts Key30.info
  obtain ⟨W, hW, bx⟩ := boxed30 w a b
  have hrW : RdAt W ad ks := hr.below bx.below (fun x hx hne => by obtain ⟨b, off, e, hlt, _⟩ := hr hne; rw [hx] at e; cases e; exact hlt)
  unfold maxLen at hm
  have HR := Lib.hid hr
  have HRW := Lib.hid hrW
  have b0 : W.cell? ⟨w.heap.size, 0, none⟩ = some (.int .i64 a) := by simp [World.cell?, bx.block]
  have b1 : W.cell? ⟨w.heap.size, 1, none⟩ = some (.int .i64 b) := by simp [World.cell?, bx.block]
  have BX := Lib.hid bx
  clear hr hrW bx
  go_enter Try.func11, Try.ntmps11
  go_wp2
  go_loopw [6] (fun i wr => RPutLoop ks (a, b) W i wr) (fun i _ => ks.length - (intOf i).toNat)
  case atStart => exact ⟨0, rfl, Nat.zero_le _, by simp, 0, rfl⟩
  case round =>
    clear hW
    obtain ⟨j, rfl, hj, ht, n, rfl⟩ := hrel
    have HT := Lib.hid ht
    clear ht
    by_cases hlt : j < ks.length
    · obtain ⟨b1, o1, rfl, _, hc1⟩ := HRW.out (by intro e; rw [e] at hlt; simp at hlt)
      obtain ⟨x0, x1⟩ := hc1 j hlt
      clear hc1
      have hkj := Lib.hid (show ks[j]? = some ks[j] by simp [hlt])
      have i0 : (0 : Int) ≤ j := by omega
      have i1 : (j : Int) < ks.length := by omega
      generalize ks[j] = x at *
      by_cases h1 : x.1 = a
      · by_cases h2 : x.2 = b
        · have HX : Hid ((a, b) ∈ ks) := Lib.hid (by
            have := List.mem_of_getElem? hkj.out
            have e : x = (a, b) := Prod.ext h1 h2
            rw [← e]; exact this)
          have c1 : (x.1 == a) = true := by simpa using h1
          have c2 : (x.2 == b) = true := by simpa using h2
          go_wp2_with fail
          go_quiet (fail)
          go_wp2
          go_ret2
          exact ⟨below_drewN (below_drewN BX.out.below _) _, .inl ⟨rfl, fun h => h.1 HX.out⟩⟩
        · have HX : Hid (x ≠ (a, b)) := Lib.hid (fun e => h2 (by rw [e]))
          have c1 : (x.1 == a) = true := by simpa using h1
          have c2 : (x.2 == b) = false := by simpa using h2
          go_wp2_with fail
          go_quiet (fail)
          go_wp2
          go_roundw
          case rel =>
            refine ⟨j + 1, by go_num, by omega, ?_, _, rfl⟩
            intro y hy
            rw [List.take_add_one, hkj.out] at hy
            simp at hy
            rcases hy with hy | rfl
            · exact HT.out y hy
            · exact HX.out
          case measure => simp [intOf]; omega
      · have HX : Hid (x ≠ (a, b)) := Lib.hid (fun e => h1 (by rw [e]))
        have c1 : (x.1 == a) = false := by simpa using h1
        go_wp2_with fail
        go_quiet (fail)
        go_wp2
        go_roundw
        case rel =>
          refine ⟨j + 1, by go_num, by omega, ?_, _, rfl⟩
          intro y hy
          rw [List.take_add_one, hkj.out] at hy
          simp at hy
          rcases hy with hy | rfl
          · exact HT.out y hy
          · exact HX.out
        case measure => simp [intOf]; omega
    · have HN : Hid ((a, b) ∉ ks) := Lib.hid (by
        obtain rfl : j = ks.length := by omega
        have h1 := HT.out
        rw [List.take_length] at h1
        exact fun hm => h1 _ hm rfl)
      by_cases h64 : ks.length < 64
      · have h64' : (ks.length : Int) < 64 := by omega
        have HB : Hid (Below w.heap.size w (W.drewN n)) := Lib.hid (below_drewN BX.out.below _)
        have bx0 : (W.drewN n).cell? ⟨w.heap.size, 0, none⟩ = some (.int .i64 a) := b0
        have bx1 : (W.drewN n).cell? ⟨w.heap.size, 1, none⟩ = some (.int .i64 b) := b1
        have hsz : w.heap.size < (W.drewN n).heap.size := by have := BX.out.size; show _ < W.heap.size; omega
        have RD : Hid (RdAt w ad ks) := HR
        have BXX : Hid ((W.drewN n).heap[w.heap.size]? = some (.cells #[.int .i64 a, .int .i64 b] 30 (0, 0))) := Lib.hid BX.out.block
        clear b0 b1 HT HR HRW BX
        generalize W.drewN n = X at *
        go_wp2_with fail
        by_cases hk0 : ks = []
        · subst hk0
          have BB : Hid (Below w.heap.size w ((X.alloc (.cells #[.int .i64 a, .int .i64 b] 30)).alloc (.cells #[] 30)).drew) := Lib.hid (((HB.out.alloc (by omega) _).alloc (by simp; omega) _).drew)
          have BC : Hid (Below w.heap.size w ((X.alloc (.cells #[] 30)).alloc (.cells #[.int .i64 a, .int .i64 b] 30)).drew) := Lib.hid (((HB.out.alloc (by omega) _).alloc (by simp; omega) _).drew)
          clear RD
          rcases ad with _ | ad
          all_goals
            go_region_law (first | (refine step_append_lies _ rfl (.tmp 26) (.tmp 28) 22 rfl w.heap.size 30 i0 (.agg #[.int .i64 0, .int .i64 0]) 2 16 Try.underlying22 hi hz0 hz1 hz2 rfl (by decide) (.slice (some ⟨X.heap.size, 0, none⟩) 0 0) 0 [] rfl (by exact own_empty _ _ _ (newer' _ _ _) (by omega)) ⟨X.heap.size + 1, 0, none⟩ 1 1 [.int .i64 a, .int .i64 b] rfl rfl (by exact news_block (newest' _ _ _)) (one30 a b) (by decide) (by unfold maxLen; omega) (by omega) (by simp; omega) (X.heap.size + 1 + 1) (by simp) ?_; intro g2 cap2 W3 hown3 hgrow3 hat3 hlt3; have R := Lib.hid (rput_zero HN.out (BC.out) (own_empty _ _ _ (newer' X _ _) (by omega)) hown3 hgrow3); clear hown3 hgrow3 hat3 hlt3) | (refine step_append_lies _ rfl (.tmp 26) (.tmp 28) 22 rfl w.heap.size 30 i0 (.agg #[.int .i64 0, .int .i64 0]) 2 16 Try.underlying22 hi hz0 hz1 hz2 rfl (by decide) (.slice (some ⟨X.heap.size + 1, 0, none⟩) 0 0) 0 [] rfl (by exact own_empty _ _ _ (newest' _ _ _) (by omega)) ⟨X.heap.size, 0, none⟩ 1 1 [.int .i64 a, .int .i64 b] rfl rfl (by exact news_block (newer' _ _ _)) (one30 a b) (by decide) (by unfold maxLen; omega) (by omega) (by simp; omega) (X.heap.size + 1 + 1) (by simp) ?_; intro g2 cap2 W3 hown3 hgrow3 hat3 hlt3; have R := Lib.hid (rput_zero HN.out (BB.out) (own_empty _ _ _ (newest' X _ _) (by omega)) hown3 hgrow3); clear hown3 hgrow3 hat3 hlt3))
            all_goals
              go_wp2
              go_ret2
              exact R.out _
        · have hpos : 0 < ks.length := List.length_pos_iff.2 hk0
          obtain ⟨bb, off, rfl, hbl, hcl⟩ := RD.out hk0
          have CL := Lib.hid hcl
          have BA : Hid (Below w.heap.size w (X.alloc (.cells #[] 30)).drew) := Lib.hid ((HB.out.alloc (by omega) _).drew)
          have BB : Hid (Below w.heap.size w ((X.alloc (.cells #[.int .i64 a, .int .i64 b] 30)).alloc (.cells #[] 30)).drew) := Lib.hid (((HB.out.alloc (by omega) _).alloc (by simp; omega) _).drew)
          have BC : Hid (Below w.heap.size w ((X.alloc (.cells #[] 30)).alloc (.cells #[.int .i64 a, .int .i64 b] 30)).drew) := Lib.hid (((HB.out.alloc (by omega) _).alloc (by simp; omega) _).drew)
          clear hcl RD
          go_region_law (first | (refine step_append_lies _ rfl (.tmp 24) (.tmp 25) 22 rfl w.heap.size 30 i0 (.agg #[.int .i64 0, .int .i64 0]) 2 16 Try.underlying22 hi hz0 hz1 hz2 rfl (by decide) (.slice (some ⟨X.heap.size, 0, none⟩) 0 0) 0 [] rfl (by exact own_empty _ _ _ (newest _ _) (by omega)) ⟨bb, off, none⟩ ks.length cap (cs ks) rfl (cs_length ks) (by exact rd_news BA.out hbl CL.out) (cs_one ks) hpos (by unfold maxLen; omega) (by omega) (by simp; omega) (X.heap.size + 1) (by simp) ?_; intro g cap' W2 hown hgrow hat hlt; have bel2 := Lib.hid (BA.out.grown hgrow (by simp; omega) (by intro k hk; simp [Value.ownBlock] at hk; omega)); simp only [Nat.zero_add, List.nil_append] at hown; have hown2 := Lib.hid hown; have hW2 : w.heap.size ≤ W2.heap.size := bel2.out.size; have yy : W2.heap[w.heap.size]? = some (.cells #[.int .i64 a, .int .i64 b] 30 (0, 0)) := (hgrow.block w.heap.size (by simp; omega) (by simp [Value.ownBlock]; omega)).trans (by first | exact (Below.heap_alloc _ _ _ (by omega)).trans BXX.out | exact (Below.heap_alloc _ _ _ (by simp; omega)).trans ((Below.heap_alloc _ _ _ (by omega)).trans BXX.out)); have y0 : W2.cell? ⟨w.heap.size, 0, none⟩ = some (.int .i64 a) := (by simp [World.cell?, yy]); have y1 : W2.cell? ⟨w.heap.size, 1, none⟩ = some (.int .i64 b) := (by simp [World.cell?, yy]); clear yy;  clear hown hgrow hat hlt) | (refine step_append_lies _ rfl (.tmp 24) (.tmp 25) 22 rfl w.heap.size 30 i0 (.agg #[.int .i64 0, .int .i64 0]) 2 16 Try.underlying22 hi hz0 hz1 hz2 rfl (by decide) (.slice (some ⟨X.heap.size + 1, 0, none⟩) 0 0) 0 [] rfl (by exact own_empty _ _ _ (newest' _ _ _) (by omega)) ⟨bb, off, none⟩ ks.length cap (cs ks) rfl (cs_length ks) (by exact rd_news BB.out hbl CL.out) (cs_one ks) hpos (by unfold maxLen; omega) (by omega) (by simp; omega) (X.heap.size + 1 + 1) (by simp) ?_; intro g cap' W2 hown hgrow hat hlt; have bel2 := Lib.hid (BB.out.grown hgrow (by simp; omega) (by intro k hk; simp [Value.ownBlock] at hk; omega)); simp only [Nat.zero_add, List.nil_append] at hown; have hown2 := Lib.hid hown; have hW2 : w.heap.size ≤ W2.heap.size := bel2.out.size; have yy : W2.heap[w.heap.size]? = some (.cells #[.int .i64 a, .int .i64 b] 30 (0, 0)) := (hgrow.block w.heap.size (by simp; omega) (by simp [Value.ownBlock]; omega)).trans (by first | exact (Below.heap_alloc _ _ _ (by omega)).trans BXX.out | exact (Below.heap_alloc _ _ _ (by simp; omega)).trans ((Below.heap_alloc _ _ _ (by omega)).trans BXX.out)); have y0 : W2.cell? ⟨w.heap.size, 0, none⟩ = some (.int .i64 a) := (by simp [World.cell?, yy]); have y1 : W2.cell? ⟨w.heap.size, 1, none⟩ = some (.int .i64 b) := (by simp [World.cell?, yy]); clear yy; have kk : Hid (W2.heap[X.heap.size]? = some (.cells #[.int .i64 a, .int .i64 b] 30 (0, 0))) := Lib.hid ((hgrow.block X.heap.size (by simp; omega) (by simp [Value.ownBlock])).trans (newer' X _ _)); clear hown hgrow hat hlt) | (refine step_append_lies _ rfl (.tmp 24) (.tmp 25) 22 rfl w.heap.size 30 i0 (.agg #[.int .i64 0, .int .i64 0]) 2 16 Try.underlying22 hi hz0 hz1 hz2 rfl (by decide) (.slice (some ⟨X.heap.size, 0, none⟩) 0 0) 0 [] rfl (by exact own_empty _ _ _ (newer' _ _ _) (by omega)) ⟨bb, off, none⟩ ks.length cap (cs ks) rfl (cs_length ks) (by exact rd_news BC.out hbl CL.out) (cs_one ks) hpos (by unfold maxLen; omega) (by omega) (by simp; omega) (X.heap.size + 1 + 1) (by simp) ?_; intro g cap' W2 hown hgrow hat hlt; have bel2 := Lib.hid (BC.out.grown hgrow (by simp; omega) (by intro k hk; simp [Value.ownBlock] at hk; omega)); simp only [Nat.zero_add, List.nil_append] at hown; have hown2 := Lib.hid hown; have hW2 : w.heap.size ≤ W2.heap.size := bel2.out.size; have yy : W2.heap[w.heap.size]? = some (.cells #[.int .i64 a, .int .i64 b] 30 (0, 0)) := (hgrow.block w.heap.size (by simp; omega) (by simp [Value.ownBlock]; omega)).trans (by first | exact (Below.heap_alloc _ _ _ (by omega)).trans BXX.out | exact (Below.heap_alloc _ _ _ (by simp; omega)).trans ((Below.heap_alloc _ _ _ (by omega)).trans BXX.out)); have y0 : W2.cell? ⟨w.heap.size, 0, none⟩ = some (.int .i64 a) := (by simp [World.cell?, yy]); have y1 : W2.cell? ⟨w.heap.size, 1, none⟩ = some (.int .i64 b) := (by simp [World.cell?, yy]); clear yy; have kk : Hid (W2.heap[X.heap.size + 1]? = some (.cells #[.int .i64 a, .int .i64 b] 30 (0, 0))) := Lib.hid ((hgrow.block (X.heap.size + 1) (by simp) (by simp [Value.ownBlock])).trans (newest' X _ _)); clear hown hgrow hat hlt) | (refine step_append_lies _ rfl (.tmp 26) (.tmp 28) 22 rfl w.heap.size 30 i0 (.agg #[.int .i64 0, .int .i64 0]) 2 16 Try.underlying22 hi hz0 hz1 hz2 rfl (by decide) (.slice (some ⟨g, 0, none⟩) ks.length cap') ks.length (cs ks) rfl (by exact hown2.out.alloc _) ⟨W2.heap.size, 0, none⟩ 1 1 [.int .i64 a, .int .i64 b] rfl rfl (by exact news_block (newest W2 _)) (one30 a b) (by decide) (by unfold maxLen; omega) (by omega) (by first | omega | (simp; omega)) (W2.heap.size + 1) (by simp) ?_; intro g2 cap2 W3 hown3 hgrow3 hat3 hlt3; have R := Lib.hid (rput_last (v := .slice (some ⟨bb, off, none⟩) ks.length cap) HN.out h64 (bel2.out.alloc hW2 _) (hown2.out.alloc _) hown3 hgrow3); clear hown3 hgrow3 hat3 hlt3) | (refine step_append_lies _ rfl (.tmp 26) (.tmp 28) 22 rfl w.heap.size 30 i0 (.agg #[.int .i64 0, .int .i64 0]) 2 16 Try.underlying22 hi hz0 hz1 hz2 rfl (by decide) (.slice (some ⟨g, 0, none⟩) ks.length cap') ks.length (cs ks) rfl (by exact hown2.out) ⟨X.heap.size, 0, none⟩ 1 1 [.int .i64 a, .int .i64 b] rfl rfl (by exact news_block (kk.out)) (one30 a b) (by decide) (by unfold maxLen; omega) (by omega) (by omega) (W2.heap.size) rfl ?_; intro g2 cap2 W3 hown3 hgrow3 hat3 hlt3; have R := Lib.hid (rput_last (v := .slice (some ⟨bb, off, none⟩) ks.length cap) HN.out h64 (bel2.out) (hown2.out) hown3 hgrow3); clear hown3 hgrow3 hat3 hlt3) | (refine step_append_lies _ rfl (.tmp 26) (.tmp 28) 22 rfl w.heap.size 30 i0 (.agg #[.int .i64 0, .int .i64 0]) 2 16 Try.underlying22 hi hz0 hz1 hz2 rfl (by decide) (.slice (some ⟨g, 0, none⟩) ks.length cap') ks.length (cs ks) rfl (by exact hown2.out) ⟨X.heap.size + 1, 0, none⟩ 1 1 [.int .i64 a, .int .i64 b] rfl rfl (by exact news_block (kk.out)) (one30 a b) (by decide) (by unfold maxLen; omega) (by omega) (by omega) (W2.heap.size) rfl ?_; intro g2 cap2 W3 hown3 hgrow3 hat3 hlt3; have R := Lib.hid (rput_last (v := .slice (some ⟨bb, off, none⟩) ks.length cap) HN.out h64 (bel2.out) (hown2.out) hown3 hgrow3); clear hown3 hgrow3 hat3 hlt3))
          all_goals
            go_wp2
            go_ret2
            exact R.out
      · have h64' : (64 : Int) ≤ ks.length := by omega
        go_wp2
        go_ret2
        exact ⟨below_drewN BX.out.below _, .inl ⟨rfl, fun h => h64 h.2⟩⟩
end Go.Proofs.Ytpanakfbbdeihaa
