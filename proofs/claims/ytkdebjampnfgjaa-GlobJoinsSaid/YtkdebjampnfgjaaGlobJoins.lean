/-
  PROVED: 'Rows.GlobJoinsSaid': for every two patterns and two texts that 'GlobJoins' is called with, it returns true. No conditions.
-/
import Derived.Test.YtkdebjampnfgjaaLive
import Derived.ProofKit
import Derived.OpenShut
import Derived.ShutString
import Derived.ChangeOld
namespace Go.Proofs.Ytkdebjampnfgjaa.globJoins
open Go.ChangeShapes Go.WideShapes Go.ChangeAt Go.RowKit
open Go.ChangeMaps (open_string shut_string)
set_option linter.unusedVariables false

theorem own : ownKnob Try.prog.godebug = none := by kernel_rfl
theorem laidOut : laidOutB Try.prog = true := by kernel_rfl

/-- The two boxes. -/
structure Boxes (B : Nat) (p0 p1 s0 s1 : ByteArray) (w : World) : Prop where
  a : w.cell? ⟨B, 0, none⟩ = some (.string p0)
  b : w.cell? ⟨B, 1, none⟩ = some (.string p1)
  c : w.cell? ⟨B + 1, 0, none⟩ = some (.string s0)
  d : w.cell? ⟨B + 1, 1, none⟩ = some (.string s1)
theorem Boxes.start (w : World) (p0 p1 s0 s1 : ByteArray) : Boxes w.heap.size p0 p1 s0 s1 ((w.alloc (.cells #[.string p0, .string p1] 27)).alloc (.cells #[.string s0, .string s1] 27)) := by
  have h1 : ((w.alloc (.cells #[.string p0, .string p1] 27)).alloc (.cells #[.string s0, .string s1] 27)).heap[w.heap.size]? = some (.cells #[.string p0, .string p1] 27 (0, 0)) :=
    (Below.heap_alloc _ _ _ (by simp)).trans (newest w _)
  have h2 : ((w.alloc (.cells #[.string p0, .string p1] 27)).alloc (.cells #[.string s0, .string s1] 27)).heap[w.heap.size + 1]? = some (.cells #[.string s0, .string s1] 27 (0, 0)) := by
    simpa using newest (w.alloc (.cells #[.string p0, .string p1] 27)) (.cells #[.string s0, .string s1] 27)
  have e1 : ∀ (Y : World) (b i : Nat) (c : Array Value) (u : Value), Y.heap[b]? = some (.cells c 27 (0, 0)) → c[i]? = some u → Y.cell? ⟨b, i, none⟩ = some u := fun Y b i c u h k => by simp [World.cell?, h, k]
  exact ⟨e1 _ _ _ _ _ h1 rfl, e1 _ _ _ _ _ h1 rfl, e1 _ _ _ _ _ h2 rfl, e1 _ _ _ _ _ h2 rfl⟩
theorem Boxes.below {B : Nat} {p0 p1 s0 s1 : ByteArray} {w w' : World} (h : Boxes B p0 p1 s0 s1 w) (hb : Below w.heap.size w w') : Boxes B p0 p1 s0 s1 w' :=
  ⟨(hb.cell (p := ⟨B, 0, none⟩) (World.block_lt_of_cell? w _ h.a)).trans h.a, (hb.cell (p := ⟨B, 1, none⟩) (World.block_lt_of_cell? w _ h.b)).trans h.b, (hb.cell (p := ⟨B + 1, 0, none⟩) (World.block_lt_of_cell? w _ h.c)).trans h.c, (hb.cell (p := ⟨B + 1, 1, none⟩) (World.block_lt_of_cell? w _ h.d)).trans h.d⟩

theorem size_one (c : UInt8) : (⟨#[c]⟩ : ByteArray).size = 1 := rfl
theorem match_wrap {p s : ByteArray} {b : Bool} (hp : p.size ≤ 30) (hs : s.size ≤ 40) (h : globB (37 :: (folded p ++ [37])) (folded s) = b) (w : World) :
    Calls Try.prog 7 #[.string (⟨#[37]⟩ ++ p ++ ⟨#[37]⟩), .string s] w fun e w' => e = .returned (.bool b) ∧ Below w.heap.size w w' :=
  match_b (by rw [ByteArray.size_append, ByteArray.size_append, size_one]; omega) (by omega) (by rw [folded_wrap]; exact h) w
theorem match_join {p q s t : ByteArray} (hp : p.size ≤ 30) (hq : q.size ≤ 30) (hs : s.size ≤ 40) (ht : t.size ≤ 40) (h : globB (folded p) (folded s) = true) (k : globB (folded q) (folded t) = true) (w : World) :
    Calls Try.prog 7 #[.string (p ++ ⟨#[37]⟩ ++ q), .string (s ++ ⟨#[124]⟩ ++ t)] w fun e w' => e = .returned (.bool true) ∧ Below w.heap.size w w' :=
  match_b (by rw [ByteArray.size_append, ByteArray.size_append, size_one]; omega) (by rw [ByteArray.size_append, ByteArray.size_append, size_one]; omega)
    (by
      rw [folded_mid 37 (by decide) (by decide), folded_mid 124 (by decide) (by decide)]
      exact (globB_iff _ _).2 (Mt_join _ _ _ _ _ ((globB_iff _ _).1 h) ((globB_iff _ _).1 k))) w
theorem match_many {s : ByteArray} (hs : s.size ≤ 40) (w : World) : Calls Try.prog 7 #[.string ⟨#[37]⟩, .string s] w fun e w' => e = .returned (.bool true) ∧ Below w.heap.size w w' :=
  match_b (by rw [size_one]; omega) (by omega) (by rw [folded_many]; exact (globB_iff _ _).2 (Mt_all _)) w

set_option maxHeartbeats 4000000 in
theorem walk (p0 p1 s0 s1 : ByteArray) (w : World) :
    Calls Try.prog 4 #[.agg #[.string p0, .string p1], .agg #[.string s0, .string s1]] w fun e w' => e = .returned (.bool true) ∧ Below w.heap.size w w' := by
  have LV := Lib.hid (fun w => live_any w)
  obtain ⟨X, hX⟩ : ∃ X, (w.alloc (.cells #[.string p0, .string p1] 27)).alloc (.cells #[.string s0, .string s1] 27) = X := ⟨_, rfl⟩
  have BX := Lib.hid (hX ▸ ((Below.refl _ w).alloc (Nat.le_refl _) _).alloc (by simp) _ : Below w.heap.size w X)
  have bx : Boxes w.heap.size p0 p1 s0 s1 X := hX ▸ Boxes.start w p0 p1 s0 s1
  have BXS := Lib.hid bx
  obtain ⟨x0, x1, x2, x3⟩ := bx
  go_enter Try.func4, Try.ntmps4
  by_cases h1 : p0.size ≤ 30
  rotate_left
  · have h' : (30 : Int) < p0.size := by omega
    have BB := BX
    go_wp2_with fail
    refine (LV.out _).mono ?_
    rintro e w2 ⟨rfl, b2⟩
    have B2 := Lib.hid (BB.out.trans (b2.mono BB.out.size))
    clear b2
    go_wp2
    go_ret
    exact ⟨rfl, B2.out⟩
  have g1 : (p0.size : Int) ≤ 30 := by omega
  by_cases h2 : p1.size ≤ 30
  rotate_left
  · have h' : (30 : Int) < p1.size := by omega
    have BB := BX
    go_wp2_with fail
    refine (LV.out _).mono ?_
    rintro e w2 ⟨rfl, b2⟩
    have B2 := Lib.hid (BB.out.trans (b2.mono BB.out.size))
    clear b2
    go_wp2
    go_ret
    exact ⟨rfl, B2.out⟩
  have g2 : (p1.size : Int) ≤ 30 := by omega
  by_cases h3 : s0.size ≤ 40
  rotate_left
  · have h' : (40 : Int) < s0.size := by omega
    have BB := BX
    go_wp2_with fail
    refine (LV.out _).mono ?_
    rintro e w2 ⟨rfl, b2⟩
    have B2 := Lib.hid (BB.out.trans (b2.mono BB.out.size))
    clear b2
    go_wp2
    go_ret
    exact ⟨rfl, B2.out⟩
  have g3 : (s0.size : Int) ≤ 40 := by omega
  by_cases h4 : s1.size ≤ 40
  rotate_left
  · have h' : (40 : Int) < s1.size := by omega
    have BB := BX
    go_wp2_with fail
    refine (LV.out _).mono ?_
    rintro e w2 ⟨rfl, b2⟩
    have B2 := Lib.hid (BB.out.trans (b2.mono BB.out.size))
    clear b2
    go_wp2
    go_ret
    exact ⟨rfl, B2.out⟩
  have g4 : (s1.size : Int) ≤ 40 := by omega
  have MM := Lib.hid (fun w => match_many h3 w)
  go_wp2_with fail
  refine (MM.out _).mono ?_
  rintro e w1 ⟨rfl, b1⟩
  have B1 := Lib.hid (BX.out.trans (b1.mono BX.out.size))
  have C1 := Lib.hid (BXS.out.below b1)
  clear hX
  obtain ⟨y0, y1, y2, y3⟩ := C1.out
  clear b1 x0 x1 x2 x3
  have M0 := Lib.hid (fun (b : Bool) (h : globB (folded p0) (folded s0) = b) (w : World) => match_b (by omega) (by omega) h w)
  have M1 := Lib.hid (fun (b : Bool) (h : globB (folded p1) (folded s1) = b) (w : World) => match_b (by omega) (by omega) h w)
  have MW := Lib.hid (fun (b : Bool) (h : globB (37 :: (folded p0 ++ [37])) (folded s0) = b) (w : World) => match_wrap h1 h3 h w)
  cases hc0 : globB (folded p0) (folded s0) with
  | false =>
    have M0 := Lib.hid (M0.out _ hc0)
    cases hb1 : globB (37 :: (folded p0 ++ [37])) (folded s0) with
    | false =>
      have MW := Lib.hid (MW.out _ hb1)
      go_wp2_with fail
      refine (MW.out _).mono ?_
      rintro e w2 ⟨rfl, b2⟩
      have B2 := Lib.hid (B1.out.trans (b2.mono B1.out.size))
      have C2 := Lib.hid (C1.out.below b2)
      clear y0 y1 y2 y3
      obtain ⟨y0, y1, y2, y3⟩ := C2.out
      clear b2
      go_wp2_with fail
      refine (M0.out _).mono ?_
      rintro e w3 ⟨rfl, b3⟩
      have B3 := Lib.hid (B2.out.trans (b3.mono B2.out.size))
      have C3 := Lib.hid (C2.out.below b3)
      clear y0 y1 y2 y3
      obtain ⟨y0, y1, y2, y3⟩ := C3.out
      clear b3
      go_wp2_with fail
      refine (M0.out _).mono ?_
      rintro e w4 ⟨rfl, b4⟩
      have B4 := Lib.hid (B3.out.trans (b4.mono B3.out.size))
      have C4 := Lib.hid (C3.out.below b4)
      clear y0 y1 y2 y3
      obtain ⟨y0, y1, y2, y3⟩ := C4.out
      clear b4
      go_wp2_with fail
      refine (LV.out _).mono ?_
      rintro e wz ⟨rfl, bz⟩
      have BZ := Lib.hid (B4.out.trans (bz.mono B4.out.size))
      clear bz
      go_wp2
      go_ret
      exact ⟨rfl, BZ.out⟩
    | true =>
      have MW := Lib.hid (MW.out _ hb1)
      go_wp2_with fail
      refine (MW.out _).mono ?_
      rintro e w2 ⟨rfl, b2⟩
      have B2 := Lib.hid (B1.out.trans (b2.mono B1.out.size))
      have C2 := Lib.hid (C1.out.below b2)
      clear y0 y1 y2 y3
      obtain ⟨y0, y1, y2, y3⟩ := C2.out
      clear b2
      go_wp2_with fail
      refine (M0.out _).mono ?_
      rintro e w4 ⟨rfl, b4⟩
      have B4 := Lib.hid (B2.out.trans (b4.mono B2.out.size))
      have C4 := Lib.hid (C2.out.below b4)
      clear y0 y1 y2 y3
      obtain ⟨y0, y1, y2, y3⟩ := C4.out
      clear b4
      go_wp2_with fail
      refine (LV.out _).mono ?_
      rintro e wz ⟨rfl, bz⟩
      have BZ := Lib.hid (B4.out.trans (bz.mono B4.out.size))
      clear bz
      go_wp2
      go_ret
      exact ⟨rfl, BZ.out⟩
  | true =>
    have hb1 : globB (37 :: (folded p0 ++ [37])) (folded s0) = true := (globB_iff _ _).2 (Mt_wrap _ _ ((globB_iff _ _).1 hc0))
    have M0 := Lib.hid (M0.out _ hc0)
    have MW := Lib.hid (MW.out _ hb1)
    go_wp2_with fail
    refine (MW.out _).mono ?_
    rintro e w2 ⟨rfl, b2⟩
    have B2 := Lib.hid (B1.out.trans (b2.mono B1.out.size))
    have C2 := Lib.hid (C1.out.below b2)
    clear y0 y1 y2 y3
    obtain ⟨y0, y1, y2, y3⟩ := C2.out
    clear b2
    go_wp2_with fail
    refine (M0.out _).mono ?_
    rintro e w4 ⟨rfl, b4⟩
    have B4 := Lib.hid (B2.out.trans (b4.mono B2.out.size))
    have C4 := Lib.hid (C2.out.below b4)
    clear y0 y1 y2 y3
    obtain ⟨y0, y1, y2, y3⟩ := C4.out
    clear b4
    cases hc1 : globB (folded p1) (folded s1) with
    | false =>
      have M1 := Lib.hid (M1.out _ hc1)
      go_wp2_with fail
      refine (M1.out _).mono ?_
      rintro e w5 ⟨rfl, b5⟩
      have B5 := Lib.hid (B4.out.trans (b5.mono B4.out.size))
      have C5 := Lib.hid (C4.out.below b5)
      clear y0 y1 y2 y3
      obtain ⟨y0, y1, y2, y3⟩ := C5.out
      clear b5
      go_wp2_with fail
      refine (LV.out _).mono ?_
      rintro e wz ⟨rfl, bz⟩
      have BZ := Lib.hid (B5.out.trans (bz.mono B5.out.size))
      clear bz
      go_wp2
      go_ret
      exact ⟨rfl, BZ.out⟩
    | true =>
      have M1 := Lib.hid (M1.out _ hc1)
      have MJ := Lib.hid (fun w => match_join h1 h2 h3 h4 hc0 hc1 w)
      go_wp2_with fail
      refine (M1.out _).mono ?_
      rintro e w5 ⟨rfl, b5⟩
      have B5 := Lib.hid (B4.out.trans (b5.mono B4.out.size))
      have C5 := Lib.hid (C4.out.below b5)
      clear y0 y1 y2 y3
      obtain ⟨y0, y1, y2, y3⟩ := C5.out
      clear b5
      go_wp2_with fail
      refine (MJ.out _).mono ?_
      rintro e w6 ⟨rfl, b6⟩
      have B6 := Lib.hid (B5.out.trans (b6.mono B5.out.size))
      have C6 := Lib.hid (C5.out.below b6)
      clear y0 y1 y2 y3
      obtain ⟨y0, y1, y2, y3⟩ := C6.out
      clear b6
      go_wp2_with fail
      refine (LV.out _).mono ?_
      rintro e wz ⟨rfl, bz⟩
      have BZ := Lib.hid (B6.out.trans (bz.mono B6.out.size))
      clear bz
      go_wp2
      go_ret
      exact ⟨rfl, BZ.out⟩

/-- Two texts that came in. -/
theorem open_two {H : Type} {enc : TypeId × Value → H} {W : World} {base : Nat} {v : Value} {d : DataW H} {pl : List MemPlace} (hv : Value.okWide Try.prog W .any base 27 v) (h : DataW.Trod enc Try.prog W 0 (fun _ => true) true 27 v d pl) : ∃ a b, v = .agg #[.string a, .string b] := by
  obtain ⟨cs, rfl, hsz, _⟩ : ∃ cs, v = .agg cs ∧ cs.size = Try.prog.cellsOf 27 ∧ Row.okWide Try.prog W .any base 27 cs := by
    simpa [Value.okWide, Try.underlying27] using hv
  have c27 : Try.prog.cellsOf 27 = 2 := by kernel_rfl
  have c9 : Try.prog.cellsOf 9 = 1 := by kernel_rfl
  rw [c27] at hsz
  obtain ⟨l⟩ := cs
  match l, hsz with
  | [c0, c1], _ =>
    obtain ⟨fuel, hf⟩ := h
    obtain ⟨xs, m, _, _, _, hl, hg⟩ := DataW.trod_array Try.underlying27 hf
    match xs, hl with
    | [z0, z1], _ =>
      have f0 := hg 0 (by omega)
      have f1 := hg 1 (by omega)
      simp [c9, Value.cells] at f0 f1
      obtain ⟨a, e0, _⟩ := DataW.trod_string Try.underlying9 f0
      obtain ⟨b, e1, _⟩ := DataW.trod_string Try.underlying9 f1
      simp at e0 e1
      exact ⟨a, b, by rw [e0, e1]⟩

set_option maxRecDepth 100000 in
theorem lifted (os : Os) (started : os.Started) (H : Type) (enc : TypeId × Value → H) :
    ReturnsInHanded {} Try.checked os 4 .any (Rows.globJoinsSpec.pre6 enc Try.prog Try.f4 Rows.globJoinsRow.domain false) (Rows.globJoinsSpec.post enc Try.prog Try.f4 false true false false) := by
  refine returnsInHanded_of_change (C := Try.checked) own started (by kernel_rfl) Try.func4
    (ChangeSpec.witness6 (enc := enc) (C := Try.checked) false ⟨#[], #[.agg #[.string ByteArray.empty, .string ByteArray.empty], .agg #[.string ByteArray.empty, .string ByteArray.empty]], []⟩ 8 (by kernel_rfl) (by kernel_rfl) (by kernel_rfl) (by kernel_rfl)) ?_
  intro W base args ds gs before hval0 hW hcnd _
  have hval : ∀ (j : Nat) t v, Try.f4.params[j]? = some t → args[j]? = some v → Value.okWide Try.prog W .any base t v := hval0
  have hW' := hW
  obtain ⟨p, q, hA0, hV, rfl, hfz, hnd⟩ := hW
  have hA : DataW.TrodAll enc Try.prog W 0 (fun _ => true) true Try.f4.params.toList args.toList ds p := hA0
  rw [Try.params4] at hA hval
  obtain ⟨v0, vs0, d0, ds0, p0, q0, hargs, rfl, rfl, h0, r0⟩ := trodAll_cons hA
  obtain ⟨v1, vs1, d1, ds1, p1, q1, rfl, rfl, rfl, h1, r1⟩ := trodAll_cons r0
  obtain ⟨rfl, rfl, rfl⟩ := trodAll_nil r1
  obtain rfl : args = #[v0, v1] := by cases args; simp_all
  obtain ⟨rfl, rfl⟩ := trodVars_none hV
  have k0 := h0
  have lt0 : ∀ x ∈ p0, x.block < W.heap.size := by obtain ⟨m, hm⟩ := k0; exact DataW.trod_lt m _ _ _ hm
  have k1 := h1
  have lt1 : ∀ x ∈ p1, x.block < W.heap.size := by obtain ⟨m, hm⟩ := k1; exact DataW.trod_lt m _ _ _ hm
  obtain ⟨x0, x1, rfl⟩ := open_two (hval 0 27 v0 rfl rfl) h0
  obtain ⟨y0, y1, rfl⟩ := open_two (hval 1 27 v1 rfl rfl) h1
  clear hA0 hval0
  refine (walk x0 x1 y0 y1 W).mono fun e W' ⟨he, bel⟩ => ?_
  subst he
  exact ⟨_, rfl, _, _, _, [], _, [], hW', trodAll_mk1 (shut_bool Try.underlying4 _), (trodAll_cons_mk (Below.trod laidOut (by kernel_rfl) (of_decide_eq_true (by kernel_rfl)) k0 bel lt0) (trodAll_cons_mk (Below.trod laidOut (by kernel_rfl) (of_decide_eq_true (by kernel_rfl)) k1 bel lt1) trodAll_mk0)), rfl, bel.frame _, fun h => by cases h⟩

theorem over : Rows.globJoinsRow.holds Try.pinned (OpenSpec.ofChange Rows.globJoinsSpec) :=
  OpenClaim.holds_of_wide 4 Try.f4 rfl rfl rfl rfl rfl rfl rfl ⟨rfl, rfl, rfl, rfl, rfl⟩ rfl rfl rfl rfl rfl (by kernel_rfl) Try.func4 (by kernel_rfl)
    (of_decide_eq_true (by kernel_rfl)) (by unfold Func.isWrapper; first | (rw [if_pos (by decide +kernel)]; kernel_rfl) | (rw [if_neg (by decide +kernel)]; exact ⟨rfl, rfl⟩))
    (fun os started H enc _ => lifted os started H enc)

/-- THE STATEMENT. -/
theorem proved : Rows.GlobJoinsSaid := over
#print axioms proved
end Go.Proofs.Ytkdebjampnfgjaa.globJoins
