/-
  PROVED: 'Rows.WaitNilSaid': for every key and every int that 'WaitNil' is called with, it returns true. No conditions.
-/
import Derived.Test.YtpanakfbbdeihaaNil
import Derived.ProofKit
import Derived.OpenShut
import Derived.ShutString
import Derived.ChangeOld
import Derived.Lib.SmallJoins
namespace Go.Proofs.Ytpanakfbbdeihaa.waitNil
open Go.ChangeShapes Go.WideShapes Go.ChangeAt Go.RowKit
open Go.ChangeMaps (open_string shut_string)
set_option linter.unusedVariables false

theorem own : ownKnob Try.prog.godebug = none := by kernel_rfl
theorem laidOut : laidOutB Try.prog = true := by kernel_rfl

/-- The first n keys that the statement puts. -/
def firsts (n : Nat) : List Key := (List.range n).map fun (i : Nat) => ((i : Int), (0 : Int))
theorem firsts_succ (n : Nat) : firsts (n + 1) = firsts n ++ [((n : Int), 0)] := by simp [firsts, List.range_succ]
theorem firsts_length (n : Nat) : (firsts n).length = n := by simp [firsts]
theorem firsts_new (n m : Nat) (h : n ≤ m) : ((m : Int), (0 : Int)) ∉ firsts n := by
  simp [firsts]
  intro x hx
  omega

def PutLoop (B : Nat) (w0 : World) (Q M : Nat) (i : Value) (w : World) : Prop := ∃ (j : Nat) (v : Value), i = .int .i64 j ∧ j ≤ 64 ∧ QAt B w Q M v (firsts j) ∧ Below B w0 w

set_option maxHeartbeats 2000000 in
theorem walk (a b n : Int) (w : World) : Calls Try.prog 5 #[.agg #[.int .i64 a, .int .i64 b], .int .i64 n] w fun e w' => e = .returned (.bool true) ∧ Below w.heap.size w w' := by
  have L := Lib.hid (fun v : World => live_any v)
  obtain ⟨W, hW, bx⟩ := boxed30 w a b
  have BX := Lib.hid bx
  have hWs : W.heap.size = w.heap.size + 1 := bx.size
  clear bx
  go_enter Try.func5, Try.ntmps5
  go_wp2_with fail
  go_loopw [5] (fun i wr => ∃ j : Nat, i = .int .i64 j ∧ j ≤ 2 ∧ Below W.heap.size W wr) (fun i _ => 2 - (intOf i).toNat)
  case atStart => exact ⟨0, rfl, by omega, Below.refl _ _⟩
  case round =>
    clear hW
    obtain ⟨j, rfl, hj, hb⟩ := hrel
    have HB := Lib.hid hb
    have bx : wr.heap[w.heap.size]? = some (.cells #[.int .i64 a, .int .i64 b] 30 (0, 0)) := (hb.block _ (by omega)).trans BX.out.block
    have hBs := hb.size
    clear hb
    have BXR := Lib.hid bx
    clear bx
    by_cases hlt : j < 2
    · have C1 := Lib.hid (fun p v (h : NoQ v p) => pop_no h)
      have C2 := Lib.hid (fun p v (h : NoQ v p) x y => put_no h x y)
      have C3 := Lib.hid (fun p v (h : NoQ v p) x => drop_no h x)
      have C4 := Lib.hid (fun p v (h : NoQ v p) => len_no h)
      have C5 := Lib.hid (fun p v (h : NoQ v p) x => batch_no h x)
      rcases (show j = 0 ∨ j = 1 by omega) with rfl | rfl
      · have NQ : Hid (NoQ wr (.pointer none)) := Lib.hid (.inl rfl)
        have BR := HB
        have hR := hBs
        go_wp2_with fail
        refine (C1.out _ _ NQ.out).mono ?_
        rintro e w2 ⟨rfl, hb2⟩
        have NQ2 := Lib.hid (NQ.out.below hb2)
        have B2 := Lib.hid (BR.out.trans (hb2.mono hR))
        have b0 : w2.cell? ⟨w.heap.size, 0, none⟩ = some (.int .i64 a) := (B2.out.cell (p := ⟨w.heap.size, 0, none⟩) (by show w.heap.size < _; omega)).trans (by simp [World.cell?, BX.out.block])
        have b1 : w2.cell? ⟨w.heap.size, 1, none⟩ = some (.int .i64 b) := (B2.out.cell (p := ⟨w.heap.size, 1, none⟩) (by show w.heap.size < _; omega)).trans (by simp [World.cell?, BX.out.block])
        have hws2 : W.heap.size ≤ w2.heap.size := B2.out.size
        have hwlt : w.heap.size < w2.heap.size := by omega
        clear hb2
        go_wp2_with fail
        refine (key_any _ _ _).mono ?_
        rintro e w3 ⟨rfl, hb3⟩
        have hb3' : Below w2.heap.size w2 w3 := ((Below.refl _ w2).alloc (Nat.le_refl _) _).trans (hb3.mono (by simp))
        have NQ3 := Lib.hid (NQ2.out.below hb3')
        have B3 := Lib.hid (B2.out.trans (hb3'.mono hws2))
        have hws3 : W.heap.size ≤ w3.heap.size := B3.out.size
        clear hb3 hb3' b0 b1
        go_wp2_with fail
        refine (C2.out _ _ NQ3.out _ _).mono ?_
        rintro e w4 ⟨rfl, hb4⟩
        have NQ4 := Lib.hid (NQ3.out.below hb4)
        have B4 := Lib.hid (B3.out.trans (hb4.mono hws3))
        have hws4 : W.heap.size ≤ w4.heap.size := B4.out.size
        clear hb4
        go_wp2_with fail
        refine (C3.out _ _ NQ4.out _).mono ?_
        rintro e w5 ⟨rfl, hb5⟩
        have NQ5 := Lib.hid (NQ4.out.below hb5)
        have B5 := Lib.hid (B4.out.trans (hb5.mono hws4))
        clear hb5
        go_wp2_with fail
        refine (C4.out _ _ NQ5.out).mono ?_
        rintro e w6 ⟨rfl, rfl⟩
        go_wp2_with fail
        refine (C5.out _ _ NQ5.out _).mono ?_
        rintro e w6 ⟨rfl, rfl⟩
        go_wp2
        go_roundw
        case rel => exact ⟨1, by go_num, by omega, B5.out⟩
        case measure => simp [intOf]
      · obtain ⟨V, hV⟩ : ∃ V, wr.alloc (.cells #[.slice none 0 0, .map none] 50) = V := ⟨_, rfl⟩
        have NQ : Hid (NoQ V (.pointer (some ⟨wr.heap.size, 0, none⟩))) := Lib.hid (.inr ⟨_, rfl, hV ▸ newest _ _⟩)
        have BR : Hid (Below W.heap.size W V) := Lib.hid (hV ▸ HB.out.alloc hBs _)
        have hR : W.heap.size ≤ V.heap.size := BR.out.size
        go_wp2_with fail
        clear hV
        refine (C1.out _ _ NQ.out).mono ?_
        rintro e w2 ⟨rfl, hb2⟩
        have NQ2 := Lib.hid (NQ.out.below hb2)
        have B2 := Lib.hid (BR.out.trans (hb2.mono hR))
        have b0 : w2.cell? ⟨w.heap.size, 0, none⟩ = some (.int .i64 a) := (B2.out.cell (p := ⟨w.heap.size, 0, none⟩) (by show w.heap.size < _; omega)).trans (by simp [World.cell?, BX.out.block])
        have b1 : w2.cell? ⟨w.heap.size, 1, none⟩ = some (.int .i64 b) := (B2.out.cell (p := ⟨w.heap.size, 1, none⟩) (by show w.heap.size < _; omega)).trans (by simp [World.cell?, BX.out.block])
        have hws2 : W.heap.size ≤ w2.heap.size := B2.out.size
        have hwlt : w.heap.size < w2.heap.size := by omega
        clear hb2
        go_wp2_with fail
        refine (key_any _ _ _).mono ?_
        rintro e w3 ⟨rfl, hb3⟩
        have hb3' : Below w2.heap.size w2 w3 := ((Below.refl _ w2).alloc (Nat.le_refl _) _).trans (hb3.mono (by simp))
        have NQ3 := Lib.hid (NQ2.out.below hb3')
        have B3 := Lib.hid (B2.out.trans (hb3'.mono hws2))
        have hws3 : W.heap.size ≤ w3.heap.size := B3.out.size
        clear hb3 hb3' b0 b1
        go_wp2_with fail
        refine (C2.out _ _ NQ3.out _ _).mono ?_
        rintro e w4 ⟨rfl, hb4⟩
        have NQ4 := Lib.hid (NQ3.out.below hb4)
        have B4 := Lib.hid (B3.out.trans (hb4.mono hws3))
        have hws4 : W.heap.size ≤ w4.heap.size := B4.out.size
        clear hb4
        go_wp2_with fail
        refine (C3.out _ _ NQ4.out _).mono ?_
        rintro e w5 ⟨rfl, hb5⟩
        have NQ5 := Lib.hid (NQ4.out.below hb5)
        have B5 := Lib.hid (B4.out.trans (hb5.mono hws4))
        clear hb5
        go_wp2_with fail
        refine (C4.out _ _ NQ5.out).mono ?_
        rintro e w6 ⟨rfl, rfl⟩
        go_wp2_with fail
        refine (C5.out _ _ NQ5.out _).mono ?_
        rintro e w6 ⟨rfl, rfl⟩
        go_wp2
        go_roundw
        case rel => exact ⟨2, by go_num, by omega, B5.out⟩
        case measure => simp [intOf]
    · have N := Lib.hid (new_any wr)
      go_wp2_with fail
      refine N.out.mono ?_
      rintro e w1 ⟨Q, M, v, rfl, hq, hb1, _⟩
      have Q1 : Hid (QAt wr.heap.size w1 Q M v (firsts 0)) := Lib.hid hq
      have hs1 := hb1.size
      have B1 := Lib.hid hb1
      clear hq hb1 N
      obtain ⟨wo, rfl⟩ : ∃ wo : World, wo = wr := ⟨_, rfl⟩
      go_wp2_with fail
      go_loopw [10] (fun i wr => PutLoop wo.heap.size wo Q M i wr) (fun i _ => 64 - (intOf i).toNat)
      case atStart => exact ⟨0, v, rfl, by omega, Q1.out, B1.out⟩
      case round =>
        obtain ⟨j, v, rfl, hj, hq, hb⟩ := hrel
        have hs2 := hb.size
        have HB2 := Lib.hid hb
        have QQ := Lib.hid hq
        clear hb hq
        by_cases hlt : j < 64
        · have P := Lib.hid (put_any QQ.out (j : Int) 0)
          go_wp2_with fail
          refine P.out.mono ?_
          intro e w2 h
          have hc : ((j : Int), (0 : Int)) ∉ firsts j ∧ (firsts j).length < 64 := ⟨firsts_new j j (Nat.le_refl _), by rw [firsts_length]; exact hlt⟩
          obtain ⟨rfl, v2, q2, o2⟩ := h.to (b := true) (ls := firsts (j + 1)) (by simp [hc]) (by rw [if_pos hc, firsts_succ])
          have R2 := Lib.hid (HB2.out.trans (o2.below (fun x hx => (QQ.out.lt x hx).1) hs2))
          have Q2 := Lib.hid q2
          clear h hc q2 o2 P
          go_wp2
          go_roundw
          case rel => exact ⟨j + 1, v2, by go_num, by omega, Q2.out, R2.out⟩
          case measure => simp [intOf]; omega
        · obtain rfl : j = 64 := by omega
          have P := Lib.hid (put_any QQ.out (64 : Int) 0)
          go_wp2_with fail
          refine P.out.mono ?_
          intro e w2 h
          have hc : ¬ (((64 : Int), (0 : Int)) ∉ firsts 64 ∧ (firsts 64).length < 64) := fun h => by have := h.2; rw [firsts_length] at this; omega
          obtain ⟨rfl, v2, q2, o2⟩ := h.to (b := false) (ls := firsts 64) (by simp only [hc, decide_false]) (by rw [if_neg hc])
          have R2 := Lib.hid (HB2.out.trans (o2.below (fun x hx => (QQ.out.lt x hx).1) hs2))
          have C := Lib.hid (len_any q2)
          have hl64 := Lib.hid (firsts_length 64)
          clear h hc q2 o2 P
          go_wp2_with fail
          refine C.out.mono ?_
          rintro e w3 ⟨rfl, rfl⟩
          rw [hl64.out]
          go_wp2_with (go_at_call 6; refine (L.out _).mono ?_; rintro e w' ⟨rfl, hb2⟩)
          go_ret
          have b3 : Below W.heap.size W w2 := HB.out.trans (R2.out.mono hBs)
          exact ⟨rfl, BX.out.below.trans ((b3.mono (by omega)).trans (Below.mono (by assumption) (by have := b3.size; omega)))⟩

set_option maxRecDepth 100000 in
theorem lifted (os : Os) (started : os.Started) (H : Type) (enc : TypeId × Value → H) :
    ReturnsInHanded {} Try.checked os 5 .any (Rows.waitNilSpec.pre6 enc Try.prog Try.f5 Rows.waitNilRow.domain false) (Rows.waitNilSpec.post enc Try.prog Try.f5 false true false false) := by
  refine returnsInHanded_of_change (C := Try.checked) own started (by kernel_rfl) Try.func5
    (ChangeSpec.witness6 (enc := enc) (C := Try.checked) false ⟨#[], #[.agg #[.int .i64 0, .int .i64 0], .int .i64 0], []⟩ 8 (by kernel_rfl) (by kernel_rfl) (by kernel_rfl) (by kernel_rfl)) ?_
  intro W base args ds gs before hval0 hW hcnd _
  have hval : ∀ (j : Nat) t v, Try.f5.params[j]? = some t → args[j]? = some v → Value.okWide Try.prog W .any base t v := hval0
  have hW' := hW
  obtain ⟨p, q, hA0, hV, rfl, hfz, hnd⟩ := hW
  have hA : DataW.TrodAll enc Try.prog W 0 (fun _ => true) true Try.f5.params.toList args.toList ds p := hA0
  rw [Try.params5] at hA hval
  obtain ⟨v0, vs0, d0, ds0, p0, q0, hargs, rfl, rfl, h0, r0⟩ := trodAll_cons hA
  obtain ⟨v1, vs1, d1, ds1, p1, q1, rfl, rfl, rfl, h1, r1⟩ := trodAll_cons r0
  obtain ⟨rfl, rfl, rfl⟩ := trodAll_nil r1
  obtain rfl : args = #[v0, v1] := by cases args; simp_all
  obtain ⟨rfl, rfl⟩ := trodVars_none hV
  have k0 := h0
  have lt0 : ∀ x ∈ p0, x.block < W.heap.size := by obtain ⟨m, hm⟩ := k0; exact DataW.trod_lt m _ _ _ hm
  obtain ⟨a, b, rfl⟩ : ∃ a b : Int, v0 = .agg #[.int .i64 a, .int .i64 b] := by
    obtain ⟨c0, c1, y0, y1, m, rfl, _, _, hy0, hy1⟩ := Joins.open_agg2 Try.underlying30 (by kernel_rfl) (by kernel_rfl) (hval 0 30 v0 rfl rfl) h0
    obtain ⟨x0, e0, _, _⟩ := DataW.trod_int Try.underlying3 hy0
    obtain ⟨x1, e1, _, _⟩ := DataW.trod_int Try.underlying3 hy1
    simp at e0 e1
    exact ⟨x0, x1, by rw [e0, e1]⟩
  obtain ⟨n, rfl, rfl, rfl, w1⟩ := open_int Try.underlying3 (hval 1 3 v1 rfl rfl) h1
  clear hA0 hval0
  refine (walk a b n W).mono fun e W' ⟨he, bel⟩ => ?_
  subst he
  exact ⟨_, rfl, _, _, _, [], _, [], hW', trodAll_mk1 (shut_bool Try.underlying4 _), (trodAll_cons_mk (Below.trod laidOut (by kernel_rfl) (of_decide_eq_true (by kernel_rfl)) k0 bel lt0) (trodAll_cons_mk (shut_int Try.underlying3 w1) trodAll_mk0)), rfl, bel.frame _, fun h => by cases h⟩

theorem over : Rows.waitNilRow.holds Try.pinned (OpenSpec.ofChange Rows.waitNilSpec) :=
  OpenClaim.holds_of_wide 5 Try.f5 rfl rfl rfl rfl rfl rfl rfl ⟨rfl, rfl, rfl, rfl, rfl⟩ rfl rfl rfl rfl rfl (by kernel_rfl) Try.func5 (by kernel_rfl)
    (of_decide_eq_true (by kernel_rfl)) (by unfold Func.isWrapper; first | (rw [if_pos (by decide +kernel)]; kernel_rfl) | (rw [if_neg (by decide +kernel)]; exact ⟨rfl, rfl⟩))
    (fun os started H enc _ => lifted os started H enc)

/-- THE STATEMENT. -/
theorem proved : Rows.WaitNilSaid := over
#print axioms proved
end Go.Proofs.Ytpanakfbbdeihaa.waitNil
