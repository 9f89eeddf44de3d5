/-
  PROVED: the contract of the statements' 'live'. Conditions: none.
-/
import Derived.Test.YtpanakfbbdeihaaRef2
namespace Go.Proofs.Ytpanakfbbdeihaa
open Go.RowKit
set_option linter.unusedVariables false

theorem PutEnd.to {B : Nat} {w : World} {Q M : Nat} {v : Value} {ks ls : List Key} {k : Key} {b : Bool} {e : Ending} {w' : World} (h : PutEnd B w Q M v ks k e w') (hb : decide (k ∉ ks ∧ ks.length < 64) = b) (hl : (if k ∉ ks ∧ ks.length < 64 then ks ++ [k] else ks) = ls) :
    e = .returned (.bool b) ∧ ∃ v', QAt B w' Q M v' ls ∧ Only (qfp Q M v) w w' := by
  obtain ⟨v', rfl, h1, h2, _⟩ := h
  rw [hl] at h1
  exact ⟨by rw [hb], v', h1, h2⟩

theorem live_any (w : World) : Calls Try.prog 6 #[] w fun e w' => e = .returned (.bool true) ∧ Below w.heap.size w w' := by
  have N := Lib.hid (new_any w)
  go_enter Try.func6, Try.ntmps6
  go_wp2_with fail
  refine N.out.mono ?_
  rintro e w1 ⟨Q, M, v, rfl, hq, hb, _⟩
  have sz1 := hb.size
  have P1 := Lib.hid (fun a b => put_any hq a b)
  have H1 := Lib.hid hq
  have B1 := Lib.hid hb
  clear hq hb N
  go_wp2_with fail
  refine (P1.out _ _).mono ?_
  intro e w2 h
  obtain ⟨rfl, v2, q2, o2⟩ := h.to (b := true) (ls := [(1, 0)]) rfl rfl
  clear h
  have P2 := Lib.hid (fun a b => put_any q2 a b)
  have H2 := Lib.hid q2
  have O2 := Lib.hid o2
  clear q2 o2
  go_wp2_with fail
  refine (P2.out _ _).mono ?_
  intro e w3 h
  obtain ⟨rfl, v3, q3, o3⟩ := h.to (b := true) (ls := [(1, 0), (2, 0)]) rfl rfl
  clear h
  have P3 := Lib.hid (fun a b => put_any q3 a b)
  have H3 := Lib.hid q3
  have O3 := Lib.hid o3
  clear q3 o3
  go_wp2_with fail
  refine (P3.out _ _).mono ?_
  intro e w4 h
  obtain ⟨rfl, v4, q4, o4⟩ := h.to (b := true) (ls := [(1, 0), (2, 0), (1, 1)]) rfl rfl
  clear h
  have P4 := Lib.hid (fun m => batch_any q4 m)
  have H4 := Lib.hid q4
  have O4 := Lib.hid o4
  clear q4 o4
  go_wp2_with fail
  refine (P4.out _).mono ?_
  rintro e w5 ⟨tv, v5, rfl, hrow, q5, o5, _⟩
  have hrow' : w5.ownsRow w.heap.size 28 2 tv 2 [.int .i64 1, .int .i64 0, .int .i64 1, .int .i64 1] := hrow
  have q5' : QAt w.heap.size w5 Q M v5 [(2, 0)] := q5
  obtain ⟨g, cap, rfl, _⟩ := hrow'.form (by omega)
  have hcap : 2 ≤ cap := by
    obtain ⟨a, c, e, h1, _⟩ := own_shape hrow'
    cases e
    exact h1
  have x3 : w5.cell? ⟨g, 3, none⟩ = some (.int .i64 1) := by rw [hrow'.cellAt 3 (by omega)]; rfl
  have C := Lib.hid (len_any q5')
  have Q4 := Lib.hid (H4.out.lt)
  have fin : Hid (Below w.heap.size w w5) := Lib.hid (by
    have b1 := B1.out
    have b2 := O2.out.below (B := w.heap.size) (fun x hx => (H1.out.lt x hx).1) b1.size
    have b3 := O3.out.below (B := w.heap.size) (fun x hx => (H2.out.lt x hx).1) (b1.trans b2).size
    have b4 := O4.out.below (B := w.heap.size) (fun x hx => (H3.out.lt x hx).1) ((b1.trans b2).trans b3).size
    have b5 := o5.below (B := w.heap.size) (fun x hx => (H4.out.lt x hx).1) (((b1.trans b2).trans b3).trans b4).size
    exact (((b1.trans b2).trans b3).trans b4).trans b5)
  clear hrow hrow' q5 q5' o5 P1 P2 P3 P4 H1 H2 H3 H4 O2 O3 O4 B1 Q4
  go_wp2_with (go_at_call 17; refine C.out.mono ?_; rintro e w' ⟨rfl, rfl⟩)
  go_ret
  exact ⟨rfl, fin.out⟩
end Go.Proofs.Ytpanakfbbdeihaa
