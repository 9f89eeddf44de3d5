/-
  PROVED: 'Rows.GlobMatchesSaid': for every pattern and every text that 'GlobMatches' is called with, it returns true. No conditions.
-/
import Derived.Test.YtkdebjampnfgjaaRMatch
import Derived.ProofKit
import Derived.OpenShut
import Derived.ShutString
import Derived.ChangeOld
namespace Go.Proofs.Ytkdebjampnfgjaa.globMatches
open Go.ChangeShapes Go.WideShapes Go.ChangeAt Go.RowKit
open Go.ChangeMaps (open_string shut_string)
set_option linter.unusedVariables false

theorem own : ownKnob Try.prog.godebug = none := by kernel_rfl

set_option maxHeartbeats 4000000 in
theorem walk (a0 : ByteArray) (a1 : ByteArray) (w : World) :
    Calls Try.prog 3 #[.string a0, .string a1] w fun e w' => e = .returned (.bool true) ∧ Below w.heap.size w w' := by
  have LV := Lib.hid (fun w => live_any w)
  have BX : Hid (Below w.heap.size w w) := Lib.hid (Below.refl _ _)
  go_enter Try.func3, Try.ntmps3
  by_cases h1 : a0.size ≤ 40
  rotate_left
  · have h' : (40 : Int) < a0.size := by omega
    have BB := BX
    go_wp2_with fail
    refine (LV.out _).mono ?_
    rintro e w2 ⟨rfl, b2⟩
    have B2 := Lib.hid (BB.out.trans (b2.mono BB.out.size))
    clear b2
    go_wp2
    go_ret
    exact ⟨rfl, B2.out⟩
  have g1 : (a0.size : Int) ≤ 40 := by omega
  by_cases h2 : a1.size ≤ 80
  rotate_left
  · have h' : (80 : Int) < a1.size := by omega
    have BB := BX
    go_wp2_with fail
    refine (LV.out _).mono ?_
    rintro e w2 ⟨rfl, b2⟩
    have B2 := Lib.hid (BB.out.trans (b2.mono BB.out.size))
    clear b2
    go_wp2
    go_ret
    exact ⟨rfl, B2.out⟩
  have g2 : (a1.size : Int) ≤ 80 := by omega
  have M := Lib.hid (fun w => match_any a0 a1 (by omega) (by omega) w)
  have RM := Lib.hid (fun w => rmatch_any a0 a1 (by omega) (by omega) w)
  have F := Lib.hid (fun w => fold_any a1 (by omega) w)
  have RF := Lib.hid (fun w => rfold_any a1 (by omega) w)
  have hTl : (folded a1).length ≤ 300 := Nat.le_trans (folded_length a1) (by omega)
  obtain ⟨T, hT⟩ : ∃ T, folded a1 = T := ⟨_, rfl⟩
  obtain ⟨b, hb⟩ : ∃ b, globB (folded a0) (folded a1) = b := ⟨_, rfl⟩
  rw [hT] at hTl
  have HT := Lib.hid hT
  have HB := Lib.hid hb
  clear hT hb
  go_wp2_with fail
  refine (M.out _).mono ?_
  rintro e w1 ⟨rfl, b1⟩
  rw [HB.out]
  have B1 := Lib.hid b1
  clear b1
  go_wp2_with fail
  refine (RM.out _).mono ?_
  rintro e w2 ⟨rfl, b2⟩
  rw [HB.out]
  have B2 := Lib.hid (B1.out.trans (b2.mono B1.out.size))
  clear b2
  go_wp2_with fail
  refine (F.out _).mono ?_
  rintro e w3 ⟨v3, rfl, row3, b3⟩
  rw [HT.out] at row3
  obtain ⟨a3, c3, rfl, r3, h3, h4⟩ := Rd.own rfl row3
  have B3 := Lib.hid (B2.out.trans (b3.mono B2.out.size))
  have R3 := Lib.hid r3
  clear b3 row3 r3
  go_wp2_with fail
  refine (RF.out _).mono ?_
  rintro e w4 ⟨v4, rfl, row4, b4⟩
  rw [HT.out] at row4
  obtain ⟨a4, c4, rfl, r4, h5, h6⟩ := Rd.own rfl row4
  have B4 := Lib.hid (B3.out.trans (b4.mono B3.out.size))
  have S := Lib.hid (same_any (R3.out.below b4) r4 h3 h5 hTl h4 h6)
  clear b4 row4 r4 R3
  go_wp2_with fail
  refine S.out.mono ?_
  rintro e w5 ⟨rfl, n, rfl⟩
  have BB := Lib.hid (below_drewN B4.out n)
  go_wp2_with fail
  refine (LV.out _).mono ?_
  rintro e w6 ⟨rfl, b6⟩
  have B6 := Lib.hid (BB.out.trans (b6.mono BB.out.size))
  clear b6
  go_wp2
  go_ret
  exact ⟨rfl, B6.out⟩

set_option maxRecDepth 100000 in
theorem lifted (os : Os) (started : os.Started) (H : Type) (enc : TypeId × Value → H) :
    ReturnsInHanded {} Try.checked os 3 .any (Rows.globMatchesSpec.pre6 enc Try.prog Try.f3 Rows.globMatchesRow.domain false) (Rows.globMatchesSpec.post enc Try.prog Try.f3 false true false false) := by
  refine returnsInHanded_of_change (C := Try.checked) own started (by kernel_rfl) Try.func3
    (ChangeSpec.witness6 (enc := enc) (C := Try.checked) false ⟨#[], #[.string ByteArray.empty, .string ByteArray.empty], []⟩ 8 (by kernel_rfl) (by kernel_rfl) (by kernel_rfl) (by kernel_rfl)) ?_
  intro W base args ds gs before hval0 hW hcnd _
  have hval : ∀ (j : Nat) t v, Try.f3.params[j]? = some t → args[j]? = some v → Value.okWide Try.prog W .any base t v := hval0
  have hW' := hW
  obtain ⟨p, q, hA0, hV, rfl, hfz, hnd⟩ := hW
  have hA : DataW.TrodAll enc Try.prog W 0 (fun _ => true) true Try.f3.params.toList args.toList ds p := hA0
  rw [Try.params3] at hA hval
  obtain ⟨v0, vs0, d0, ds0, p0, q0, hargs, rfl, rfl, h0, r0⟩ := trodAll_cons hA
  obtain ⟨v1, vs1, d1, ds1, p1, q1, rfl, rfl, rfl, h1, r1⟩ := trodAll_cons r0
  obtain ⟨rfl, rfl, rfl⟩ := trodAll_nil r1
  obtain rfl : args = #[v0, v1] := by cases args; simp_all
  obtain ⟨rfl, rfl⟩ := trodVars_none hV
  obtain ⟨a0, rfl, rfl, rfl, w0⟩ := open_string Try.underlying9 (hval 0 9 v0 rfl rfl) h0
  obtain ⟨a1, rfl, rfl, rfl, w1⟩ := open_string Try.underlying9 (hval 1 9 v1 rfl rfl) h1
  clear hA0 hval0
  simp only [List.append_nil] at hW'
  refine (walk a0 a1 W).mono fun e W' ⟨he, hg⟩ => ?_
  subst he
  exact ⟨_, rfl, _, _, _, [], _, [], hW', trodAll_mk1 (shut_bool Try.underlying4 _), (trodAll_cons_mk (shut_string Try.underlying9 w0) (trodAll_cons_mk (shut_string Try.underlying9 w1) trodAll_mk0)), rfl, hg.frame _, fun h => by cases h⟩

theorem over : Rows.globMatchesRow.holds Try.pinned (OpenSpec.ofChange Rows.globMatchesSpec) :=
  OpenClaim.holds_of_wide 3 Try.f3 rfl rfl rfl rfl rfl rfl rfl ⟨rfl, rfl, rfl, rfl, rfl⟩ rfl rfl rfl rfl rfl (by kernel_rfl) Try.func3 (by kernel_rfl)
    (of_decide_eq_true (by kernel_rfl)) (by unfold Func.isWrapper; first | (rw [if_pos (by decide +kernel)]; kernel_rfl) | (rw [if_neg (by decide +kernel)]; exact ⟨rfl, rfl⟩))
    (fun os started H enc _ => lifted os started H enc)

/-- THE STATEMENT. -/
theorem proved : Rows.GlobMatchesSaid :=
  over
#print axioms proved
end Go.Proofs.Ytkdebjampnfgjaa.globMatches
