/-
  PROVED: 'Rows.GlobPrefixSaid': for every pattern and every text that 'GlobPrefix' is called with, it returns true. No conditions.
-/
import Derived.Test.YtkdebjampnfgjaaRPrefix
import Derived.ProofKit
import Derived.OpenShut
import Derived.ShutString
import Derived.ChangeOld
namespace Go.Proofs.Ytkdebjampnfgjaa.globPrefix
open Go.ChangeShapes Go.WideShapes Go.ChangeAt Go.RowKit
open Go.ChangeMaps (open_string shut_string)
set_option linter.unusedVariables false

theorem own : ownKnob Try.prog.godebug = none := by kernel_rfl

theorem pfx_length (P : List Int) : (pfx P).length ≤ P.length := by
  rw [pfx]
  exact (List.takeWhile_sublist _).length_le

theorem same_n {w : World} {a b : Option Addr} {ks ls : List Int} {n m ca cb : Nat} (hn : n = ks.length) (hm : m = ls.length) (ha : Rd w a ks) (hb : Rd w b ls) (hca : ks.length ≤ ca) (hcb : ls.length ≤ cb) (hl : ks.length ≤ 300) (hma : ca ≤ maxLen) (hmb : cb ≤ maxLen) :
    Calls Try.prog 9 #[.slice a n ca, .slice b m cb] w (SameEnd w ks ls) := by
  subst hn hm
  exact same_any ha hb hca hcb hl hma hmb

set_option maxRecDepth 100000 in
set_option maxHeartbeats 4000000 in
theorem walk (a0 : ByteArray) (a1 : ByteArray) (w : World) :
    Calls Try.prog 5 #[.string a0, .string a1] w fun e w' => e = .returned (.bool true) ∧ Below w.heap.size w w' := by
  have LV := Lib.hid (fun w => live_any w)
  have BX : Hid (Below w.heap.size w w) := Lib.hid (Below.refl _ _)
  go_enter Try.func5, Try.ntmps5
  by_cases h1 : a0.size ≤ 40
  rotate_left
  · have h' : (40 : Int) < a0.size := by omega
    have BB := BX
    go_wp2_with fail
    refine (LV.out _).mono ?_
    rintro e w2 ⟨rfl, b2⟩
    have B2 := Lib.hid (BB.out.trans (b2.mono BB.out.size))
    clear b2
    go_wp2
    go_ret
    exact ⟨rfl, B2.out⟩
  have g1 : (a0.size : Int) ≤ 40 := by omega
  by_cases h2 : a1.size ≤ 80
  rotate_left
  · have h' : (80 : Int) < a1.size := by omega
    have BB := BX
    go_wp2_with fail
    refine (LV.out _).mono ?_
    rintro e w2 ⟨rfl, b2⟩
    have B2 := Lib.hid (BB.out.trans (b2.mono BB.out.size))
    clear b2
    go_wp2
    go_ret
    exact ⟨rfl, B2.out⟩
  have g2 : (a1.size : Int) ≤ 80 := by omega
  have M := Lib.hid (fun w => match_any a0 a1 (by omega) (by omega) w)
  have PX := Lib.hid (fun w => prefix_any a0 (by omega) w)
  have RX := Lib.hid (fun w => rprefix_any a0 (by omega) w)
  have FP := Lib.hid (fun w => fold_any a0 (by omega) w)
  have FT := Lib.hid (fun w => fold_any a1 (by omega) w)
  have hXs : (runesBytes (pfx (runes a0))).size ≤ 300 := by
    have e1 := runesBytes_size_le (pfx (runes a0))
    have e2 := pfx_length (runes a0)
    have e3 := runes_length a0
    omega
  have FX := Lib.hid (fun w => fold_any (runesBytes (pfx (runes a0))) hXs w)
  have hTl : (folded a1).length ≤ 300 := Nat.le_trans (folded_length a1) (by omega)
  have hPl : (folded a0).length ≤ 300 := Nat.le_trans (folded_length a0) (by omega)
  have hFl : (folded (runesBytes (pfx (runes a0)))).length ≤ 300 := Nat.le_trans (folded_length _) hXs
  have LB := Lib.hid (fun h => law_begins a0 a1 h)
  have LW := Lib.hid (fun h => law_whole a0 a1 h)
  have EF : Hid (folded (runesBytes (pfx (runes a0))) = (pfx (runes a0)).map low) := Lib.hid (folded_pfx a0)
  obtain ⟨T, hT⟩ : ∃ T, folded a1 = T := ⟨_, rfl⟩
  obtain ⟨P, hP⟩ : ∃ P, folded a0 = P := ⟨_, rfl⟩
  obtain ⟨F, hF⟩ : ∃ F, folded (runesBytes (pfx (runes a0))) = F := ⟨_, rfl⟩
  obtain ⟨b, hb⟩ : ∃ b, globB (folded a0) (folded a1) = b := ⟨_, rfl⟩
  obtain ⟨al, hal⟩ : ∃ al, (runes a0).all plainR = al := ⟨_, rfl⟩
  rw [hT] at hTl
  rw [hP] at hPl
  rw [hF] at hFl
  have L1 : Hid (b = true → F.length ≤ T.length ∧ F = T.take F.length) := Lib.hid (fun h => by
    have := LB.out (hb.trans h)
    rw [← EF.out, hF, hT] at this
    exact this)
  have L2 : Hid (al = true → b = decide (P = T)) := Lib.hid (fun h => by
    have := LW.out (hal.trans h)
    rw [hb, hP, hT] at this
    exact this)
  have HT := Lib.hid hT
  have HP := Lib.hid hP
  have HF := Lib.hid hF
  have HB := Lib.hid hb
  have HAL := Lib.hid hal
  clear hT hP hF hb hal LB LW EF hXs
  go_wp2_with fail
  refine (PX.out _).mono ?_
  rintro e w1 ⟨rfl, b1⟩
  rw [HAL.out]
  have B1 := Lib.hid b1
  clear b1
  go_wp2_with fail
  refine (RX.out _).mono ?_
  rintro e w2 ⟨rfl, b2⟩
  rw [HAL.out]
  have B2 := Lib.hid (B1.out.trans (b2.mono B1.out.size))
  clear b2
  go_wp2_with fail
  refine (FX.out _).mono ?_
  rintro e w3 ⟨v3, rfl, row3, b3⟩
  rw [HF.out] at row3
  obtain ⟨a3, c3, rfl, r3, h3, h4⟩ := Rd.own rfl row3
  have B3 := Lib.hid (B2.out.trans (b3.mono B2.out.size))
  have R3 := Lib.hid r3
  clear b3 row3 r3
  go_wp2_with fail
  refine (FT.out _).mono ?_
  rintro e w4 ⟨v4, rfl, row4, b4⟩
  rw [HT.out] at row4
  obtain ⟨a4, c4, rfl, r4, h5, h6⟩ := Rd.own rfl row4
  have B4 := Lib.hid (B3.out.trans (b4.mono B3.out.size))
  have RF := Lib.hid (R3.out.below b4)
  have RT := Lib.hid r4
  clear b4 row4 r4 R3
  by_cases hFT : F.length ≤ T.length
  · have hFT' : (F.length : Int) ≤ T.length := by omega
    have hFc : (F.length : Int) ≤ c4 := by omega
    obtain ⟨bg, hbg⟩ : ∃ bg, decide (F = T.take F.length) = bg := ⟨_, rfl⟩
    have HBG := Lib.hid hbg
    clear hbg
    have SM := Lib.hid (same_n (n := F.length) (m := F.length) (ca := c3) (cb := c4) (ls := T.take F.length) rfl (by rw [List.length_take]; omega) RF.out (RT.out.take F.length) h3 (by rw [List.length_take]; omega) hFl h4 h6)
    go_wp2_with fail
    refine SM.out.mono ?_
    rintro e w5 ⟨rfl, n5, rfl⟩
    rw [HBG.out]
    have BW := Lib.hid (below_drewN B4.out n5)
    have RTW := Lib.hid (RT.out.below (below_drewN (Below.refl _ _) n5))
    cases hbv : b with
    | true =>
      have hg : bg = true := by rw [← HBG.out]; exact decide_eq_true (L1.out hbv).2
      subst hg
      rw [hbv] at L2
      go_wp2_with fail
      have HBB : Hid (globB (folded a0) (folded a1) = true) := Lib.hid (HB.out.trans hbv)
      refine (M.out _).mono ?_
      rintro e w9 ⟨rfl, b9⟩
      rw [HBB.out]
      have B9 := Lib.hid (BW.out.trans (b9.mono BW.out.size))
      have R9 := Lib.hid (RTW.out.below b9)
      clear b9
      cases al with
      | false =>
        have BB := B9
        go_wp2_with fail
        refine (LV.out _).mono ?_
        rintro e wz ⟨rfl, bz⟩
        have BZ := Lib.hid (BB.out.trans (bz.mono BB.out.size))
        clear bz
        go_wp2
        go_ret
        exact ⟨rfl, BZ.out⟩
      | true =>
        have EQ := Lib.hid (L2.out rfl)
        go_wp2_with fail
        refine (M.out _).mono ?_
        rintro e w6 ⟨rfl, b6⟩
        rw [HBB.out]
        have B6 := Lib.hid (B9.out.trans (b6.mono B9.out.size))
        have R6 := Lib.hid (R9.out.below b6)
        clear b6
        go_wp2_with fail
        refine (FP.out _).mono ?_
        rintro e w7 ⟨v7, rfl, row7, b7⟩
        rw [HP.out] at row7
        obtain ⟨a7, c7, rfl, r7, h7, h8⟩ := Rd.own rfl row7
        have B7 := Lib.hid (B6.out.trans (b7.mono B6.out.size))
        have S7 := Lib.hid (same_any r7 (R6.out.below b7) h7 h5 hPl h8 h6)
        clear b7 row7 r7
        go_wp2_with fail
        refine S7.out.mono ?_
        rintro e w8 ⟨rfl, n8, rfl⟩
        have HD : Hid (decide (P = T) = true) := Lib.hid EQ.out.symm
        rw [HD.out]
        have BB := Lib.hid (below_drewN B7.out n8)
        go_wp2_with fail
        refine (LV.out _).mono ?_
        rintro e wz ⟨rfl, bz⟩
        have BZ := Lib.hid (BB.out.trans (bz.mono BB.out.size))
        clear bz
        go_wp2
        go_ret
        exact ⟨rfl, BZ.out⟩
    | false =>
      rw [hbv] at L2
      go_wp2_with fail
      have HBB : Hid (globB (folded a0) (folded a1) = false) := Lib.hid (HB.out.trans hbv)
      refine (M.out _).mono ?_
      rintro e w9 ⟨rfl, b9⟩
      rw [HBB.out]
      have B9 := Lib.hid (BW.out.trans (b9.mono BW.out.size))
      have R9 := Lib.hid (RTW.out.below b9)
      clear b9
      cases al with
      | false =>
        have BB := B9
        go_wp2_with fail
        refine (LV.out _).mono ?_
        rintro e wz ⟨rfl, bz⟩
        have BZ := Lib.hid (BB.out.trans (bz.mono BB.out.size))
        clear bz
        go_wp2
        go_ret
        exact ⟨rfl, BZ.out⟩
      | true =>
        have EQ := Lib.hid (L2.out rfl)
        go_wp2_with fail
        refine (M.out _).mono ?_
        rintro e w6 ⟨rfl, b6⟩
        rw [HBB.out]
        have B6 := Lib.hid (B9.out.trans (b6.mono B9.out.size))
        have R6 := Lib.hid (R9.out.below b6)
        clear b6
        go_wp2_with fail
        refine (FP.out _).mono ?_
        rintro e w7 ⟨v7, rfl, row7, b7⟩
        rw [HP.out] at row7
        obtain ⟨a7, c7, rfl, r7, h7, h8⟩ := Rd.own rfl row7
        have B7 := Lib.hid (B6.out.trans (b7.mono B6.out.size))
        have S7 := Lib.hid (same_any r7 (R6.out.below b7) h7 h5 hPl h8 h6)
        clear b7 row7 r7
        go_wp2_with fail
        refine S7.out.mono ?_
        rintro e w8 ⟨rfl, n8, rfl⟩
        have HD : Hid (decide (P = T) = false) := Lib.hid EQ.out.symm
        rw [HD.out]
        have BB := Lib.hid (below_drewN B7.out n8)
        go_wp2_with fail
        refine (LV.out _).mono ?_
        rintro e wz ⟨rfl, bz⟩
        have BZ := Lib.hid (BB.out.trans (bz.mono BB.out.size))
        clear bz
        go_wp2
        go_ret
        exact ⟨rfl, BZ.out⟩
  · have hFT' : ¬ (F.length : Int) ≤ T.length := by omega
    have hbf : b = false := by
      cases h : b with
      | false => rfl
      | true => exact absurd (L1.out h).1 hFT
    have hbv : b = false := hbf
    rw [hbv] at L2
    have BW := B4
    have RTW := RT
    go_wp2_with fail
    have HBB : Hid (globB (folded a0) (folded a1) = false) := Lib.hid (HB.out.trans hbv)
    refine (M.out _).mono ?_
    rintro e w5 ⟨rfl, b5⟩
    rw [HBB.out]
    have B5 := Lib.hid (BW.out.trans (b5.mono BW.out.size))
    have R5 := Lib.hid (RTW.out.below b5)
    clear b5
    cases al with
    | false =>
      have BB := B5
      go_wp2_with fail
      refine (LV.out _).mono ?_
      rintro e wz ⟨rfl, bz⟩
      have BZ := Lib.hid (BB.out.trans (bz.mono BB.out.size))
      clear bz
      go_wp2
      go_ret
      exact ⟨rfl, BZ.out⟩
    | true =>
      have EQ := Lib.hid (L2.out rfl)
      go_wp2_with fail
      refine (M.out _).mono ?_
      rintro e w6 ⟨rfl, b6⟩
      rw [HBB.out]
      have B6 := Lib.hid (B5.out.trans (b6.mono B5.out.size))
      have R6 := Lib.hid (R5.out.below b6)
      clear b6
      go_wp2_with fail
      refine (FP.out _).mono ?_
      rintro e w7 ⟨v7, rfl, row7, b7⟩
      rw [HP.out] at row7
      obtain ⟨a7, c7, rfl, r7, h7, h8⟩ := Rd.own rfl row7
      have B7 := Lib.hid (B6.out.trans (b7.mono B6.out.size))
      have S7 := Lib.hid (same_any r7 (R6.out.below b7) h7 h5 hPl h8 h6)
      clear b7 row7 r7
      go_wp2_with fail
      refine S7.out.mono ?_
      rintro e w8 ⟨rfl, n8, rfl⟩
      have HD : Hid (decide (P = T) = false) := Lib.hid EQ.out.symm
      rw [HD.out]
      have BB := Lib.hid (below_drewN B7.out n8)
      go_wp2_with fail
      refine (LV.out _).mono ?_
      rintro e wz ⟨rfl, bz⟩
      have BZ := Lib.hid (BB.out.trans (bz.mono BB.out.size))
      clear bz
      go_wp2
      go_ret
      exact ⟨rfl, BZ.out⟩

set_option maxRecDepth 100000 in
theorem lifted (os : Os) (started : os.Started) (H : Type) (enc : TypeId × Value → H) :
    ReturnsInHanded {} Try.checked os 5 .any (Rows.globPrefixSpec.pre6 enc Try.prog Try.f5 Rows.globPrefixRow.domain false) (Rows.globPrefixSpec.post enc Try.prog Try.f5 false true false false) := by
  refine returnsInHanded_of_change (C := Try.checked) own started (by kernel_rfl) Try.func5
    (ChangeSpec.witness6 (enc := enc) (C := Try.checked) false ⟨#[], #[.string ByteArray.empty, .string ByteArray.empty], []⟩ 8 (by kernel_rfl) (by kernel_rfl) (by kernel_rfl) (by kernel_rfl)) ?_
  intro W base args ds gs before hval0 hW hcnd _
  have hval : ∀ (j : Nat) t v, Try.f5.params[j]? = some t → args[j]? = some v → Value.okWide Try.prog W .any base t v := hval0
  have hW' := hW
  obtain ⟨p, q, hA0, hV, rfl, hfz, hnd⟩ := hW
  have hA : DataW.TrodAll enc Try.prog W 0 (fun _ => true) true Try.f5.params.toList args.toList ds p := hA0
  rw [Try.params5] at hA hval
  obtain ⟨v0, vs0, d0, ds0, p0, q0, hargs, rfl, rfl, h0, r0⟩ := trodAll_cons hA
  obtain ⟨v1, vs1, d1, ds1, p1, q1, rfl, rfl, rfl, h1, r1⟩ := trodAll_cons r0
  obtain ⟨rfl, rfl, rfl⟩ := trodAll_nil r1
  obtain rfl : args = #[v0, v1] := by cases args; simp_all
  obtain ⟨rfl, rfl⟩ := trodVars_none hV
  obtain ⟨a0, rfl, rfl, rfl, w0⟩ := open_string Try.underlying9 (hval 0 9 v0 rfl rfl) h0
  obtain ⟨a1, rfl, rfl, rfl, w1⟩ := open_string Try.underlying9 (hval 1 9 v1 rfl rfl) h1
  clear hA0 hval0
  simp only [List.append_nil] at hW'
  refine (walk a0 a1 W).mono fun e W' ⟨he, hg⟩ => ?_
  subst he
  exact ⟨_, rfl, _, _, _, [], _, [], hW', trodAll_mk1 (shut_bool Try.underlying4 _), (trodAll_cons_mk (shut_string Try.underlying9 w0) (trodAll_cons_mk (shut_string Try.underlying9 w1) trodAll_mk0)), rfl, hg.frame _, fun h => by cases h⟩

theorem over : Rows.globPrefixRow.holds Try.pinned (OpenSpec.ofChange Rows.globPrefixSpec) :=
  OpenClaim.holds_of_wide 5 Try.f5 rfl rfl rfl rfl rfl rfl rfl ⟨rfl, rfl, rfl, rfl, rfl⟩ rfl rfl rfl rfl rfl (by kernel_rfl) Try.func5 (by kernel_rfl)
    (of_decide_eq_true (by kernel_rfl)) (by unfold Func.isWrapper; first | (rw [if_pos (by decide +kernel)]; kernel_rfl) | (rw [if_neg (by decide +kernel)]; exact ⟨rfl, rfl⟩))
    (fun os started H enc _ => lifted os started H enc)

/-- THE STATEMENT. -/
theorem proved : Rows.GlobPrefixSaid :=
  over
#print axioms proved
end Go.Proofs.Ytkdebjampnfgjaa.globPrefix
