/-
  PROVED: the contract of the reference's 'Match'. Conditions: each theorem's own premises.
-/
import Derived.Test.YtkdebjampnfgjaaDp
import Derived.Deep.RegionHeld3
namespace Go.Proofs.Ytkdebjampnfgjaa
open Go.RowKit
set_option linter.unusedVariables false

def OuterLoop (W : World) (P T : List Int) (v7 v8 : Value) (w : World) : Prop :=
  ∃ g i : Nat, v7 = .slice (some ⟨g, 0, none⟩) (T.length + 1) (T.length + 1) ∧ v8 = .int .i64 i ∧ i ≤ P.length ∧ RowRel W P T g i w
def InnerLoop (W : World) (P T : List Int) (g g' i : Nat) (v10 : Value) (w : World) : Prop :=
  ∃ k : Nat, v10 = .int .i64 k ∧ k ≤ T.length + 1 ∧ NextRel W P T g g' i k w

set_option maxRecDepth 100000 in
set_option maxHeartbeats 8000000 in
theorem rmatch_any (p s : ByteArray) (hp : p.size ≤ 300) (hs : s.size ≤ 300) (w : World) : Calls Try.prog 8 #[.string p, .string s] w (RMatchEnd w p s) := by
  have FP := Lib.hid (rfold_any p hp w)
  have FS := Lib.hid (fun w => rfold_any s hs w)
  have hPl := Nat.le_trans (folded_length p) hp
  have hTl := Nat.le_trans (folded_length s) hs
  obtain ⟨P, hP⟩ : ∃ P, folded p = P := ⟨_, rfl⟩
  obtain ⟨T, hT⟩ : ∃ T, folded s = T := ⟨_, rfl⟩
  have hG : Hid (globB (folded p) (folded s) = globB P T) := Lib.hid (by rw [hP, hT])
  rw [hP] at hPl
  rw [hT] at hTl
  go_enter Try.func8, Try.ntmps8
  go_wp2_with fail
  refine FP.out.mono ?_
  rintro e w1 ⟨v1, rfl, row1, b1⟩
  rw [hP] at row1
  obtain ⟨a1, c1, rfl, r1, h1, h2⟩ := Rd.own rfl row1
  have B1 := Lib.hid b1
  have R1 := Lib.hid r1
  clear row1 r1 b1 FP
  go_wp2_with fail
  refine (FS.out w1).mono ?_
  rintro e w2 ⟨v2, rfl, row2, b2⟩
  rw [hT] at row2
  obtain ⟨a2, c2, rfl, r2, h3, h4⟩ := Rd.own rfl row2
  have B2 := Lib.hid (B1.out.trans (b2.mono B1.out.size))
  have RP := Lib.hid (R1.out.below b2)
  have RT := Lib.hid r2
  unfold maxLen at h2 h4
  clear row2 r2 b2 FS R1 hP hT
  obtain ⟨C, hC1, hC2, hmk⟩ := make_row T.length hTl
  have RX := Lib.hid (RowF.made w2 (T.length + 1) C hC1 hC2)
  have BX : Hid (Below w2.heap.size w2 (w2.alloc (.cells C 4))) := Lib.hid ((Below.refl _ w2).alloc (Nat.le_refl _) _)
  obtain ⟨X, hX⟩ : ∃ X, w2.alloc (.cells C 4) = X := ⟨_, rfl⟩
  rw [hX] at RX BX
  have fz := RX.out.frozen 0
  have c0 := RX.out.cell 0 (by omega)
  have hlX := RX.out.lt
  have R0 : Hid (RowRel w2 P T w2.heap.size 0 (X.setCell ⟨w2.heap.size, 0, none⟩ (.bool true))) := Lib.hid ⟨(RX.out.set 0 (by omega) true).congr (fun j hj => by rw [dp_zero P T j (by omega)]; by_cases e : j = 0 <;> simp [e]), BX.out.setCell (p := ⟨w2.heap.size, 0, none⟩) (Nat.le_refl _) _, Nat.le_refl _⟩
  go_wp2_with fail
  clear hX fz c0 RX BX hlX
  go_loopw [7, 8] (fun v7 v8 wr => OuterLoop w2 P T v7 v8 wr) (fun _ v8 _ => P.length - (intOf v8).toNat)
  case atStart => exact ⟨_, 0, rfl, rfl, Nat.zero_le _, R0.out⟩
  case round =>
    clear R0
    obtain ⟨g, i, rfl, rfl, hi, hr⟩ := hrel
    have RR := Lib.hid hr
    clear hr
    by_cases hlt : i < P.length
    · have N0 := Lib.hid (RR.out.start hC1 hC2)
      obtain ⟨g', hg'⟩ : ∃ g', wr.heap.size = g' := ⟨_, rfl⟩
      rw [hg'] at N0
      obtain ⟨bp, op, rfl, hbp, hcp⟩ := RP.out (by intro e; rw [e] at hlt; simp at hlt)
      have xP := Lib.hid (hcp i hlt)
      have dM := Lib.hid (fun k (hk : k ≤ T.length) (hc : P[i] = 37) => dp_many P T i k hlt hc hk)
      have dZ := Lib.hid (fun (hc : P[i] ≠ 37) => dp_one_zero P T i hlt hc)
      have dO := Lib.hid (fun k (hk : k < T.length) (hc : P[i] ≠ 37) => dp_one P T i k hlt hc hk)
      generalize P[i] = c at *
      clear hcp
      go_wp2_with fail
      clear hg'
      go_loopw [10] (fun v10 wr => InnerLoop w2 P T g g' i v10 wr) (fun v10 _ => T.length + 1 - (intOf v10).toNat)
      case atStart => exact ⟨0, rfl, Nat.zero_le _, N0.out⟩
      case round =>
        clear N0
        obtain ⟨k, rfl, hk, hn⟩ := hrel
        have NR := Lib.hid hn
        clear hn
        by_cases hkt : k ≤ T.length
        · have x0 : wr.cell? ⟨bp, op + i, none⟩ = some (.int .i32 c) := (NR.out.below.cell (p := ⟨bp, op + i, none⟩) hbp).trans xP.out
          have fz := NR.out.next.frozen k
          have ck := NR.out.next.cell k (by omega)
          simp only [Nat.lt_irrefl, if_false] at ck
          by_cases hc : c = 37
          · have DM := Lib.hid (dM.out k hkt hc)
            subst hc
            clear dZ dO
            cases ha : dp P T i k with
            | true =>
              have y0 := NR.out.row.cell k (by omega)
              rw [ha] at y0
              have DV : Hid (true = dp P T (i + 1) k) := Lib.hid (by rw [DM.out, ha]; rfl)
              go_wp2_with fail
              go_roundw
              case rel => exact ⟨k + 1, by go_num, by omega, NR.out.set (by omega) _ DV.out⟩
              case measure => simp [intOf]; omega
            | false =>
              have y0 := NR.out.row.cell k (by omega)
              rw [ha] at y0
              by_cases hk0 : k = 0
              · subst hk0
                have DV : Hid (false = dp P T (i + 1) 0) := Lib.hid (by rw [DM.out, ha]; rfl)
                go_wp2_with fail
                go_roundw
                case rel => exact ⟨0 + 1, by go_num, by omega, NR.out.set (by omega) _ DV.out⟩
                case measure => simp [intOf]
              · obtain ⟨k', rfl⟩ : ∃ k', k = k' + 1 := ⟨k - 1, by omega⟩
                have y1 := NR.out.next.cell k' (by omega)
                simp only [show k' < k' + 1 by omega, if_true] at y1
                have DV : Hid (dp P T (i + 1) k' = dp P T (i + 1) (k' + 1)) := Lib.hid (by rw [DM.out, ha]; simp)
                generalize dp P T (i + 1) k' = bv at *
                go_wp2_with fail
                go_roundw
                case rel => exact ⟨k' + 1 + 1, by go_num, by omega, NR.out.set (by omega) _ DV.out⟩
                case measure => simp [intOf]; omega
          · have hc' : (c == 37) = false := by simpa using hc
            have RD := Lib.hid NR.out.row
            by_cases hk0 : k = 0
            · subst hk0
              have DV : Hid (false = dp P T (i + 1) 0) := Lib.hid (dZ.out hc).symm
              clear dM dZ dO hc
              go_wp2_with fail
              go_region
              all_goals
                go_wp2_with fail
                go_roundw
                case rel => exact ⟨0 + 1, by go_num, by omega, NR.out.drew.set (by omega) _ DV.out⟩
                case measure => simp [intOf]
            · obtain ⟨k', rfl⟩ : ∃ k', k = k' + 1 := ⟨k - 1, by omega⟩
              have DO := Lib.hid (dO.out k' (by omega) hc)
              have y0 := RD.out.cell k' (by omega)
              clear dM dZ dO hc
              cases ha : dp P T i k' with
              | false =>
                rw [ha] at y0
                have DV : Hid (false = dp P T (i + 1) (k' + 1)) := Lib.hid (by rw [DO.out, ha]; rfl)
                go_wp2_with fail
                go_region
                all_goals
                  go_wp2_with fail
                  go_roundw
                  case rel => exact ⟨k' + 1 + 1, by go_num, by omega, NR.out.drew.set (by omega) _ DV.out⟩
                  case measure => simp [intOf]; omega
              | true =>
                rw [ha] at y0
                by_cases h95 : c = 95
                · subst h95
                  have DV : Hid (true = dp P T (i + 1) (k' + 1)) := Lib.hid (by rw [DO.out, ha]; rfl)
                  go_wp2_with fail
                  go_region
                  all_goals
                    go_wp2_with fail
                    go_roundw
                    case rel => exact ⟨k' + 1 + 1, by go_num, by omega, NR.out.drew.set (by omega) _ DV.out⟩
                    case measure => simp [intOf]; omega
                · have b95 : (c == 95) = false := by simpa using h95
                  obtain ⟨bt, ot, rfl, hbt, hct⟩ := RT.out (by intro e; rw [e] at hkt; simp at hkt)
                  have z0 := (NR.out.below.cell (p := ⟨bt, ot + k', none⟩) hbt).trans (hct k' (by omega))
                  have DV : Hid ((c == T[k']) = dp P T (i + 1) (k' + 1)) := Lib.hid (by rw [DO.out, ha, b95]; simp)
                  clear hct
                  generalize T[k'] = d at *
                  go_wp2_with fail
                  go_region
                  all_goals
                    go_wp2_with fail
                    go_roundw
                    case rel => exact ⟨k' + 1 + 1, by go_num, by omega, NR.out.drew.set (by omega) _ DV.out⟩
                    case measure => simp [intOf]; omega
        · obtain rfl : k = T.length + 1 := by omega
          have FN := Lib.hid NR.out.finish
          go_wp2_with fail
          go_roundw
          case rel => exact ⟨g', i + 1, rfl, by go_num, by omega, FN.out⟩
          case measure => simp [intOf]; omega
    · obtain rfl : i = P.length := by omega
      have y0 := RR.out.row.cell T.length (by omega)
      have DV : Hid (globB (folded p) (folded s) = dp P T P.length T.length) := Lib.hid (by rw [hG.out, dp, List.take_length, List.take_length])
      have BB := Lib.hid (B2.out.trans (RR.out.below.mono B2.out.size))
      generalize dp P T P.length T.length = bv at *
      go_wp2_with fail
      go_ret
      exact ⟨by rw [DV.out]; rfl, BB.out⟩

end Go.Proofs.Ytkdebjampnfgjaa
