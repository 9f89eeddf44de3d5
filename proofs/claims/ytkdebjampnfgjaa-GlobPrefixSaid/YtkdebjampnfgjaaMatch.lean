/-
  PROVED: the contract of the program's 'Match'. Conditions: each theorem's own premises.
-/
import Derived.Test.YtkdebjampnfgjaaParts
namespace Go.Proofs.Ytkdebjampnfgjaa
open Go.RowKit
set_option linter.unusedVariables false

/-- The parts between the first and the last, each where it is found first. -/
def midB : List (List Int) → List Int → Bool
  | [], _ => true
  | q :: qs, t => match findN q t with
    | some i => midB qs (t.drop (i + q.length))
    | none => false

/-- What 'Match' answers, of a pattern's parts and folded runes. -/
def globC : List (List Int) → List Int → Bool
  | [], _ => false
  | [q], t => q.length == t.length && atB q t
  | q :: r :: rs, t =>
    let last := (r :: rs).getLast (by simp)
    decide (q.length + last.length ≤ t.length) && atB q t && atB last (t.drop (t.length - last.length)) &&
      midB (r :: rs).dropLast ((t.take (t.length - last.length)).drop q.length)
def globB (p t : List Int) : Bool := globC (split37 p) t

theorem globC_one {qs : List (List Int)} {F : List Int} (t : List Int) (hm : qs.length = 0 + 1) (hF : qs[0]? = some F) : globC qs t = (F.length == t.length && atB F t) := by
  match qs, hm with
  | [q], _ => simp at hF; subst hF; rfl
theorem globC_many {qs : List (List Int)} {F L : List Int} (t : List Int) (k : Nat) (hm : qs.length = k + 1 + 1) (hF : qs[0]? = some F) (hL : qs[k + 1]? = some L) :
    globC qs t = (decide (F.length + L.length ≤ t.length) && atB F t && atB L (t.drop (t.length - L.length)) && midB ((qs.drop 1).take k) ((t.take (t.length - L.length)).drop F.length)) := by
  match qs, hm with
  | q :: r :: rs, hm =>
    simp at hF
    subst hF
    simp at hm
    subst hm
    have e : (r :: rs).getLast (by simp) = L := by
      rw [List.getLast_eq_getElem]
      rw [List.getElem?_cons_succ] at hL
      obtain ⟨h1, h2⟩ := List.getElem?_eq_some_iff.1 hL
      simpa using h2
    have e2 : (r :: rs).dropLast = ((q :: r :: rs).drop 1).take rs.length := by
      rw [List.dropLast_eq_take]
      simp
    rw [globC, e, e2]
theorem atB_len {p t : List Int} (h : atB p t = true) : p.length ≤ t.length := by
  rcases Nat.lt_or_ge t.length p.length with h1 | h1
  · rw [atB_short p t h1] at h; cases h
  · exact h1
theorem findN_le (p t : List Int) (i : Nat) (h : findN p t = some i) : i + p.length ≤ t.length := by
  induction t generalizing i with
  | nil =>
    rw [findN] at h
    split at h
    · rename_i h1; cases h; have := atB_len h1; simpa using this
    · cases h
  | cons d t ih =>
    rw [findN] at h
    split at h
    · rename_i h1; cases h; have := atB_len h1; simpa using this
    · obtain ⟨k, hk, rfl⟩ := Option.map_eq_some_iff.1 h
      have := ih k hk
      simp; omega

theorem split37_each (p : List Int) : ∀ q ∈ split37 p, q.length ≤ p.length := by
  induction p with
  | nil => intro q hq; simp [split37] at hq; subst hq; simp
  | cons c p ih =>
    intro q hq
    rw [split37] at hq
    split at hq
    · rcases List.mem_cons.1 hq with rfl | h
      · simp
      · have := ih q h; simp; omega
    · cases h : split37 p with
      | nil => rw [h] at hq; simp at hq; subst hq; simp
      | cons r rs =>
        rw [h] at hq ih
        rcases List.mem_cons.1 hq with rfl | h2
        · have := ih r (by simp); simpa using this
        · have := ih q (by simp [h2]); simp; omega

/-- The parts lie one behind the other in block g. -/
def PartsAt (w : World) (g : Nat) (qs : List (List Int)) : Prop :=
  ∀ i (h : i < qs.length), ∃ a c, w.cell? ⟨g, i, none⟩ = some (.slice a qs[i].length c) ∧ qs[i].length ≤ c ∧ c ≤ maxLen ∧ qs[i].length ≤ 300 ∧ Rd w a qs[i]

theorem partsAt {w1 w2 w3 : World} {g cap : Nat} {xs : List Value} {qs : List (List Int)} (hrow : w2.ownsRow w1.heap.size 25 1 (.slice (some ⟨g, 0, none⟩) qs.length cap) qs.length xs) (hp : PartsV w1 xs qs) (h12 : Below w1.heap.size w1 w2) (h23 : Below w2.heap.size w2 w3) (hl : ∀ q ∈ qs, q.length ≤ 300) : PartsAt w3 g qs := by
  intro i hi
  have hix : i < xs.length := by rw [hp.len]; exact hi
  obtain ⟨a, c, h1, h2, h3, h4⟩ := hp.at_ i hix hi
  have hc := hrow.cells (g := g) rfl i xs[i] (by simp [hix])
  rw [Addr.add_lit, Nat.zero_add] at hc
  have hg := (hrow.lt g rfl).2
  refine ⟨a, c, ?_, h2, h3, hl _ (by simp), (h4.below h12).below h23⟩
  rw [← h1, ← hc]
  exact h23.cell (p := ⟨g, i, none⟩) hg
theorem PartsAt.below {w w' : World} {g : Nat} {qs : List (List Int)} (h : PartsAt w g qs) (hb : Below w.heap.size w w') : PartsAt w' g qs := by
  intro i hi
  obtain ⟨a, c, h1, h2, h3, h4, h5⟩ := h i hi
  exact ⟨a, c, (hb.cell (p := ⟨g, i, none⟩) (World.block_lt_of_cell? w _ h1)).trans h1, h2, h3, h4, h5.below hb⟩

theorem below_drewN {B : Nat} {a w : World} (h : Below B a w) (n : Nat) : Below B a (w.drewN n) := h.trans ⟨rfl, rfl, rfl, Nat.le_refl _, fun _ _ => rfl⟩

theorem Rd.ite {w : World} {a : Option Addr} {l : List Int} {c : Nat} (h : Rd w a l) (hc : l.length ≤ c) (i : Nat) : Rd w (if c = i then a else a.map fun x => x.add i) (l.drop i) := by
  split
  · exact Rd.dropEnd (by omega)
  · exact h.dropMap i
theorem find_n {w : World} {a b : Option Addr} {p t : List Int} {ca cb : Nat} (ha : Rd w a p) (hb : Rd w b t) (hca : p.length ≤ ca) (hcb : t.length ≤ cb) (hma : ca ≤ maxLen) (hmb : cb ≤ maxLen) (hp : p.length ≤ 300) (ht : t.length ≤ 300) (i : Option Nat) (hi : findN p t = i) :
    Calls Try.prog 16 #[.slice a p.length ca, .slice b t.length cb] w fun e w' => e = .returned (.int .i64 (asInt i)) ∧ w = w' := by
  subst hi
  exact find_any ha hb hca hcb hma hmb hp ht

def MidRel (W : World) (mid : List (List Int)) (R : Bool) (v6 v80 : Value) (w : World) : Prop :=
  ∃ (j : Nat) (tt : List Int) (a : Option Addr) (c : Nat), v80 = .int .i64 j ∧ j ≤ mid.length ∧ v6 = .slice a tt.length c ∧ tt.length ≤ c ∧ c ≤ maxLen ∧ tt.length ≤ 300 ∧ Rd W a tt ∧ midB (mid.drop j) tt = R ∧ w = W

def MatchEnd (w0 : World) (p s : ByteArray) (e : Ending) (w : World) : Prop := e = .returned (.bool (globB (folded p) (folded s))) ∧ Below w0.heap.size w0 w

set_option maxRecDepth 100000 in
set_option maxHeartbeats 8000000 in
theorem match_any (p s : ByteArray) (hp : p.size ≤ 300) (hs : s.size ≤ 300) (w : World) : Calls Try.prog 7 #[.string p, .string s] w (MatchEnd w p s) := by
  have FP := Lib.hid (fold_any p hp w)
  have FS := Lib.hid (fun w => fold_any s hs w)
  have hPl := Nat.le_trans (folded_length p) hp
  have hTl := Nat.le_trans (folded_length s) hs
  obtain ⟨P, hP⟩ : ∃ P, folded p = P := ⟨_, rfl⟩
  obtain ⟨T, hT⟩ : ∃ T, folded s = T := ⟨_, rfl⟩
  have hG : Hid (globB (folded p) (folded s) = globB P T) := Lib.hid (by rw [hP, hT])
  rw [hP] at hPl
  rw [hT] at hTl
  go_enter Try.func7, Try.ntmps7
  go_wp2_with fail
  refine FP.out.mono ?_
  rintro e w1 ⟨v1, rfl, row1, b1⟩
  rw [hP] at row1
  obtain ⟨a1, c1, rfl, r1, h1, h2⟩ := Rd.own rfl row1
  have PA := Lib.hid (parts_any r1 h1 h2 hPl)
  have B1 := Lib.hid b1
  clear row1 r1 b1 h1 h2
  go_wp2_with fail
  refine PA.out.mono ?_
  rintro e w2 ⟨v2, xs, rfl, row2, pv, b2⟩
  obtain ⟨m, hm⟩ : ∃ m, (split37 P).length = m + 1 := ⟨(split37 P).length - 1, by have := (split37_length P).1; omega⟩
  have hml : m ≤ 300 := by have := (split37_length P).2; omega
  obtain ⟨g, cap2, rfl, hgl, hc2⟩ : ∃ g cap2, v2 = .slice (some ⟨g, 0, none⟩) (split37 P).length cap2 ∧ (split37 P).length ≤ cap2 ∧ cap2 ≤ maxLen := by
    obtain ⟨g, cap, h, _⟩ := row2.form (by omega)
    obtain ⟨a, c, h1, h2, h3⟩ := own_shape row2
    rw [h1] at h
    cases h
    exact ⟨g, cap, h1, h2, h3⟩
  have PT0 := Lib.hid (fun w3 (h : Below w2.heap.size w2 w3) => partsAt row2 pv b2 h (fun q hq => Nat.le_trans (split37_each P q hq) hPl))
  have B2 := Lib.hid (B1.out.trans (b2.mono B1.out.size))
  clear row2 pv b2 PA
  go_wp2_with fail
  refine (FS.out w2).mono ?_
  rintro e w3 ⟨v3, rfl, row3, b3⟩
  rw [hT] at row3
  obtain ⟨a3, c3, rfl, r3, h3, h4⟩ := Rd.own rfl row3
  have PT := Lib.hid (PT0.out w3 b3)
  have R3 := Lib.hid r3
  have B3 := Lib.hid (B2.out.trans (b3.mono B2.out.size))
  clear row3 r3 b3 PT0 FP FS hP hT
  obtain ⟨qs, hqs⟩ : ∃ qs, split37 P = qs := ⟨_, rfl⟩
  rw [hqs] at hm PT hgl
  have HQ := Lib.hid hqs
  have HM := Lib.hid hm
  rw [hm] at hgl
  unfold maxLen at hc2 h4
  obtain ⟨aF, cF, x0, f1, f2, f3, rF⟩ := PT.out 0 (by omega)
  obtain ⟨aL, cL, xm, l1, l2, l3, rL⟩ := PT.out m (by omega)
  have hq0 := Lib.hid (show qs[0]? = some (qs[0]'(by omega)) by simp)
  have hqm := Lib.hid (show qs[m]? = some (qs[m]'(by omega)) by simp)
  have RF := Lib.hid rF
  have RL := Lib.hid rL
  generalize qs[0]'(by omega) = F at *
  generalize qs[m]'(by omega) = L at *
  unfold maxLen at f2 l2
  clear hqs hm rF rL
  go_wp2_with fail
  go_quiet (fail)
  have BD := below_drewN (Below.refl w3.heap.size w3) nq
  have PW := Lib.hid (PT.out.below BD)
  have RT := Lib.hid (R3.out.below BD)
  have RFW := Lib.hid (RF.out.below BD)
  have RLW := Lib.hid (RL.out.below BD)
  have BW := Lib.hid (below_drewN B3.out nq)
  clear PT R3 RF RL B1 B2 B3 x0 xm BD
  generalize w3.drewN nq = W at *
  by_cases hm0 : m = 0
  · subst hm0
    have GV := Lib.hid (hG.out.trans (show globB P T = (F.length == T.length && atB F T) by rw [globB, HQ.out, globC_one T HM.out hq0.out]))
    by_cases hl : F.length = T.length
    · have hb : ((F.length : Int) == T.length) = true := by simp [hl]
      have A := Lib.hid (at_any RFW.out RT.out f1 h3 (by unfold maxLen; omega) (by unfold maxLen; omega) f3 hTl)
      have HL := Lib.hid hl
      clear hl
      go_wp2_with fail
      refine A.out.mono ?_
      rintro e w' ⟨rfl, rfl⟩
      cases hat : atB F T
      all_goals
        go_wp2
        go_ret
        exact ⟨by rw [GV.out, hat]; simp [HL.out], BW.out⟩
    · have hb : ((F.length : Int) == T.length) = false := by simp; omega
      have HL := Lib.hid hl
      clear hl
      go_wp2
      go_ret
      exact ⟨by rw [GV.out]; simp [HL.out], BW.out⟩
  · obtain ⟨k, rfl⟩ : ∃ k, m = k + 1 := ⟨m - 1, by omega⟩
    have GV := Lib.hid (hG.out.trans (show globB P T = _ by rw [globB, HQ.out, globC_many T k HM.out hq0.out hqm.out]))
    by_cases hl : F.length + L.length ≤ T.length
    · have hl' : (F.length : Int) + L.length ≤ T.length := by omega
      have A := Lib.hid (at_any RFW.out RT.out f1 h3 (by unfold maxLen; omega) (by unfold maxLen; omega) f3 hTl)
      go_wp2_with fail
      refine A.out.mono ?_
      rintro e w' ⟨rfl, rfl⟩
      clear A
      cases hat : atB F T with
      | false =>
        go_wp2
        go_ret
        exact ⟨by rw [GV.out, hat]; simp, BW.out⟩
      | true =>
        obtain ⟨d, hd⟩ : ∃ d, T.length = d + L.length := ⟨T.length - L.length, by omega⟩
        have hsub : (T.length : Int) - L.length = (d : Int) := by omega
        have hsub2 : T.length - d = L.length := by omega
        have HD : Hid (T.length - L.length = d) := Lib.hid (by omega)
        have hdT : (d : Int) ≤ T.length := by omega
        have hdc : (d : Int) ≤ c3 := by omega
        have hFd : (F.length : Int) ≤ d := by omega
        have HAT := Lib.hid hat
        have HDT := Lib.hid hd
        obtain ⟨aD, hD, rD⟩ : ∃ aD, (if c3 = d then a3 else a3.map fun x => x.add d) = aD ∧ Rd W aD (T.drop d) := ⟨_, rfl, RT.out.ite h3 d⟩
        have A := Lib.hid (at_n (n := L.length) (m := L.length) (ca := cL) (cb := c3 - d) rfl (by rw [List.length_drop]; exact hsub2.symm) RLW.out rD l1 (by rw [List.length_drop]; omega) (by unfold maxLen; omega) (by unfold maxLen; omega) l3 (by rw [List.length_drop]; omega))
        clear hat rD hd
        go_wp2_with fail
        refine A.out.mono ?_
        rintro e w' ⟨rfl, rfl⟩
        clear A hD
        cases hat2 : atB L (T.drop d) with
        | false =>
          go_wp2
          go_ret
          exact ⟨by rw [GV.out, HD.out, hat2]; simp, BW.out⟩
        | true =>
          obtain ⟨aM, hM, rM⟩ : ∃ aM, (if c3 = F.length then a3 else a3.map fun x => x.add F.length) = aM ∧ Rd W aM ((T.take d).drop F.length) := by
            refine ⟨_, rfl, ?_⟩
            split
            · exact Rd.dropEnd (by rw [List.length_take]; omega)
            · exact (RT.out.take d).dropMap _
          have HML := Lib.hid (show d - F.length = ((T.take d).drop F.length).length by rw [List.length_drop, List.length_take]; omega)
          have HAT2 := Lib.hid hat2
          have hcap : ¬ cap2 = 1 := by omega
          have hk2 : (1 : Int) ≤ (k : Int) + 1 := by omega
          have RM := Lib.hid rM
          clear hat2 rM
          go_wp2_with fail
          clear hM
          obtain ⟨mid, hmid⟩ : ∃ mid, (qs.drop 1).take k = mid := ⟨_, rfl⟩
          have hmk : mid.length = k := by rw [← hmid, List.length_take, List.length_drop, HM.out]; omega
          have PM : Hid (∀ j (h : j < mid.length), ∃ a c, W.cell? ⟨g, 1 + j, none⟩ = some (.slice a mid[j].length c) ∧ mid[j].length ≤ c ∧ c ≤ maxLen ∧ mid[j].length ≤ 300 ∧ Rd W a mid[j]) := Lib.hid (fun j hj => by
            have hj2 : 1 + j < qs.length := by rw [HM.out]; omega
            have e : mid[j] = qs[1 + j] := by simp [← hmid, Nat.add_comm]
            rw [e]
            exact PW.out (1 + j) hj2)
          obtain ⟨M0, hM0⟩ : ∃ M0, (T.take d).drop F.length = M0 := ⟨_, rfl⟩
          have GV2 : Hid (globB (folded p) (folded s) = midB mid M0) := Lib.hid (by rw [GV.out, HD.out, HAT2.out, HAT.out, hmid, hM0]; simp; omega)
          have RM0 : Hid (Rd W aM M0) := Lib.hid (by rw [← hM0]; exact RM.out)
          have HML0 : Hid (d - F.length = M0.length) := Lib.hid (by rw [← hM0]; exact HML.out)
          have KM := Lib.hid hmk
          clear hmid hM0 GV RM HML hmk
          go_loopw [6, 80] (fun v6 v80 wr => MidRel W mid (midB mid M0) v6 v80 wr) (fun _ v80 _ => k - (intOf v80).toNat)
          case atStart => exact ⟨0, M0, aM, c3 - F.length, rfl, Nat.zero_le _, by rw [HML0.out], by rw [← HML0.out]; omega, by unfold maxLen; omega, by rw [← HML0.out]; omega, RM0.out, rfl, rfl⟩
          case round =>
            obtain ⟨j, tt, at', ct, rfl, hj, rfl, ht1, ht2, ht3, rt, hR, rfl⟩ := hrel
            rw [KM.out] at hj
            have RR := Lib.hid hR
            have RTT := Lib.hid rt
            unfold maxLen at ht2
            clear hR rt
            by_cases hlt : j < k
            · obtain ⟨aq, cq, y0, y1, y2, y3, rq⟩ := PM.out j (by rw [KM.out]; exact hlt)
              have hlt' : (j : Int) < k := by omega
              have hdr : Hid (mid.drop j = mid[j]'(by rw [KM.out]; exact hlt) :: mid.drop (j + 1)) := Lib.hid (List.drop_eq_getElem_cons _)
              generalize mid[j]'(by rw [KM.out]; exact hlt) = q at *
              have FN := Lib.hid (fun i hi => find_n rq RTT.out y1 ht1 y2 (by unfold maxLen; omega) y3 ht3 i hi)
              unfold maxLen at y2
              clear rq
              have HS := Lib.hid (fun (i : Nat) (h : findN q tt = some i) => findN_le q tt i h)
              have HX := Lib.hid (show midB (mid.drop j) tt = _ by rw [hdr.out, midB])
              cases hf : findN q tt with
              | none =>
                have HXX := Lib.hid (show midB (mid.drop j) tt = false by rw [HX.out, hf])
                go_wp2_with fail
                refine (FN.out none hf).mono ?_
                rintro e w' ⟨rfl, rfl⟩
                simp only [asInt]
                go_wp2
                go_ret
                exact ⟨by rw [GV2.out, ← RR.out, HXX.out]; rfl, BW.out⟩
              | some i =>
                have HXX := Lib.hid (show midB (mid.drop j) tt = midB (mid.drop (j + 1)) (tt.drop (i + q.length)) by rw [HX.out, hf])
                have hil := HS.out i hf
                have hil' : (i : Int) + q.length ≤ tt.length := by omega
                obtain ⟨aN, hN, rN⟩ : ∃ aN, (if ct = i + q.length then at' else at'.map fun x => x.add (i + q.length)) = aN ∧ Rd wr aN (tt.drop (i + q.length)) := ⟨_, rfl, RTT.out.ite ht1 _⟩
                have RN := Lib.hid rN
                have FF := Lib.hid (FN.out _ hf)
                clear hf rN HX HS FN
                go_wp2_with fail
                refine FF.out.mono ?_
                rintro e w' ⟨rfl, rfl⟩
                simp only [asInt]
                go_wp2
                go_roundw
                case rel => exact ⟨j + 1, tt.drop (i + q.length), aN, ct - (i + q.length), by go_num, by rw [KM.out]; omega, by rw [List.length_drop, hN], by rw [List.length_drop]; omega, by unfold maxLen; omega, by rw [List.length_drop]; omega, RN.out, by rw [← HXX.out]; exact RR.out, rfl⟩
                case measure => simp [intOf]; omega
            · obtain rfl : j = k := by omega
              have HXX : Hid (midB mid M0 = true) := Lib.hid (by rw [← RR.out, List.drop_eq_nil_of_le (by rw [KM.out]; omega)]; rfl)
              go_wp2
              go_ret
              exact ⟨by rw [GV2.out, HXX.out]; rfl, BW.out⟩
    · have hl' : (T.length : Int) < (F.length : Int) + L.length := by omega
      have HL := Lib.hid hl
      go_wp2
      go_ret
      exact ⟨by rw [GV.out]; simp [HL.out], BW.out⟩

end Go.Proofs.Ytkdebjampnfgjaa
