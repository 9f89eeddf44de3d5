/-
  PROVED: 'Rows.WaitDoesSaid': for every slice of acts that 'WaitDoes' is called with, it returns true. No conditions.
-/
import Derived.Test.YtpanakfbbdeihaaClass
import Derived.Deep.RegionHeld3
namespace Go.Proofs.Ytpanakfbbdeihaa.waitDoes
open Go.ChangeShapes Go.WideShapes Go.ChangeAt Go.RowKit
open Go.ChangeMaps (open_string shut_string)
set_option linter.unusedVariables false


/-- Behind whatever an act did: the queue, the reference's slice, what lies below. -/
theorem DoesRel.mk' {B : Nat} {w0 w : World} {Q M : Nat} {v : Value} {a : Option Addr} {cap : Nat} {ks : List Key} {n : Nat} (hn : n = ks.length) (hq : QAt B w Q M v ks) (hr : RefAt w a cap ks) (hb : Below B w0 w) : DoesRel B w0 Q M (.slice a n cap) ks w :=
  ⟨⟨v, hq⟩, ⟨a, cap, by rw [hn], hr⟩, hb⟩

set_option maxRecDepth 100000 in
set_option maxHeartbeats 8000000 in
theorem walk (a0 : Option Addr) (l : List Act) (cap0 : Nat) (w : World) (hc0 : l.length ≤ cap0) (hm0 : cap0 ≤ maxLen) (ha : ActsAt w a0 l) :
    Calls Try.prog 4 #[.slice a0 l.length cap0] w fun e w' => e = .returned (.bool true) ∧ Below w.heap.size w w' := by
  have L := Lib.hid (fun v : World => live_any v)
  have HA := Lib.hid ha
  clear ha
  unfold maxLen at hm0
  by_cases hlen : 150 < l.length
  · have hlen' : (150 : Int) < l.length := by omega
    go_enter Try.func4, Try.ntmps4
    go_wp2_with (go_at_call 6; refine (L.out _).mono ?_; rintro e w' ⟨rfl, hb2⟩)
    go_ret
    exact ⟨rfl, by assumption⟩
  have hl1 : (l.length : Int) ≤ 150 := by omega
  have N := Lib.hid (new_any w)
  go_enter Try.func4, Try.ntmps4
  go_wp2_with fail
  refine N.out.mono ?_
  rintro e w1 ⟨Q, M, v, rfl, hq, hb, hv⟩
  have R0 : Hid (DoesRel w.heap.size w Q M (.slice (some ⟨w1.heap.size, 0, none⟩) 0 0) [] (w1.alloc (.cells #[] 30))) := Lib.hid ⟨⟨v, hq.alloc _⟩, ⟨_, 0, rfl, ⟨fun h => absurd rfl h, (fun x _ h => absurd rfl h), Nat.le_refl _, by unfold maxLen; omega⟩⟩, hb.alloc hb.size _⟩
  clear hq hb hv N
  go_wp2_with fail
  go_loopw [4, 5] (fun vw i wr => DoesLoop w l.length Q M vw i wr) (fun _ i _ => l.length - (intOf i).toNat)
  case atStart => exact ⟨[], 0, rfl, Nat.zero_le _, R0.out⟩
  case round =>
    clear R0
    obtain ⟨ks, j, rfl, hj, hr⟩ := hrel
    by_cases hlt : j < l.length
    · obtain ⟨b, off, rfl, hbl, hcl⟩ := HA.out (by intro e; rw [e] at hlt; simp at hlt)
      have ac := hcl j hlt
      obtain ⟨x0, x1, x2, x3⟩ := ac.below hr.below hbl
      have AC := Lib.hid ac
      obtain ⟨v, hq⟩ := hr.q
      obtain ⟨a, cap, rfl, hra⟩ := hr.r
      have HB := Lib.hid hr.below
      have hBs := hr.below.size
      have QQ := Lib.hid hq
      have RR := Lib.hid hra
      have hlc := hra.le
      have hmc := hra.max
      have hk64 := hq.len
      unfold maxLen at hmc
      clear hcl ac hr hq hra
      generalize l[j] = x at *
      by_cases d0 : x.d = 0
      · rw [d0] at x0
        clear d0
        have RP := Lib.hid (rput_any (w := wr) RR.out.rd RR.out.le (by omega) RR.out.max x.o x.p)
        go_wp2_with fail
        refine RP.out.mono ?_
        rintro e w2 ⟨hb2, hE⟩
        have BB2 := Lib.hid (HB.out.trans (hb2.mono hBs))
        have hBs2 : w.heap.size ≤ w2.heap.size := BB2.out.size
        obtain ⟨y0, y1, y2, y3⟩ := AC.out.below BB2.out hbl
        have Q2 := Lib.hid (QQ.out.below hb2)
        have R2 := Lib.hid (RR.out.below hb2)
        clear hb2 RP x0 x1 x2 x3
        rcases hE with ⟨rfl, hn⟩ | ⟨v', rfl, hn, hown, _⟩
        · have HN := Lib.hid hn
          clear hn
          go_wp2_with fail
          refine (key_any _ _ _).mono ?_
          rintro e w3 ⟨rfl, hb3⟩
          have BB3 := Lib.hid (BB2.out.trans (hb3.mono hBs2))
          have hBs3 : w.heap.size ≤ w3.heap.size := BB3.out.size
          have Q3 := Lib.hid (Q2.out.below hb3)
          have R3 := Lib.hid (R2.out.below hb3)
          have P := Lib.hid (put_any Q3.out x.o x.p)
          clear hb3 y0 y1 y2 y3
          go_wp2_with fail
          refine P.out.mono ?_
          intro e w4 h
          obtain ⟨rfl, v4, q4, o4⟩ := h.to (b := false) (ls := ks) (decide_eq_false HN.out) (by rw [if_neg HN.out])
          have BB4 := Lib.hid (BB3.out.trans (o4.below (fun x hx => (Q3.out.lt x hx).1) hBs3))
          have Q4 := Lib.hid q4
          have R4 := Lib.hid (R3.out.only Q3.out o4)
          have C := Lib.hid (len_any q4)
          clear h q4 o4 P
          go_wp2_with fail
          refine C.out.mono ?_
          rintro e w5 ⟨rfl, rfl⟩
          go_wp2
          go_roundw
          case rel => exact ⟨ks, j + 1, by go_num, by omega, DoesRel.mk' rfl Q4.out R4.out BB4.out⟩
          case measure => simp [intOf]; omega
        · have hle : (ks ++ [(x.o, x.p)]).length = ks.length + 1 := by simp
          obtain ⟨a', cap', rfl, hr'⟩ := RefAt.own (ks := ks ++ [(x.o, x.p)]) (by rw [hle]; exact hown)
          have HN := Lib.hid hn
          have RN := Lib.hid hr'
          have HLE := Lib.hid hle
          have hlc' := hr'.le
          have hmc' := hr'.max
          unfold maxLen at hmc'
          rw [hle] at hlc'
          rw [hle]
          clear hn hr' hown hle
          go_wp2_with fail
          refine (key_any _ _ _).mono ?_
          rintro e w3 ⟨rfl, hb3⟩
          have BB3 := Lib.hid (BB2.out.trans (hb3.mono hBs2))
          have hBs3 : w.heap.size ≤ w3.heap.size := BB3.out.size
          have Q3 := Lib.hid (Q2.out.below hb3)
          have R3 := Lib.hid (RN.out.below hb3)
          have P := Lib.hid (put_any Q3.out x.o x.p)
          clear hb3 y0 y1 y2 y3
          go_wp2_with fail
          refine P.out.mono ?_
          intro e w4 h
          obtain ⟨rfl, v4, q4, o4⟩ := h.to (b := true) (ls := ks ++ [(x.o, x.p)]) (decide_eq_true HN.out) (by rw [if_pos HN.out])
          have BB4 := Lib.hid (BB3.out.trans (o4.below (fun x hx => (Q3.out.lt x hx).1) hBs3))
          have Q4 := Lib.hid q4
          have R4 := Lib.hid (R3.out.only Q3.out o4)
          have C := Lib.hid (len_any q4)
          clear h q4 o4 P
          go_wp2_with fail
          refine C.out.mono ?_
          rintro e w5 ⟨rfl, rfl⟩
          rw [HLE.out]
          go_wp2
          go_roundw
          case rel => exact ⟨_, j + 1, by go_num, by omega, DoesRel.mk' HLE.out.symm Q4.out R4.out BB4.out⟩
          case measure => simp [intOf]; omega
      have hd0 : (x.d == 0) = false := by simpa using d0
      by_cases d1 : x.d = 1
      · rw [d1] at x0
        clear d0 d1 hd0
        have P := Lib.hid (pop_any QQ.out)
        go_wp2_with fail
        refine P.out.mono ?_
        rintro e w2 ⟨v2, he, q2, o2, _⟩
        have BB2 := Lib.hid (HB.out.trans (o2.below (fun x hx => (QQ.out.lt x hx).1) hBs))
        have hBs2 : w.heap.size ≤ w2.heap.size := BB2.out.size
        have Q2 := Lib.hid q2
        have R2 := Lib.hid (RR.out.only QQ.out o2)
        clear q2 o2 P x0 x1 x2 x3
        by_cases hk0 : ks = []
        · subst hk0
          subst he
          have Q3 := Lib.hid (Q2.out.alloc (.cells #[.int .i64 0, .int .i64 0] 28))
          have R3 := Lib.hid (R2.out.below ((Below.refl _ _).alloc (Nat.le_refl _) (.cells #[.int .i64 0, .int .i64 0] 28)))
          have BB3 := Lib.hid (BB2.out.alloc hBs2 (.cells #[.int .i64 0, .int .i64 0] 28))
          have C := Lib.hid (fun n => len_any (Q3.out.drewN n))
          go_wp2_with fail
          go_quiet (fail)
          go_wp2_with fail
          refine (C.out _).mono ?_
          rintro e w5 ⟨rfl, rfl⟩
          go_wp2
          go_roundw
          case rel => exact ⟨[], j + 1, by go_num, by omega, DoesRel.mk' rfl (Q3.out.drewN _) (R3.out.below (below_drewN (Below.refl _ _) _)) (below_drewN BB3.out _)⟩
          case measure => simp [intOf]; omega
        · obtain ⟨k, r, hks⟩ := List.exists_cons_of_ne_nil hk0
          have HK := Lib.hid hks
          have e1 : (!ks.isEmpty) = true := by rw [hks]; rfl
          have e2 : ks.headD (0, 0) = k := by rw [hks]; rfl
          rw [e1, e2] at he
          subst he
          have hn0 : 0 < ks.length := by rw [hks]; simp
          have hn1 : (0 : Int) < ks.length := by omega
          have Q2' : Hid (QAt w.heap.size w2 Q M v2 r) := Lib.hid (by have := Q2.out; rw [hks] at this; exact this)
          have HLR := Lib.hid (show r.length = ks.length - 1 by rw [hks]; simp)
          clear e1 e2 hks hk0 Q2
          obtain ⟨X, hX⟩ : ∃ X, w2.alloc (.cells #[.int .i64 k.1, .int .i64 k.2] 28) = X := ⟨_, rfl⟩
          have Q3 := Lib.hid (show QAt w.heap.size X Q M v2 r from hX ▸ Q2'.out.alloc (.cells #[.int .i64 k.1, .int .i64 k.2] 28))
          have R3 := Lib.hid (show RefAt X a cap ks from hX ▸ R2.out.below ((Below.refl _ _).alloc (Nat.le_refl _) (.cells #[.int .i64 k.1, .int .i64 k.2] 28)))
          have BB3 := Lib.hid (show Below w.heap.size w X from hX ▸ BB2.out.alloc hBs2 (.cells #[.int .i64 k.1, .int .i64 k.2] 28))
          have bx : X.heap[w2.heap.size]? = some (.cells #[.int .i64 k.1, .int .i64 k.2] 28 (0, 0)) := hX ▸ newest _ _
          have BXX := Lib.hid bx
          have z0 : X.cell? ⟨w2.heap.size, 0, none⟩ = some (.int .i64 k.1) := by simp [World.cell?, bx]
          have z1 : X.cell? ⟨w2.heap.size, 1, none⟩ = some (.int .i64 k.2) := by simp [World.cell?, bx]
          obtain ⟨b', off', rfl, hb', hc'⟩ := R3.out.rd (by intro e; rw [e] at hn0; simp at hn0)
          obtain ⟨y0, y1⟩ := hc' 0 hn0
          have ek : ks[0] = k := by have := HK.out; subst this; rfl
          rw [ek] at y0 y1
          simp only [Nat.zero_mul, Nat.add_zero] at y0 y1
          have hXs : w.heap.size ≤ X.heap.size := BB3.out.size
          have hXX : Below X.heap.size X X := Below.refl _ _
          clear bx hc' ek
          go_wp2_with fail
          clear hX
          have hG : KeyG X w2.heap.size b' off' k k X := ⟨z0, z1, y0, y1, hXX, lt_of_block BXX.out, hb'⟩
          have hG' : KeyG X w2.heap.size b' off' k k X.drew := ⟨z0, z1, y0, y1, hXX.drew, lt_of_block BXX.out, hb'⟩
          have F0 : ∀ i : Of (KeyG X w2.heap.size b' off' k k), i.val.cell? ⟨w2.heap.size, 0, none⟩ = some (.int .i64 k.1) := fun i => i.property.x0
          have F1 : ∀ i : Of (KeyG X w2.heap.size b' off' k k), i.val.cell? ⟨w2.heap.size, 1, none⟩ = some (.int .i64 k.2) := fun i => i.property.x1
          have F2 : ∀ i : Of (KeyG X w2.heap.size b' off' k k), i.val.cell? ⟨b', off', none⟩ = some (.int .i64 k.1) := fun i => i.property.y0
          have F3 : ∀ i : Of (KeyG X w2.heap.size b' off' k k), i.val.cell? ⟨b', off' + 1, none⟩ = some (.int .i64 k.2) := fun i => i.property.y1
          clear z0 z1 y0 y1 hXX hG
          refine wp_region_class (G := KeyG X w2.heap.size b' off' k k) (by kernel_rfl) (by kernel_rfl) hG' ?_
          repeat (go_big_quiet_step (first | rfl | (go_at_call 9; exact key_class _ _ _)))
          refine wpQuiet_nil ?_
          rintro Y ⟨⟨_, hY⟩, rfl⟩
          clear F0 F1 F2 F3 hG'
          have HY := Lib.hid hY.below
          clear hY
          have hc1 : 1 ≤ cap := by omega
          have R4 : Hid (RefAt Y (some ⟨b', off', none⟩) cap (k :: r)) := Lib.hid (by have := R3.out.below HY.out; rw [HK.out] at this; exact this)
          have Q4 := Lib.hid (Q3.out.below HY.out)
          have BB4 := Lib.hid (BB3.out.trans (HY.out.mono hXs))
          have C := Lib.hid (len_any Q4.out)
          by_cases hcap : cap = 1
          · subst hcap
            have hrn : r.length = 0 := by rw [HLR.out]; omega
            go_wp2_with fail
            refine C.out.mono ?_
            rintro e w5 ⟨rfl, rfl⟩
            rw [hrn]
            go_wp2
            go_roundw
            case rel => exact ⟨r, j + 1, by go_num, by omega, DoesRel.mk' hrn.symm Q4.out (R4.out.tail _ (fun h => absurd (List.length_eq_zero_iff.1 hrn) h)) BB4.out⟩
            case measure => simp [intOf]; omega
          · go_wp2_with fail
            refine C.out.mono ?_
            rintro e w5 ⟨rfl, rfl⟩
            rw [← HLR.out]
            go_wp2
            go_roundw
            case rel => exact ⟨r, j + 1, by go_num, by omega, DoesRel.mk' rfl Q4.out (R4.out.tail _ (fun _ => rfl)) BB4.out⟩
            case measure => simp [intOf]; omega
      have hd1 : (x.d == 1) = false := by simpa using d1
      by_cases d2 : x.d = 2
      · rw [d2] at x0
        clear d0 d1 d2 hd0
        have S := Lib.hid (split_any (w := wr) RR.out.rd RR.out.le (by omega) RR.out.max x.n 1000)
        go_wp2_with fail
        refine S.out.mono ?_
        rintro e w2 ⟨va, vb, rfl, hS⟩
        obtain ⟨aa, ca, rfl, ha⟩ := RefAt.own hS.ra
        obtain ⟨ab, cb, rfl, hb'⟩ := RefAt.own hS.rb
        have BB2 := Lib.hid (HB.out.trans (hS.below.mono hBs))
        have hBs2 : w.heap.size ≤ w2.heap.size := BB2.out.size
        obtain ⟨y0, y1, y2, y3⟩ := AC.out.below BB2.out hbl
        have Q2 := Lib.hid (QQ.out.below hS.below)
        have R2 := Lib.hid hb'
        have D := Lib.hid (drop_any Q2.out x.n)
        have hAl := tk_length ks (ofo x.n) 1000 ks.length
        have hKl := kp_length ks (dl ks (ofo x.n) 1000) ks.length
        clear hS ha hb' S x0 x1 x2 x3 y0 y1 y2
        go_wp2_with fail
        refine D.out.mono ?_
        rintro e w3 ⟨v3, rfl, q3, o3, _⟩
        rw [all_tk ks (ofo x.n) ks.length 1000 (by omega) (by omega) ks.length (Nat.le_refl _)]
        rw [all_kp ks (ofo x.n) ks.length 1000 (by omega) (by omega) ks.length (Nat.le_refl _)] at q3
        have BB3 := Lib.hid (BB2.out.trans (o3.below (fun x hx => (Q2.out.lt x hx).1) hBs2))
        have R3 := Lib.hid (R2.out.only Q2.out o3)
        have Q3 := Lib.hid q3
        have C := Lib.hid (len_any q3)
        clear q3 o3 D y3
        go_wp2_with fail
        refine C.out.mono ?_
        rintro e w5 ⟨rfl, rfl⟩
        go_wp2
        go_roundw
        case rel => exact ⟨_, j + 1, by go_num, by omega, DoesRel.mk' rfl Q3.out R3.out BB3.out⟩
        case measure => simp [intOf]; omega
      have hd2 : (x.d == 2) = false := by simpa using d2
      by_cases d3 : x.d = 3
      · rw [d3] at x0
        clear d0 d1 d2 d3 hd0 hd1
        obtain ⟨X, hX⟩ : ∃ X, wr.alloc (.cells #[] 30) = X := ⟨_, rfl⟩
        have bX : Below wr.heap.size wr X := hX ▸ (Below.refl _ _).alloc (Nat.le_refl _) _
        have hXs : wr.heap.size < X.heap.size := by rw [← hX]; simp
        have BX := Lib.hid (HB.out.trans (bX.mono hBs))
        have QX := Lib.hid (QQ.out.below bX)
        have RX := Lib.hid (RR.out.below bX)
        obtain ⟨y0, y1, y2, y3⟩ := AC.out.below BX.out hbl
        have hbX : b < X.heap.size := by omega
        by_cases hk0 : ks = []
        · subst hk0
          have A2 : Hid (RefAt X (some ⟨wr.heap.size, 0, none⟩) 0 []) := Lib.hid ⟨fun h => absurd rfl h, (fun x _ h => absurd rfl h), Nat.le_refl _, by unfold maxLen; omega⟩
          have BB2 := BX
          have hBs2 : w.heap.size ≤ X.heap.size := BX.out.size
          have Q2 := QX
          have R2 := RX
          have Bt := Lib.hid (batch_any QX.out x.n)
          clear x1 x2 x3 y0 y1 y2
          go_wp2_with fail
          clear hX x0
          refine Bt.out.mono ?_
          rintro e w3 ⟨tv, v3, rfl, ht, q3, o3, _⟩
          obtain ⟨at', ct, rfl, hrt, hct, hmt⟩ := RdAt.own rfl ht
          have BB3 := Lib.hid (BB2.out.trans (o3.below (fun x hx => (Q2.out.lt x hx).1) hBs2))
          have hBs3 : w.heap.size ≤ w3.heap.size := BB3.out.size
          have A3 := Lib.hid (A2.out.only Q2.out o3)
          have R3 := Lib.hid (R2.out.only Q2.out o3)
          have Q3 := Lib.hid q3
          have T := Lib.hid (told_any (ks := []) hrt hct (by simp) hmt)
          clear ht q3 o3 hrt Bt
          go_wp2_with fail
          refine T.out.mono ?_
          rintro e w4 ⟨tv4, rfl, hT⟩
          have hrow := hT.row
          rw [List.take_length] at hrow
          obtain ⟨a4, c4, rfl, hr4, hc4, hm4⟩ := RdAt.own rfl hrow
          have BB4 := Lib.hid (BB3.out.trans (hT.below.mono hBs3))
          have hBs4 : w.heap.size ≤ w4.heap.size := BB4.out.size
          have A4 := Lib.hid (A3.out.below hT.below)
          have R4 := Lib.hid (R3.out.below hT.below)
          have Q4 := Lib.hid (Q3.out.below hT.below)
          have Sm := Lib.hid (same_any hr4 A4.out.rd hc4 A4.out.le (by simp) hm4 A4.out.max)
          clear hT hrow hr4 T
          go_wp2_with fail
          refine Sm.out.mono ?_
          rintro e w5 ⟨rfl, n5, rfl⟩
          have C := Lib.hid (len_any (Q4.out.drewN n5))
          go_wp2_with fail
          refine C.out.mono ?_
          rintro e w6 ⟨rfl, rfl⟩
          go_wp2
          go_roundw
          case rel => exact ⟨_, j + 1, by go_num, by omega, DoesRel.mk' rfl (Q4.out.drewN n5) (R4.out.below (below_drewN (Below.refl _ _) n5)) (below_drewN BB4.out n5)⟩
          case measure => simp [intOf]; omega
        · obtain ⟨k, r, hks⟩ := List.exists_cons_of_ne_nil hk0
          have hn0 : 0 < ks.length := by rw [hks]; simp
          have hn1 : (0 : Int) < ks.length := by omega
          have e2 : ks.headD (0, 0) = k := by rw [hks]; rfl
          obtain ⟨b', off', rfl, hb', hc'⟩ := RX.out.rd (by intro e; rw [e] at hn0; simp at hn0)
          obtain ⟨z0, z1⟩ := hc' 0 hn0
          have ek : ks[0] = k := by simp [hks]
          rw [ek] at z0 z1
          simp only [Nat.zero_mul, Nat.add_zero] at z0 z1
          have S := Lib.hid (split_any (w := X.drew) (RX.out.rd.below (Below.refl X.heap.size X).drew (fun x hx hne => RX.out.lt x hx hne)) RX.out.le (by omega) RX.out.max k.1 x.n)
          have HK := Lib.hid hks
          have E2 := Lib.hid e2
          clear e2 hc' ek x1 x2 x3 hks hk0
          go_wp2_with fail
          clear hX x0
          go_region_with (go_at_call 12; refine S.out.mono ?_; rintro e w2 ⟨va, vb, rfl, hS⟩; have HS := Lib.hid hS; clear hS)
          all_goals
            obtain ⟨aa, ca, rfl, ha⟩ := RefAt.own HS.out.ra
            obtain ⟨ab, cb, rfl, hbb⟩ := RefAt.own HS.out.rb
            have hBS := HS.out.below
            have HBX : Below X.heap.size X w2 := (Below.refl X.heap.size X).drew.trans (by simpa using hBS)
            have BB2 := Lib.hid (BX.out.trans (HBX.mono (by omega)))
            have hBs2 : w.heap.size ≤ w2.heap.size := BB2.out.size
            obtain ⟨u0, u1, u2, u3⟩ := AC.out.below BB2.out hbl
            have Q2 := Lib.hid (QX.out.below HBX)
            have A2 := Lib.hid ha
            have R2 := Lib.hid hbb
            have Bt := Lib.hid (batch_any Q2.out x.n)
            have hAl := tk_length ks (ofo k.1) x.n ks.length
            have hKl := kp_length ks (dl ks (ofo k.1) x.n) ks.length
            clear HS hBS HBX ha hbb S y0 y1 y2 y3 z0 z1 u0 u1 u2
            go_wp2_with fail
            refine Bt.out.mono ?_
            rintro e w3 ⟨tv, v3, rfl, ht, q3, o3, _⟩
            rw [E2.out] at ht q3
            obtain ⟨at', ct, rfl, hrt, hct, hmt⟩ := RdAt.own rfl ht
            have BB3 := Lib.hid (BB2.out.trans (o3.below (fun x hx => (Q2.out.lt x hx).1) hBs2))
            have hBs3 : w.heap.size ≤ w3.heap.size := BB3.out.size
            have A3 := Lib.hid (A2.out.only Q2.out o3)
            have R3 := Lib.hid (R2.out.only Q2.out o3)
            have Q3 := Lib.hid q3
            have T := Lib.hid (told_any hrt hct (by omega) hmt)
            clear ht q3 o3 hrt Bt
            go_wp2_with fail
            refine T.out.mono ?_
            rintro e w4 ⟨tv4, rfl, hT⟩
            have hrow := hT.row
            rw [List.take_length] at hrow
            obtain ⟨a4, c4, rfl, hr4, hc4, hm4⟩ := RdAt.own rfl hrow
            have BB4 := Lib.hid (BB3.out.trans (hT.below.mono hBs3))
            have hBs4 : w.heap.size ≤ w4.heap.size := BB4.out.size
            have A4 := Lib.hid (A3.out.below hT.below)
            have R4 := Lib.hid (R3.out.below hT.below)
            have Q4 := Lib.hid (Q3.out.below hT.below)
            have Sm := Lib.hid (same_any hr4 A4.out.rd hc4 A4.out.le (by omega) hm4 A4.out.max)
            clear hT hrow hr4 T
            go_wp2_with fail
            refine Sm.out.mono ?_
            rintro e w5 ⟨rfl, n5, rfl⟩
            have C := Lib.hid (len_any (Q4.out.drewN n5))
            go_wp2_with fail
            refine C.out.mono ?_
            rintro e w6 ⟨rfl, rfl⟩
            go_wp2
            go_roundw
            case rel => exact ⟨_, j + 1, by go_num, by omega, DoesRel.mk' rfl (Q4.out.drewN n5) (R4.out.below (below_drewN (Below.refl _ _) n5)) (below_drewN BB4.out n5)⟩
            case measure => simp [intOf]; omega
      have hd3 : (x.d == 3) = false := by simpa using d3
      have C := Lib.hid (len_any QQ.out)
      clear x1 x2 x3
      go_wp2_with fail
      refine C.out.mono ?_
      rintro e w5 ⟨rfl, rfl⟩
      go_wp2
      go_roundw
      case rel => exact ⟨ks, j + 1, by go_num, by omega, DoesRel.mk' rfl QQ.out RR.out HB.out⟩
      case measure => simp [intOf]; omega
    · have HB := Lib.hid hr.below
      clear hr
      go_wp2_with (go_at_call 6; refine (L.out _).mono ?_; rintro e w' ⟨rfl, hb2⟩)
      go_ret
      exact ⟨rfl, HB.out.trans (Below.mono (by assumption) HB.out.size)⟩

set_option maxRecDepth 100000 in
theorem lifted (os : Os) (started : os.Started) (H : Type) (enc : TypeId × Value → H) :
    ReturnsInHanded {} Try.checked os 4 .any (Rows.waitDoesSpec.pre6 enc Try.prog Try.f4 Rows.waitDoesRow.domain false) (Rows.waitDoesSpec.post enc Try.prog Try.f4 false true false false) := by
  refine returnsInHanded_of_change (C := Try.checked) own started (by kernel_rfl) Try.func4
    (ChangeSpec.witness6 (enc := enc) (C := Try.checked) false ⟨#[], #[.slice none 0 0], []⟩ 8 (by kernel_rfl) (by kernel_rfl) (by kernel_rfl) (by kernel_rfl)) ?_
  intro W base args ds gs before hval0 hW hcnd _
  have hval : ∀ (j : Nat) t v, Try.f4.params[j]? = some t → args[j]? = some v → Value.okWide Try.prog W .any base t v := hval0
  have hW' := hW
  obtain ⟨p, q, hA0, hV, rfl, hfz, hnd⟩ := hW
  have hA : DataW.TrodAll enc Try.prog W 0 (fun _ => true) true Try.f4.params.toList args.toList ds p := hA0
  rw [Try.params4] at hA hval
  obtain ⟨v0, vs0, d0, ds0, p0, q0, hargs, rfl, rfl, h0, r0⟩ := trodAll_cons hA
  obtain ⟨rfl, rfl, rfl⟩ := trodAll_nil r0
  obtain rfl : args = #[v0] := by cases args; simp_all
  obtain ⟨rfl, rfl⟩ := trodVars_none hV
  obtain ⟨a0, len0, cap0, rfl⟩ := okWide_slice Try.underlying34 (hval 0 34 v0 rfl rfl)
  have k0 := h0
  have lt0 : ∀ x ∈ p0, x.block < W.heap.size := by obtain ⟨m, hm⟩ := k0; exact DataW.trod_lt m _ _ _ hm
  obtain ⟨l, rfl, hc0, hm0, hr0⟩ : ∃ l : List Act, len0 = l.length ∧ l.length ≤ cap0 ∧ cap0 ≤ maxLen ∧ ActsAt W a0 l := by
    obtain ⟨fuel, hf⟩ := h0
    exact open_acts hf
  clear hA0 hval0
  refine (walk a0 l cap0 W hc0 hm0 hr0).mono fun e W' ⟨he, bel⟩ => ?_
  subst he
  exact ⟨_, rfl, _, _, _, [], _, [], hW', trodAll_mk1 (shut_bool Try.underlying4 _), (trodAll_cons_mk (Below.trod laidOut (by kernel_rfl) (of_decide_eq_true (by kernel_rfl)) k0 bel lt0) trodAll_mk0), rfl, bel.frame _, fun h => by cases h⟩

theorem over : Rows.waitDoesRow.holds Try.pinned (OpenSpec.ofChange Rows.waitDoesSpec) :=
  OpenClaim.holds_of_wide 4 Try.f4 rfl rfl rfl rfl rfl rfl rfl ⟨rfl, rfl, rfl, rfl, rfl⟩ rfl rfl rfl rfl rfl (by kernel_rfl) Try.func4 (by kernel_rfl)
    (of_decide_eq_true (by kernel_rfl)) (by unfold Func.isWrapper; first | (rw [if_pos (by decide +kernel)]; kernel_rfl) | (rw [if_neg (by decide +kernel)]; exact ⟨rfl, rfl⟩))
    (fun os started H enc _ => lifted os started H enc)

/-- THE STATEMENT. -/
theorem proved : Rows.WaitDoesSaid := over
#print axioms proved
end Go.Proofs.Ytpanakfbbdeihaa.waitDoes
