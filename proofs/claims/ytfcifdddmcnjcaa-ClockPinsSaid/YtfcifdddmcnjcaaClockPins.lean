/-
  PROVED: 'Rows.ClockPinsSaid': for every number, every slice of acts and every slot that 'ClockPins' is called with, it returns true. No conditions.
-/
import Derived.Test.YtfcifdddmcnjcaaPivot
namespace Go.Proofs.Ytfcifdddmcnjcaa.clockPins
open Go.ChangeShapes Go.WideShapes Go.ChangeAt Go.RowKit
open Go.ChangeMaps (open_string shut_string)
open Go.BigFrame
set_option linter.unusedVariables false
set_option linter.unusedSimpArgs false

/-- A slot that is taken and pinned. -/
def Held (f : Nat → Slot) (p : Nat) : Prop := (f p).t = true ∧ 1 ≤ (f p).p

theorem held_put {f : Nat → Slot} {p i : Nat} {x : Slot} (h : Held f p) (hx : p = i → x.t = true ∧ 1 ≤ x.p) : Held (put f i x) p := by
  unfold Held put
  by_cases e : p = i
  · rw [if_pos e]; exact hx e
  · rw [if_neg e]; exact h
theorem held_set {n : Nat} {f : Nat → Slot} {p : Nat} {i : Int} (h : Held f p) : Held (setS n f i) p := by
  unfold setS
  split
  · exact held_put h (fun e => ⟨rfl, by rw [← e]; exact h.2⟩)
  · exact h
theorem held_step {n : Nat} {f : Nat → Slot} {p : Nat} {d i : Int} (h : Held f p) (hne : ¬ (i = p ∧ (d = 3 ∨ d = 4))) : Held (stepS n d i f) p := by
  unfold stepS
  split
  · unfold useS; split
    · exact held_put h (fun e => by rw [← e]; exact h)
    · exact h
  split
  · unfold pinS; split
    · exact held_put h (fun e => by rw [← e]; exact ⟨h.1, by have := h.2; simp only; omega⟩)
    · exact h
  split
  · rename_i hd
    unfold unpinS; split
    · rename_i hh
      obtain ⟨j, hj, rfl, _⟩ := has_in hh
      exact held_put h (fun e => absurd ⟨by rw [e]; rfl, .inl hd⟩ hne)
    · exact h
  split
  · rename_i hd
    unfold freeS; split
    · rename_i hh
      simp [within] at hh
      exact held_put h (fun e => absurd ⟨by omega, .inr hd⟩ hne)
    · exact h
  split
  · exact held_set h
  · exact h
theorem held_take {n h p : Nat} {f : Nat → Slot} (hf : Held f p) (hp : p < n) (hh : h < n ∨ h = 0) (hpos : ∀ j, j < n → 0 ≤ (f j).p) :
    Held (takeR n f h).2.2.1 p ∧ ((takeR n f h).2.1 = true → (takeR n f h).1 ≠ p ∧ (takeR n f h).1 < n) := by
  have hh' : h < n := by rcases hh with h1 | h1 <;> omega
  unfold takeR
  split
  · rename_i i e
    obtain ⟨h1, h2, _⟩ := ff_some.1 e
    exact ⟨held_set hf, fun _ => ⟨(fun e => by simp only at e; rw [e, hf.1] at h2; cases h2), h1⟩⟩
  · split
    · split
      · rename_i i f' h' hr
        obtain ⟨l1, l2, l3, l4⟩ := rnd_law n (by omega) _ _ _ _ hh' hr
        have hf' : Held f' p := ⟨by rw [(l4 p).1]; exact hf.1, by rw [(l4 p).2]; exact hf.2⟩
        exact ⟨held_set hf', fun _ => ⟨(fun e => by simp only at e l3; rw [e] at l3; have := hf.2; omega), l1⟩⟩
      · exact ⟨hf, (fun h => by cases h)⟩
    · exact ⟨hf, (fun h => by cases h)⟩

structure PinsRel (A : Nat) (w0 : World) (C n p : Nat) (f : Nat → Slot) (h m : Nat) (w : World) : Prop where
  k : ClockAt w A C A n f h
  pins : PinsLe n m f
  held : Held f p
  below : Below A w0 w
def PinsLoop (w0 : World) (len A C n p : Nat) (v8 : Value) (w : World) : Prop :=
  ∃ (f : Nat → Slot) (h j : Nat), v8 = .int .i64 j ∧ j ≤ len ∧ PinsRel A w0 C n p f h (j + 1) w

/-- Ahead of 'do'. -/
theorem before {w0 w w4 : World} {A C n p : Nat} {f : Nat → Slot} {h m b off : Nat} {x : Act} {D T U P : Nat} (ac : ActCells w0 b off x) (hr : PinsRel A w0 C n p f h m w) (hAw : A ≤ w.heap.size) (hbA : b < A)
    (r : RefAt w4 w.heap.size D T U P n (fun _ => zeroSlot) 0) (hb : Below w.heap.size w.drew w4) :
    Hid (ClockAt w4 A C A n f h) ∧ Hid (RefAt w4 w.heap.size D T U P n (fun _ => zeroSlot) 0) ∧ w4.cell? ⟨b, off, none⟩ = some (.int .i64 x.d) ∧ w4.cell? ⟨b, off + 1, none⟩ = some (.int .i64 x.i) ∧ C < w.heap.size ∧ A < w.heap.size ∧ Hid (Below w.heap.size w w4) := by
  have hb' : Below w.heap.size w w4 := (Below.refl w.heap.size w).drew.trans hb
  have := ac.below (hr.below.trans (hb'.mono hAw)) hbA
  exact ⟨Lib.hid (hr.k.below hb'), Lib.hid r, this.1, this.2, lt_of_block' hr.k.c, hr.k.slots.lt, Lib.hid hb'⟩
/-- Behind 'do'. -/
theorem behind {w0 w w4 w5 : World} {A C n p : Nat} {f f' : Nat → Slot} {h m b off B' : Nat} {x : Act} {D T U P : Nat} {g : Nat → Slot} {h2 : Nat} (ac : ActCells w0 b off x) (hr : PinsRel A w0 C n p f h m w) (hAw : A ≤ w.heap.size) (hbA : b < A) (hbc : A ≤ C)
    (hst : Held f' p) (hb : Hid (Below w.heap.size w w4)) (k : ClockAt w5 A C A n f' h) (r : RefAt w5 B' D T U P n g h2) (ho : Only [C, A, D, T, U, P] w4 w5) (hAB : A < B') (hp : PinsLe n (m + 1) f') :
    Hid (PinsRel A w0 C n p f' h (m + 1) w5) ∧ w5.cell? ⟨b, off, none⟩ = some (.int .i64 x.d) ∧ w5.cell? ⟨b, off + 1, none⟩ = some (.int .i64 x.i) := by
  have h1 := r.bd
  have h2 := r.bt
  have h3 := r.bu
  have h4 := r.bp
  have hb1 := hb.out.size
  have hb' : Below A w0 w5 := (hr.below.trans (hb.out.mono hAw)).trans (ho.below (by simp; omega) (by omega))
  have := ac.below hb' hbA
  exact ⟨Lib.hid ⟨k, hp, hst, hb'⟩, this.1, this.2⟩

set_option maxRecDepth 100000 in
set_option maxHeartbeats 8000000 in
theorem walk (n0 : Int) (a0 : Option Addr) (l : List Act) (cap0 : Nat) (p0 : Int) (w : World) (hc0 : l.length ≤ cap0) (hm0 : cap0 ≤ maxLen) (ha : ActsAt w a0 l) :
    Calls Try.prog 4 #[.int .i64 n0, .slice a0 l.length cap0, .int .i64 p0] w fun e w' => e = .returned (.bool true) ∧ Below w.heap.size w w' := by
  have L := Lib.hid (fun v : World => live_any v)
  have HA := Lib.hid ha
  clear ha
  unfold maxLen at hm0
  by_cases hbad : n0 < 1 ∨ 64 < n0 ∨ (200 : Int) < l.length ∨ p0 < 0 ∨ n0 ≤ p0
  · rcases (show n0 < 1 ∨ (1 ≤ n0 ∧ 64 < n0) ∨ (1 ≤ n0 ∧ n0 ≤ 64 ∧ (200 : Int) < l.length) ∨ (1 ≤ n0 ∧ n0 ≤ 64 ∧ (l.length : Int) ≤ 200 ∧ p0 < 0) ∨ (1 ≤ n0 ∧ n0 ≤ 64 ∧ (l.length : Int) ≤ 200 ∧ 0 ≤ p0 ∧ n0 ≤ p0) by omega) with h1 | ⟨h1, h2⟩ | ⟨h1, h2, h3⟩ | ⟨h1, h2, h3, h4⟩ | ⟨h1, h2, h3, h4, h5⟩
    all_goals
      clear hbad
      go_enter Try.func4, Try.ntmps4
      go_wp2_with (go_at_call 6; refine (L.out _).mono ?_; rintro e w' ⟨rfl, hb2⟩)
      go_ret
      exact ⟨rfl, by assumption⟩
  obtain ⟨n, rfl⟩ : ∃ n : Nat, n0 = n := ⟨n0.toNat, by omega⟩
  obtain ⟨p, rfl⟩ : ∃ p : Nat, p0 = p := ⟨p0.toNat, by omega⟩
  have g1 : (1 : Int) ≤ n := by omega
  have g2 : (n : Int) ≤ 64 := by omega
  have g3 : (l.length : Int) ≤ 200 := by omega
  have g4 : (p : Int) < n := by omega
  have g5 : (0 : Int) ≤ p := by omega
  clear hbad
  have hcl : clamp (n : Int) = n := by unfold clamp; omega
  have N := Lib.hid (new_any (n : Int) w)
  rw [hcl] at N
  clear hcl
  have hpn : p < n := by omega
  go_enter Try.func4, Try.ntmps4
  go_wp2_with fail
  refine N.out.mono ?_
  rintro e w1 ⟨rfl, hk, hb, hs⟩
  have K1 := Lib.hid hk
  have HB1 := Lib.hid hb
  have HS1 : w.heap.size ≤ w1.heap.size := hb.size
  have S := Lib.hid (set_any hk (p : Int))
  clear hk hb hs N
  go_wp2_with fail
  refine S.out.mono ?_
  rintro e w2 ⟨rfl, hk, ho⟩
  have K2 := Lib.hid hk
  have HP2 : Hid (PinsLe n 0 (setS n (fun _ => zeroSlot) (p : Int))) := Lib.hid (pins_set (fun j hj => by simp [zeroSlot]))
  have O2 := Lib.hid ho
  have S2 := Lib.hid (pin_any hk (p : Int) (fun j hj => by have := HP2.out j hj; omega))
  clear hk ho S
  go_wp2_with fail
  refine S2.out.mono ?_
  rintro e w3 ⟨rfl, hk, ho⟩
  have R0 : Hid (PinsRel w.heap.size w (w.heap.size + 1) n p (pinS n (setS n (fun _ => zeroSlot) (p : Int)) (p : Int)) 0 1 w3) := Lib.hid ⟨hk, by
      have h1 : pinS n (setS n (fun _ => zeroSlot) (p : Int)) (p : Int) = stepS n 2 p (setS n (fun _ => zeroSlot) (p : Int)) := rfl
      rw [h1]
      exact pins_step HP2.out, by
      have h1 : within n (p : Int) = true := within_in hpn
      have h2 : setS n (fun _ => zeroSlot) (p : Int) = put (fun _ => zeroSlot) p ⟨true, true, 0⟩ := by simp [setS, h1, zeroSlot]
      have h3 : has n (put (fun _ => zeroSlot) p ⟨true, true, 0⟩) (p : Int) = true := by simp [has, h1, put]
      rw [h2]
      simp [Held, pinS, h3, put], HB1.out.trans ((O2.out.trans ho (fun x hx => .inl hx)).below (by simp) HS1)⟩
  clear hk ho S2
  generalize hC : w.heap.size + 1 = C at *
  generalize hA : w.heap.size = A at *
  go_wp2_with fail
  go_loopw [8] (fun v8 wr => PinsLoop w l.length A C n p v8 wr) (fun v8 _ => l.length - (intOf v8).toNat)
  case atStart => exact ⟨_, _, 0, rfl, Nat.zero_le _, R0.out⟩
  case round =>
    clear R0 K1 HB1 K2 HP2 O2
    obtain ⟨f, h, j, rfl, hj, hr⟩ := hrel
    by_cases hlt : j < l.length
    · obtain ⟨b, off, rfl, hbl, hcl⟩ := HA.out (by intro e; rw [e] at hlt; simp at hlt)
      have hlti : (j : Int) < l.length := by omega
      have ac := hcl j hlt
      have hbA : b < A := by omega
      have AC := Lib.hid ac
      obtain ⟨x0, x1⟩ := ac.below hr.below hbA
      have HR := Lib.hid hr
      have hAw : A ≤ wr.heap.size := by have := hr.below.size; omega
      have hbc := hr.k.bc
      clear hcl ac hr
      generalize l[j] = x at *
      by_cases hskip : x.i = p ∧ (x.d = 3 ∨ x.d = 4)
      · have F : Hid (PinsRel A w C n p f h (j + 1 + 1) wr) := Lib.hid ⟨HR.out.k, HR.out.pins.mono (by omega), HR.out.held, HR.out.below⟩
        obtain ⟨hi, hd⟩ := hskip
        rw [hi] at x1
        rcases hd with hd | hd
        all_goals
          rw [hd] at x0
          clear hi hd
          go_wp2
          go_roundw
          case rel => exact ⟨f, h, j + 1, by go_num, hlt, F.out⟩
          case measure => simp [intOf]; omega
      · have HST := Lib.hid (held_step (n := n) (d := x.d) HR.out.held hskip)
        by_cases hd0 : x.d = 0
        · have x0' := x0
          rw [hd0] at x0'
          have T := Lib.hid (take_any HR.out.k (fun j hj => (HR.out.pins j hj).1))
          have HT := Lib.hid (held_take HR.out.held hpn HR.out.k.hand (fun j hj => (HR.out.pins j hj).1))
          have PT := Lib.hid (pins_take HR.out.pins HR.out.k.hand)
          clear hskip HST x0
          generalize takeR n f h = R at *
          obtain ⟨r1, ok, f', h'⟩ := R
          by_cases hi : x.i = p
          all_goals
            go_wp2_with fail
            refine T.out.mono ?_
            rintro e w4 ⟨rfl, hk, ho⟩
            have F : Hid (PinsRel A w C n p f' h' (j + 1 + 1) w4) := Lib.hid ⟨hk, PT.out.mono (by omega), HT.out.1, HR.out.below.trans (ho.below (by simp; omega) hAw)⟩
            have K4 := Lib.hid hk
            clear hk ho T x0' x1
            have TK := Lib.hid (taken_any K4.out (p : Int))
            rw [show has n f' (p : Int) = true by simp [has, within_in hpn, HT.out.1.1]] at TK
            have M := Lib.hid (many_any K4.out)
            have hcl := count_le f' n
            cases ok with
            | true =>
              obtain ⟨q1, q2⟩ := HT.out.2 rfl
              have q1' : r1 ≠ p := q1
              have q3 : (r1 == p) = false := by simpa using q1'
              have q3' : ((r1 : Int) == (p : Int)) = false := by rw [beq_eq_false_iff_ne]; omega
              have q4 : r1 < n := q2
              have q4' : decide (n ≤ r1) = false := by simpa using q2
              have q5 : (r1 : Int) < n := by omega
              clear q1 q1' q2
              go_wp2_with fail
              refine TK.out.mono ?_
              rintro e w5 ⟨rfl, rfl⟩
              go_wp2_with fail
              refine M.out.mono ?_
              rintro e w5 ⟨rfl, rfl⟩
              go_wp2
              go_roundw
              case rel => exact ⟨f', h', j + 1, by go_num, hlt, F.out⟩
              case measure => simp [intOf]; omega
            | false =>
              go_wp2_with fail
              refine TK.out.mono ?_
              rintro e w5 ⟨rfl, rfl⟩
              go_wp2_with fail
              refine M.out.mono ?_
              rintro e w5 ⟨rfl, rfl⟩
              go_wp2
              go_roundw
              case rel => exact ⟨f', h', j + 1, by go_num, hlt, F.out⟩
              case measure => simp [intOf]; omega
        · have N2 := Lib.hid (fun v => rnew_any (n : Int) v)
          have hcl : clamp (n : Int) = n := by unfold clamp; omega
          rw [hcl] at N2
          have hskip2 : x.i = p → x.d ≠ 3 ∧ x.d ≠ 4 := fun e => ⟨fun h => hskip ⟨e, .inl h⟩, fun h => hskip ⟨e, .inr h⟩⟩
          have HSK := Lib.hid hskip2
          clear hcl hskip hskip2
          by_cases hi : x.i = p
          · obtain ⟨e3, e4⟩ := HSK.out hi
            have e1' : (x.i == (p : Int)) = true := by simpa using hi
            clear hi
            have e3' : (x.d == 3) = false := by simpa using e3
            have e4' : (x.d == 4) = false := by simpa using e4
            have e0' : (x.d == 0) = false := by simpa using hd0
            have HD := Lib.hid hd0
            clear hd0
            go_wp2_with fail
            refine wp_region_held_drew (S := fun w' => w'.cell? ⟨b, off + j * 2, none⟩ = some (.int .i64 x.d) ∧ w'.cell? ⟨b, off + j * 2 + 1, none⟩ = some (.int .i64 x.i)) (by kernel_rfl) ⟨x0, x1⟩ (fun hHeld => ?_)
            refine wpAnyH_take (i := 0) (v := ?_) rfl (by kernel_rfl) (by kernel_rfl) (by kernel_rfl) (fun _ _ _ h => h) (Or.inl ⟨by rfl, ?_⟩) (by assumption) ?_
            rotate_left
            · intro w hSw
              (try dsimp only at hSw)
              go_simp
              try with_reducible rfl
            try simp only [Act.put, List.setIfInBounds_toArray, List.set_cons_zero, List.set_cons_succ]
            refine wpAnyH_take (i := 1) (v := ?_) rfl (by kernel_rfl) (by kernel_rfl) (by kernel_rfl) (fun _ _ _ h => h) (Or.inl ⟨by rfl, ?_⟩) (by assumption) ?_
            rotate_left
            · intro w hSw
              (try dsimp only at hSw)
              go_simp
              try with_reducible rfl
            try simp only [Act.put, List.setIfInBounds_toArray, List.set_cons_zero, List.set_cons_succ]
            refine wpAnyH_take (i := 3) (v := ?_) rfl (by kernel_rfl) (by kernel_rfl) (by kernel_rfl) (fun _ _ _ h => h) (Or.inl ⟨by rfl, ?_⟩) (by assumption) ?_
            rotate_left
            · intro w hSw
              (try dsimp only at hSw)
              go_simp
              try with_reducible rfl
            try simp only [Act.put, List.setIfInBounds_toArray, List.set_cons_zero, List.set_cons_succ]
            refine wpAnyH_take (i := 4) (v := ?_) rfl (by kernel_rfl) (by kernel_rfl) (by kernel_rfl) (fun _ _ _ h => h) (Or.inl ⟨by rfl, ?_⟩) (by assumption) ?_
            rotate_left
            · intro w hSw
              (try dsimp only at hSw)
              go_simp
              try with_reducible rfl
            try simp only [Act.put, List.setIfInBounds_toArray, List.set_cons_zero, List.set_cons_succ]
            refine wpAnyH_take (i := 5) (v := ?_) rfl (by kernel_rfl) (by kernel_rfl) (by kernel_rfl) (fun _ _ _ h => h) (Or.inl ⟨by rfl, ?_⟩) (by assumption) ?_
            rotate_left
            · intro w hSw
              (try dsimp only at hSw)
              go_simp
              try with_reducible rfl
            try simp only [Act.put, List.setIfInBounds_toArray, List.set_cons_zero, List.set_cons_succ]
            refine wpAnyH_take (i := 6) (v := ?_) rfl (by kernel_rfl) (by kernel_rfl) (by kernel_rfl) (fun _ _ _ h => h) (Or.inl ⟨by rfl, ?_⟩) (by assumption) ?_
            rotate_left
            · intro w hSw
              (try dsimp only at hSw)
              go_simp
              try with_reducible rfl
            try simp only [Act.put, List.setIfInBounds_toArray, List.set_cons_zero, List.set_cons_succ]
            refine wpAnyH_ready (rs := [2]) (by kernel_rfl) (by simp) ?_
            refine AllReadyH.cons rfl (fun K hK => ?_) AllReadyH.nil
            go_simp
            refine (N2.out wr.drew).mono ?_
            rintro e w4 ⟨D, T, U, P, rfl, hr, hb⟩
            obtain ⟨K4, R4, z0, z1, hCB, hAB, hA4⟩ := before AC.out HR.out hAw hbA hr hb
            clear hr hb hHeld
            go_wp2_with fail
            refine hK.out _ _ ⟨z0, z1⟩ (fun hHeld => ?_)
            clear hK K
            try simp only [Act.put, List.setIfInBounds_toArray, List.set_cons_zero, List.set_cons_succ]
            refine wpAnyH_ready (rs := [7]) (by kernel_rfl) (by simp) ?_
            refine AllReadyH.cons rfl (fun K hK => ?_) AllReadyH.nil
            have Q := Lib.hid (do_act K4.out R4.out hCB hAB (m := j + 1) (by omega) HR.out.pins (fun j _ => by simp [zeroSlot]; omega) x.d x.i HD.out)
            go_simp
            refine Q.out.mono ?_
            rintro e w5 ⟨rfl, hk, hr, ho⟩
            obtain ⟨F, z2, z3⟩ := behind AC.out HR.out hAw hbA hbc HST.out hA4 hk hr ho hAB (pins_step HR.out.pins)
            clear hr ho hHeld x0 x1 z0 z1
            have K5 := Lib.hid hk
            clear hk
            go_wp2_with fail
            refine hK.out _ _ ⟨z2, z3⟩ (fun hHeld => ?_)
            clear hK K hHeld
            try simp only [Act.put, List.setIfInBounds_toArray, List.set_cons_zero, List.set_cons_succ]
            refine wpAnyH_done (by kernel_rfl) ?_ _
            have TK := Lib.hid (taken_any K5.out (p : Int))
            rw [show has n (stepS n x.d x.i f) (p : Int) = true by simp [has, within_in hpn, HST.out.1]] at TK
            have M := Lib.hid (many_any K5.out)
            have hcl := count_le (stepS n x.d x.i f) n
            go_wp2_with fail
            refine TK.out.mono ?_
            rintro e w6 ⟨rfl, rfl⟩
            go_wp2_with fail
            refine M.out.mono ?_
            rintro e w6 ⟨rfl, rfl⟩
            go_wp2
            go_roundw
            case rel => exact ⟨_, h, j + 1, by go_num, hlt, F.out⟩
            case measure => simp [intOf]; omega
          · have e1' : (x.i == (p : Int)) = false := by simpa using hi
            have e0' : (x.d == 0) = false := by simpa using hd0
            have HD := Lib.hid hd0
            clear hd0
            go_wp2_with fail
            refine wp_region_held_drew (S := fun w' => w'.cell? ⟨b, off + j * 2, none⟩ = some (.int .i64 x.d) ∧ w'.cell? ⟨b, off + j * 2 + 1, none⟩ = some (.int .i64 x.i)) (by kernel_rfl) ⟨x0, x1⟩ (fun hHeld => ?_)
            refine wpAnyH_take (i := 0) (v := ?_) rfl (by kernel_rfl) (by kernel_rfl) (by kernel_rfl) (fun _ _ _ h => h) (Or.inl ⟨by rfl, ?_⟩) (by assumption) ?_
            rotate_left
            · intro w hSw
              (try dsimp only at hSw)
              go_simp
              try with_reducible rfl
            try simp only [Act.put, List.setIfInBounds_toArray, List.set_cons_zero, List.set_cons_succ]
            refine wpAnyH_take (i := 1) (v := ?_) rfl (by kernel_rfl) (by kernel_rfl) (by kernel_rfl) (fun _ _ _ h => h) (Or.inl ⟨by rfl, ?_⟩) (by assumption) ?_
            rotate_left
            · intro w hSw
              (try dsimp only at hSw)
              go_simp
              try with_reducible rfl
            try simp only [Act.put, List.setIfInBounds_toArray, List.set_cons_zero, List.set_cons_succ]
            refine wpAnyH_take (i := 3) (v := ?_) rfl (by kernel_rfl) (by kernel_rfl) (by kernel_rfl) (fun _ _ _ h => h) (Or.inl ⟨by rfl, ?_⟩) (by assumption) ?_
            rotate_left
            · intro w hSw
              (try dsimp only at hSw)
              go_simp
              try with_reducible rfl
            try simp only [Act.put, List.setIfInBounds_toArray, List.set_cons_zero, List.set_cons_succ]
            refine wpAnyH_take (i := 4) (v := ?_) rfl (by kernel_rfl) (by kernel_rfl) (by kernel_rfl) (fun _ _ _ h => h) (Or.inl ⟨by rfl, ?_⟩) (by assumption) ?_
            rotate_left
            · intro w hSw
              (try dsimp only at hSw)
              go_simp
              try with_reducible rfl
            try simp only [Act.put, List.setIfInBounds_toArray, List.set_cons_zero, List.set_cons_succ]
            refine wpAnyH_take (i := 5) (v := ?_) rfl (by kernel_rfl) (by kernel_rfl) (by kernel_rfl) (fun _ _ _ h => h) (Or.inl ⟨by rfl, ?_⟩) (by assumption) ?_
            rotate_left
            · intro w hSw
              (try dsimp only at hSw)
              go_simp
              try with_reducible rfl
            try simp only [Act.put, List.setIfInBounds_toArray, List.set_cons_zero, List.set_cons_succ]
            refine wpAnyH_take (i := 6) (v := ?_) rfl (by kernel_rfl) (by kernel_rfl) (by kernel_rfl) (fun _ _ _ h => h) (Or.inl ⟨by rfl, ?_⟩) (by assumption) ?_
            rotate_left
            · intro w hSw
              (try dsimp only at hSw)
              go_simp
              try with_reducible rfl
            try simp only [Act.put, List.setIfInBounds_toArray, List.set_cons_zero, List.set_cons_succ]
            refine wpAnyH_ready (rs := [2]) (by kernel_rfl) (by simp) ?_
            refine AllReadyH.cons rfl (fun K hK => ?_) AllReadyH.nil
            go_simp
            refine (N2.out wr.drew).mono ?_
            rintro e w4 ⟨D, T, U, P, rfl, hr, hb⟩
            obtain ⟨K4, R4, z0, z1, hCB, hAB, hA4⟩ := before AC.out HR.out hAw hbA hr hb
            clear hr hb hHeld
            go_wp2_with fail
            refine hK.out _ _ ⟨z0, z1⟩ (fun hHeld => ?_)
            clear hK K
            try simp only [Act.put, List.setIfInBounds_toArray, List.set_cons_zero, List.set_cons_succ]
            refine wpAnyH_ready (rs := [7]) (by kernel_rfl) (by simp) ?_
            refine AllReadyH.cons rfl (fun K hK => ?_) AllReadyH.nil
            have Q := Lib.hid (do_act K4.out R4.out hCB hAB (m := j + 1) (by omega) HR.out.pins (fun j _ => by simp [zeroSlot]; omega) x.d x.i HD.out)
            go_simp
            refine Q.out.mono ?_
            rintro e w5 ⟨rfl, hk, hr, ho⟩
            obtain ⟨F, z2, z3⟩ := behind AC.out HR.out hAw hbA hbc HST.out hA4 hk hr ho hAB (pins_step HR.out.pins)
            clear hr ho hHeld x0 x1 z0 z1
            have K5 := Lib.hid hk
            clear hk
            go_wp2_with fail
            refine hK.out _ _ ⟨z2, z3⟩ (fun hHeld => ?_)
            clear hK K hHeld
            try simp only [Act.put, List.setIfInBounds_toArray, List.set_cons_zero, List.set_cons_succ]
            refine wpAnyH_done (by kernel_rfl) ?_ _
            have TK := Lib.hid (taken_any K5.out (p : Int))
            rw [show has n (stepS n x.d x.i f) (p : Int) = true by simp [has, within_in hpn, HST.out.1]] at TK
            have M := Lib.hid (many_any K5.out)
            have hcl := count_le (stepS n x.d x.i f) n
            go_wp2_with fail
            refine TK.out.mono ?_
            rintro e w6 ⟨rfl, rfl⟩
            go_wp2_with fail
            refine M.out.mono ?_
            rintro e w6 ⟨rfl, rfl⟩
            go_wp2
            go_roundw
            case rel => exact ⟨_, h, j + 1, by go_num, hlt, F.out⟩
            case measure => simp [intOf]; omega
    · have HB := Lib.hid hr.below
      have hsz : A ≤ wr.heap.size := by have := hr.below.size; omega
      clear hr
      go_wp2_with fail
      refine (L.out wr).mono ?_
      rintro e w' ⟨rfl, hb2⟩
      have HB2 := Lib.hid (HB.out.trans (hb2.mono hsz))
      clear hb2
      go_wp2
      go_ret
      exact ⟨rfl, by rw [hA]; exact HB2.out⟩

/-! ### The row's step -/
set_option maxRecDepth 100000 in
theorem lifted (os : Os) (started : os.Started) (H : Type) (enc : TypeId × Value → H) :
    ReturnsInHanded {} Try.checked os 4 .any (Rows.clockPinsSpec.pre6 enc Try.prog Try.f4 Rows.clockPinsRow.domain false) (Rows.clockPinsSpec.post enc Try.prog Try.f4 false true false false) := by
  refine returnsInHanded_of_change (C := Try.checked) own started (by kernel_rfl) Try.func4
    (ChangeSpec.witness6 (enc := enc) (C := Try.checked) false ⟨#[], #[.int .i64 0, .slice none 0 0, .int .i64 0], []⟩ 8 (by kernel_rfl) (by kernel_rfl) (by kernel_rfl) (by kernel_rfl)) ?_
  intro W base args ds gs before hval0 hW hcnd _
  have hval : ∀ (j : Nat) t v, Try.f4.params[j]? = some t → args[j]? = some v → Value.okWide Try.prog W .any base t v := hval0
  have hW' := hW
  obtain ⟨p, q, hA0, hV, rfl, hfz, hnd⟩ := hW
  have hA : DataW.TrodAll enc Try.prog W 0 (fun _ => true) true Try.f4.params.toList args.toList ds p := hA0
  rw [Try.params4] at hA hval
  obtain ⟨v0, vs0, d0, ds0, p0, q0, hargs, rfl, rfl, h0, r0⟩ := trodAll_cons hA
  obtain ⟨v1, vs1, d1, ds1, p1, q1, rfl, rfl, rfl, h1, r1⟩ := trodAll_cons r0
  obtain ⟨v2, vs2, d2, ds2, p2, q2, rfl, rfl, rfl, h2, r2⟩ := trodAll_cons r1
  obtain ⟨rfl, rfl, rfl⟩ := trodAll_nil r2
  obtain rfl : args = #[v0, v1, v2] := by cases args; simp_all
  obtain ⟨rfl, rfl⟩ := trodVars_none hV
  obtain ⟨n0, rfl, rfl, rfl, w0⟩ := open_int Try.underlying3 (hval 0 3 v0 rfl rfl) h0
  obtain ⟨n2, rfl, rfl, rfl, w2⟩ := open_int Try.underlying3 (hval 2 3 v2 rfl rfl) h2
  obtain ⟨a0, len0, cap0, rfl⟩ := okWide_slice Try.underlying31 (hval 1 31 v1 rfl rfl)
  have k1 := h1
  have lt1 : ∀ x ∈ p1, x.block < W.heap.size := by obtain ⟨m, hm⟩ := k1; exact DataW.trod_lt m _ _ _ hm
  obtain ⟨l, rfl, hc0, hm0, hr0⟩ : ∃ l : List Act, len0 = l.length ∧ l.length ≤ cap0 ∧ cap0 ≤ maxLen ∧ ActsAt W a0 l := by
    obtain ⟨fuel, hf⟩ := h1
    exact open_acts hf
  clear hA0 hval0
  refine (walk n0 a0 l cap0 n2 W hc0 hm0 hr0).mono fun e W' ⟨he, bel⟩ => ?_
  subst he
  exact ⟨_, rfl, _, _, _, [], _, [], hW', trodAll_mk1 (shut_bool Try.underlying4 _), (trodAll_cons_mk (shut_int Try.underlying3 w0) (trodAll_cons_mk (Below.trod laidOut (by kernel_rfl) (of_decide_eq_true (by kernel_rfl)) k1 bel lt1) (trodAll_cons_mk (shut_int Try.underlying3 w2) trodAll_mk0))), rfl, bel.frame _, fun h => by cases h⟩

theorem over : Rows.clockPinsRow.holds Try.pinned (OpenSpec.ofChange Rows.clockPinsSpec) :=
  OpenClaim.holds_of_wide 4 Try.f4 rfl rfl rfl rfl rfl rfl rfl ⟨rfl, rfl, rfl, rfl, rfl⟩ rfl rfl rfl rfl rfl (by kernel_rfl) Try.func4 (by kernel_rfl)
    (of_decide_eq_true (by kernel_rfl)) (by unfold Func.isWrapper; first | (rw [if_pos (by decide +kernel)]; kernel_rfl) | (rw [if_neg (by decide +kernel)]; exact ⟨rfl, rfl⟩))
    (fun os started H enc _ => lifted os started H enc)

/-- THE STATEMENT. -/
theorem proved : Rows.ClockPinsSaid := over
#print axioms proved
end Go.Proofs.Ytfcifdddmcnjcaa.clockPins
