/-
  PROVED: 'Rows.ClockDoesSaid': for every number and every slice of acts that 'ClockDoes' is called with, it returns true. No conditions.
-/
import Derived.Test.YtfcifdddmcnjcaaPivot
import Derived.Deep.DrawnRows
namespace Go.Proofs.Ytfcifdddmcnjcaa.clockDoes
open Go.ChangeShapes Go.WideShapes Go.ChangeAt Go.RowKit
open Go.ChangeMaps (open_string shut_string)
open Go.BigFrame
set_option linter.unusedVariables false
set_option linter.unusedSimpArgs false
attribute [local go_sem ↓] Go.wp_at_zero Go.wp_at_succ

structure DoesRel (B : Nat) (w0 : World) (C A B' D T U P n : Nat) (f : Nat → Slot) (h m : Nat) (w : World) : Prop where
  k : ClockAt w B C A n f h
  r : RefAt w B' D T U P n f h
  pins : PinsLe n m f
  below : Below B w0 w
  hc : C < B'
  ha : A < B'
def DoesLoop (w0 : World) (len C A B' D T U P n : Nat) (v7 : Value) (w : World) : Prop :=
  ∃ (f : Nat → Slot) (h j : Nat), v7 = .int .i64 j ∧ j ≤ len ∧ DoesRel A w0 C A B' D T U P n f h j w

theorem _root_.Go.Proofs.Ytfcifdddmcnjcaa.ClockAt.drewN {w : World} {B C A n : Nat} {f : Nat → Slot} {h : Nat} (k : ClockAt w B C A n f h) (v : Nat) : ClockAt (w.drewN v) B C A n f h :=
  ⟨k.c, k.slots.keep rfl, k.ne, k.bc, k.ba, k.le, k.hand⟩
theorem _root_.Go.Proofs.Ytfcifdddmcnjcaa.RefAt.drewN {w : World} {B D T U P n : Nat} {f : Nat → Slot} {h : Nat} (k : RefAt w B D T U P n f h) (v : Nat) : RefAt (w.drewN v) B D T U P n f h := k.keep rfl
theorem quiet' {f : FuncId} {args : Array Value} {w : World} {n : Nat} {v : Value} (h : ∀ n, Calls Try.prog f args (w.drewN n) fun e w' => e = .returned v ∧ w.drewN n = w') : Calls Try.prog f args (w.drewN n) fun e w'' => e = .returned v ∧ ∃ m, w'' = w.drewN m :=
  (h n).mono fun _ _ ⟨he, hm⟩ => ⟨he, n, hm.symm⟩

/-- Behind 'do'. -/
theorem DoesRel.next {w0 w w3 : World} {A C B' D T U P n : Nat} {f : Nat → Slot} {h b off : Nat} {x : Act} (ac : ActCells w0 b off x) (hb : Below A w0 w) (hbA : b < A) (hbc : A ≤ C)
    (hk : ClockAt w3 A C A n f h) (hr : RefAt w3 B' D T U P n f h) (hA : A ≤ w.heap.size) (ho : Only [C, A, D, T, U, P] w.drew w3) (hAB : A < B') :
    Hid (ClockAt w3 A C A n f h) ∧ Hid (RefAt w3 B' D T U P n f h) ∧ Hid (Below A w0 w3) ∧ w3.cell? ⟨b, off, none⟩ = some (.int .i64 x.d) ∧ w3.cell? ⟨b, off + 1, none⟩ = some (.int .i64 x.i) ∧ w3.cell? ⟨D, 3, none⟩ = some (.int .i64 h) := by
  have h1 := hr.bd
  have h2 := hr.bt
  have h3 := hr.bu
  have h4 := hr.bp
  have B3 : Below A w0 w3 := hb.drew.trans (ho.below (by simp; omega) hA)
  have := ac.below B3 hbA
  exact ⟨Lib.hid hk, Lib.hid hr, Lib.hid B3, this.1, this.2, hr.cells.2.2.2⟩

set_option maxRecDepth 100000 in
set_option maxHeartbeats 8000000 in
theorem walk (n0 : Int) (a0 : Option Addr) (l : List Act) (cap0 : Nat) (w : World) (hc0 : l.length ≤ cap0) (hm0 : cap0 ≤ maxLen) (ha : ActsAt w a0 l) :
    Calls Try.prog 5 #[.int .i64 n0, .slice a0 l.length cap0] w fun e w' => e = .returned (.bool true) ∧ Below w.heap.size w w' := by
  have L := Lib.hid (fun v : World => live_any v)
  have HA := Lib.hid ha
  clear ha
  unfold maxLen at hm0
  by_cases hlen : 200 < l.length
  · have hlen' : (200 : Int) < l.length := by omega
    go_enter Try.func5, Try.ntmps5
    go_wp2_with (go_at_call 6; refine (L.out _).mono ?_; rintro e w' ⟨rfl, hb2⟩)
    go_ret
    exact ⟨rfl, by assumption⟩
  have hl1 : (l.length : Int) ≤ 200 := by omega
  have hl2 : decide (200 < (l.length : Int)) = false := by simpa using hl1
  have N := Lib.hid (new_any n0 w)
  go_enter Try.func5, Try.ntmps5
  go_wp2_with fail
  refine N.out.mono ?_
  rintro e w1 ⟨rfl, hk, hb, hs⟩
  have K1 := Lib.hid hk
  have HB1 := Lib.hid hb
  have N2 := Lib.hid (rnew_any n0 w1)
  have hs1 : w.heap.size ≤ w1.heap.size := hb.size
  have HS1 := Lib.hid hs
  clear hk hb hs N
  go_wp2_with fail
  refine N2.out.mono ?_
  rintro e w2 ⟨D, T, U, P, rfl, hr, hb⟩
  have R0 : Hid (DoesRel w.heap.size w (w.heap.size + 1) w.heap.size w1.heap.size D T U P (clamp n0) (fun _ => zeroSlot) 0 0 w2) :=
    Lib.hid ⟨K1.out.below hb, hr, fun j _ => by simp [zeroSlot], HB1.out.trans (hb.mono hs1), by have := HS1.out; omega, by have := HS1.out; omega⟩
  clear hr hb N2
  generalize hB' : w1.heap.size = B' at R0
  generalize hC : w.heap.size + 1 = C at *
  generalize hA : w.heap.size = A at *
  have hn64 := clamp_le n0
  generalize clamp n0 = n at *
  go_wp2_with fail
  go_loopw [7] (fun v7 wr => DoesLoop w l.length C A B' D T U P n v7 wr) (fun v7 _ => l.length - (intOf v7).toNat)
  case atStart => exact ⟨_, _, 0, rfl, Nat.zero_le _, R0.out⟩
  case round =>
    clear R0 K1 HB1
    obtain ⟨f, h, j, rfl, hj, hr⟩ := hrel
    by_cases hlt : j < l.length
    · obtain ⟨b, off, rfl, hbl, hcl⟩ := HA.out (by intro e; rw [e] at hlt; simp at hlt)
      have hlti : (j : Int) < l.length := by omega
      have ac := hcl j hlt
      have hbA : b < A := by omega
      have AC := Lib.hid ac
      obtain ⟨x0, x1⟩ := ac.below hr.below hbA
      have HB := Lib.hid hr.below
      have RK := Lib.hid hr.k
      have RR := Lib.hid hr.r
      have HP := Lib.hid (pins_nxt (d := l[j].d) (i := l[j].i) hr.pins hr.k.hand)
      have D1 := Lib.hid (do_any (w := wr.drew) hr.k.drew (hr.r.keep rfl) hr.hc hr.ha (m := j) (by omega) hr.pins l[j].d l[j].i)
      have hcb := hr.hc
      have hab := hr.ha
      have hCA := hr.k.ba
      have hbc := hr.k.bc
      have hAw : A ≤ wr.heap.size := by have := hr.below.size; omega
      clear hcl ac hr
      generalize l[j] = x at *
      generalize nxt n x.d x.i f h = R at *
      go_wp2_with fail
      have hu0 : wr.drew.cell? ⟨b, off + j * 2, none⟩ = some (.int .i64 x.d) := x0
      refine wp_region_held_drew (S := fun w' => w'.cell? ⟨b, off + j * 2, none⟩ = some (.int .i64 x.d) ∧ w'.cell? ⟨b, off + j * 2 + 1, none⟩ = some (.int .i64 x.i)) (by kernel_rfl) ⟨x0, x1⟩ (fun hHeld => ?_)
      refine wpAnyH_take (i := 0) (v := ?_) rfl (by kernel_rfl) (by kernel_rfl) (by kernel_rfl) (fun _ _ _ h => h) (Or.inl ⟨by rfl, ?_⟩) (by assumption) ?_
      rotate_left
      · intro w hSw
        (try dsimp only at hSw)
        go_simp
        try with_reducible rfl
      try simp only [Act.put, List.setIfInBounds_toArray, List.set_cons_zero, List.set_cons_succ]
      refine wpAnyH_take (i := 1) (v := ?_) rfl (by kernel_rfl) (by kernel_rfl) (by kernel_rfl) (fun _ _ _ h => h) (Or.inl ⟨by rfl, ?_⟩) (by assumption) ?_
      rotate_left
      · intro w hSw
        (try dsimp only at hSw)
        go_simp
        try with_reducible rfl
      try simp only [Act.put, List.setIfInBounds_toArray, List.set_cons_zero, List.set_cons_succ]
      refine wpAnyH_take (i := 2) (v := ?_) rfl (by kernel_rfl) (by kernel_rfl) (by kernel_rfl) (fun _ _ _ h => h) (Or.inl ⟨by rfl, ?_⟩) (by assumption) ?_
      rotate_left
      · intro w hSw
        (try dsimp only at hSw)
        go_simp
        try with_reducible rfl
      try simp only [Act.put, List.setIfInBounds_toArray, List.set_cons_zero, List.set_cons_succ]
      refine wpAnyH_take (i := 3) (v := ?_) rfl (by kernel_rfl) (by kernel_rfl) (by kernel_rfl) (fun _ _ _ h => h) (Or.inl ⟨by rfl, ?_⟩) (by assumption) ?_
      rotate_left
      · intro w hSw
        (try dsimp only at hSw)
        go_simp
        try with_reducible rfl
      try simp only [Act.put, List.setIfInBounds_toArray, List.set_cons_zero, List.set_cons_succ]
      refine wpAnyH_take (i := 4) (v := ?_) rfl (by kernel_rfl) (by kernel_rfl) (by kernel_rfl) (fun _ _ _ h => h) (Or.inl ⟨by rfl, ?_⟩) (by assumption) ?_
      rotate_left
      · intro w hSw
        (try dsimp only at hSw)
        go_simp
        try with_reducible rfl
      try simp only [Act.put, List.setIfInBounds_toArray, List.set_cons_zero, List.set_cons_succ]
      refine wpAnyH_take (i := 5) (v := ?_) rfl (by kernel_rfl) (by kernel_rfl) (by kernel_rfl) (fun _ _ _ h => h) (Or.inl ⟨by rfl, ?_⟩) (by assumption) ?_
      rotate_left
      · intro w hSw
        (try dsimp only at hSw)
        go_simp
        try with_reducible rfl
      try simp only [Act.put, List.setIfInBounds_toArray, List.set_cons_zero, List.set_cons_succ]
      refine wpAnyH_ready (rs := [6]) (by kernel_rfl) (by simp) ?_
      refine AllReadyH.cons rfl (fun K hK => ?_) AllReadyH.nil
      go_simp
      refine D1.out.mono ?_
      rintro e w3 ⟨rfl, hk, hr, ho⟩
      obtain ⟨K3, R3, B3, z0, z1, z3⟩ := DoesRel.next AC.out HB.out hbA hbc hk hr hAw ho hab
      clear hk hr ho x0 x1 D1 hHeld
      have hz : (count R.1 n != count R.1 n) = false := by simp
      go_wp2_with fail
      refine hK.out _ _ ⟨z0, z1⟩ (fun _ => ?_)
      clear hK K
      try simp only [Act.put, List.setIfInBounds_toArray, List.set_cons_zero, List.set_cons_succ]
      refine wpAnyH_rest 7 _ (fun _ => ⟨z0, z1⟩) (by kernel_rfl) rfl (by kernel_rfl) ?_
      simp only [List.drop_succ_cons, List.drop_zero]
      repeat (go_big_quiet_step ((first | (go_at_call 15; exact quiet' (fun v => many_any (K3.out.drewN v))) | (go_at_call 16; exact quiet' (fun v => rmany_any (R3.out.drewN v))) | (go_at_call 17; exact quiet' (fun v => hand_any (K3.out.drewN v))) | (go_at_call 14; exact quiet' (fun v => taken_any (K3.out.drewN v) x.i)) | (go_at_call 18; exact quiet' (fun v => rhas_any (R3.out.drewN v) x.i)))))
      refine wpQuiet_nil ?_
      intro w4 hw4
      obtain ⟨nq, rfl⟩ := hw4
      have F : Hid (DoesRel A w C A B' D T U P n R.1 R.2 (j + 1) (w3.drewN nq)) := Lib.hid ⟨K3.out.drewN nq, R3.out.drewN nq, HP.out, ⟨B3.out.os, B3.out.tape, B3.out.output, B3.out.size, B3.out.block⟩, hcb, hab⟩
      go_wp2
      go_roundw
      case rel => exact ⟨R.1, R.2, j + 1, by go_num, hlt, F.out⟩
      case measure => simp [intOf]; omega
    · have HB := Lib.hid hr.below
      have hsz : A ≤ wr.heap.size := by have := hr.below.size; omega
      clear hr
      go_wp2_with fail
      refine (use_nil 0 wr).mono ?_
      rintro e w' ⟨rfl, rfl⟩
      go_wp2_with fail
      refine (pin_nil 0 wr).mono ?_
      rintro e w' ⟨rfl, rfl⟩
      go_wp2_with fail
      refine (unpin_nil 0 wr).mono ?_
      rintro e w' ⟨rfl, rfl⟩
      go_wp2_with fail
      refine (free_nil 0 wr).mono ?_
      rintro e w' ⟨rfl, rfl⟩
      go_wp2_with fail
      refine (set_nil 0 wr).mono ?_
      rintro e w' ⟨rfl, rfl⟩
      go_wp2_with fail
      refine (take_nil wr).mono ?_
      rintro e w' ⟨rfl, rfl⟩
      go_wp2_with fail
      refine (many_nil wr).mono ?_
      rintro e w' ⟨rfl, rfl⟩
      go_wp2_with fail
      refine (hand_nil wr).mono ?_
      rintro e w' ⟨rfl, rfl⟩
      go_wp2_with fail
      refine (taken_nil 0 wr).mono ?_
      rintro e w' ⟨rfl, rfl⟩
      go_wp2_with fail
      refine (L.out wr).mono ?_
      rintro e w' ⟨rfl, hb2⟩
      have HB2 := Lib.hid (HB.out.trans (hb2.mono hsz))
      clear hb2
      go_wp2
      go_ret
      exact ⟨rfl, by rw [hA]; exact HB2.out⟩

/-! ### The row's step -/
set_option maxRecDepth 100000 in
theorem lifted (os : Os) (started : os.Started) (H : Type) (enc : TypeId × Value → H) :
    ReturnsInHanded {} Try.checked os 5 .any (Rows.clockDoesSpec.pre6 enc Try.prog Try.f5 Rows.clockDoesRow.domain false) (Rows.clockDoesSpec.post enc Try.prog Try.f5 false true false false) := by
  refine returnsInHanded_of_change (C := Try.checked) own started (by kernel_rfl) Try.func5
    (ChangeSpec.witness6 (enc := enc) (C := Try.checked) false ⟨#[], #[.int .i64 0, .slice none 0 0], []⟩ 8 (by kernel_rfl) (by kernel_rfl) (by kernel_rfl) (by kernel_rfl)) ?_
  intro W base args ds gs before hval0 hW hcnd _
  have hval : ∀ (j : Nat) t v, Try.f5.params[j]? = some t → args[j]? = some v → Value.okWide Try.prog W .any base t v := hval0
  have hW' := hW
  obtain ⟨p, q, hA0, hV, rfl, hfz, hnd⟩ := hW
  have hA : DataW.TrodAll enc Try.prog W 0 (fun _ => true) true Try.f5.params.toList args.toList ds p := hA0
  rw [Try.params5] at hA hval
  obtain ⟨v0, vs0, d0, ds0, p0, q0, hargs, rfl, rfl, h0, r0⟩ := trodAll_cons hA
  obtain ⟨v1, vs1, d1, ds1, p1, q1, rfl, rfl, rfl, h1, r1⟩ := trodAll_cons r0
  obtain ⟨rfl, rfl, rfl⟩ := trodAll_nil r1
  obtain rfl : args = #[v0, v1] := by cases args; simp_all
  obtain ⟨rfl, rfl⟩ := trodVars_none hV
  obtain ⟨n0, rfl, rfl, rfl, w0⟩ := open_int Try.underlying3 (hval 0 3 v0 rfl rfl) h0
  obtain ⟨a0, len0, cap0, rfl⟩ := okWide_slice Try.underlying31 (hval 1 31 v1 rfl rfl)
  have k1 := h1
  have lt1 : ∀ x ∈ p1, x.block < W.heap.size := by obtain ⟨m, hm⟩ := k1; exact DataW.trod_lt m _ _ _ hm
  obtain ⟨l, rfl, hc0, hm0, hr0⟩ : ∃ l : List Act, len0 = l.length ∧ l.length ≤ cap0 ∧ cap0 ≤ maxLen ∧ ActsAt W a0 l := by
    obtain ⟨fuel, hf⟩ := h1
    exact open_acts hf
  clear hA0 hval0
  refine (walk n0 a0 l cap0 W hc0 hm0 hr0).mono fun e W' ⟨he, bel⟩ => ?_
  subst he
  exact ⟨_, rfl, _, _, _, [], _, [], hW', trodAll_mk1 (shut_bool Try.underlying4 _), (trodAll_cons_mk (shut_int Try.underlying3 w0) (trodAll_cons_mk (Below.trod laidOut (by kernel_rfl) (of_decide_eq_true (by kernel_rfl)) k1 bel lt1) trodAll_mk0)), rfl, bel.frame _, fun h => by cases h⟩

theorem over : Rows.clockDoesRow.holds Try.pinned (OpenSpec.ofChange Rows.clockDoesSpec) :=
  OpenClaim.holds_of_wide 5 Try.f5 rfl rfl rfl rfl rfl rfl rfl ⟨rfl, rfl, rfl, rfl, rfl⟩ rfl rfl rfl rfl rfl (by kernel_rfl) Try.func5 (by kernel_rfl)
    (of_decide_eq_true (by kernel_rfl)) (by unfold Func.isWrapper; first | (rw [if_pos (by decide +kernel)]; kernel_rfl) | (rw [if_neg (by decide +kernel)]; exact ⟨rfl, rfl⟩))
    (fun os started H enc _ => lifted os started H enc)

/-- THE STATEMENT. -/
theorem proved : Rows.ClockDoesSaid := over
#print axioms proved
end Go.Proofs.Ytfcifdddmcnjcaa.clockDoes
