/-
  PROVED: 'Rows.ClockChanceSaid': for every number and every slice of bytes that 'ClockChance' is called with, it returns true. No conditions.
-/
import Derived.Test.YtfcifdddmcnjcaaTurn
namespace Go.Proofs.Ytfcifdddmcnjcaa.clockChance
open Go.ChangeShapes Go.WideShapes Go.ChangeAt Go.RowKit
open Go.ChangeMaps (open_string shut_string)
open Go.BigFrame
set_option linter.unusedVariables false
set_option linter.unusedSimpArgs false

/-- Bytes in memory. -/
def BytesAt (w : World) (a : Option Addr) (l : List Int) : Prop :=
  l ≠ [] → ∃ b off, a = some ⟨b, off, none⟩ ∧ b < w.heap.size ∧ ∀ i (h : i < l.length), w.cell? ⟨b, off + i, none⟩ = some (.int .u8 l[i]) ∧ 0 ≤ l[i] ∧ l[i] ≤ 255

theorem _root_.Go.Proofs.Ytfcifdddmcnjcaa.ClockAt.congr {w : World} {B C A n : Nat} {f f' : Nat → Slot} {h : Nat} (k : ClockAt w B C A n f h) (e : ∀ j, j < n → f' j = f j) : ClockAt w B C A n f' h :=
  ⟨k.c, k.slots.congr e, k.ne, k.bc, k.ba, k.le, k.hand⟩

def FillLoop (w0 : World) (A C n : Nat) (v6 : Value) (w : World) : Prop := ∃ j : Nat, v6 = .int .i64 j ∧ j ≤ n ∧ ClockAt w A C A n (fillF j) 0 ∧ Below A w0 w

structure UseRel (A : Nat) (w0 : World) (C g n : Nat) (v : Nat → Bool) (w : World) : Prop where
  k : ClockAt w A C A n (uF fun j => j == 0 || v j) (1 % n)
  row : CellsF w g 4 (fun j => .bool (v j)) n
  below : Below A w0 w
  ag : A ≤ g
  gA : g ≠ A
  gC : g ≠ C
def UseLoop (w0 : World) (len A C g n : Nat) (v10 v11 : Value) (w : World) : Prop :=
  ∃ (v : Nat → Bool) (j : Nat), v11 = .int .i64 j ∧ j ≤ len ∧ v10 = .int .i64 (cnt (others v) n) ∧ UseRel A w0 C g n v w

structure TurnRel (A : Nat) (w0 : World) (C g n : Nat) (u v : Nat → Bool) (h : Nat) (w : World) : Prop where
  k : ClockAt w A C A n (uF u) (h % n)
  row : CellsF w g 4 (fun j => .bool (v j)) n
  below : Below A w0 w
  ag : A ≤ g
  gA : g ≠ A
  gC : g ≠ C
  same : ∀ j, h ≤ j → j < n → u j = v j
  past : ∀ j, j < h → v j = true
  hn : h ≤ n
def TurnLoop (w0 : World) (A C g n M : Nat) (v13 : Value) (w : World) : Prop :=
  ∃ (u v : Nat → Bool) (h i : Nat), v13 = .int .i64 i ∧ cnt v n = M + 1 + i ∧ TurnRel A w0 C g n u v h w

theorem UseRel.next {A : Nat} {w0 w w1 : World} {C g n : Nat} {v : Nat → Bool} {k : Nat} (h : UseRel A w0 C g n v w) (hk : k < n) (hC : ClockAt w1 A C A n (useS n (uF fun j => j == 0 || v j) k) (1 % n)) (ho : Only [A] w w1) (hAw : A ≤ w.heap.size) :
    UseRel A w0 C g n (upd v k) (w1.setCell ⟨g, k, none⟩ (.bool true)) := by
  rw [use_uF hk] at hC
  have r1 : CellsF w1 g 4 (fun j => .bool (v j)) n := h.row.keep (ho.block g h.row.lt (by simp; exact h.gA))
  have hg := h.row.lt
  refine ⟨?_, ?_, ?_, h.ag, h.gA, h.gC⟩
  · have := hC.only (fp := [g]) ((Only.refl [g] w1).setCell (p := ⟨g, k, none⟩) (.inl (by simp)) (.bool true)) (by simp; exact Ne.symm h.gC) (by simp; exact Ne.symm h.gA)
    refine this.congr (fun j _ => ?_)
    unfold uF upd
    by_cases e : j = k <;> simp [e]
  · refine (r1.set k hk (.bool true)).congr (fun j _ => ?_)
    unfold upd
    by_cases e : j = k <;> simp [e]
  · exact (h.below.trans (ho.below (by simp) hAw)).setCell (p := ⟨g, k, none⟩) h.ag _

theorem TurnRel.next {A : Nat} {w0 w w1 : World} {C g n h q : Nat} {u x : Nat → Bool} (r : TurnRel A w0 C g n u x h w) (hk : ClockAt w1 A C A n (uF (upd (clr u h (q - h)) q)) ((q + 1) % n)) (ho : Only [C, A] w w1) (row : CellsF w1 g 4 (fun j => .bool (x j)) n) (hAw : A ≤ w.heap.size) (hq : q < n) (hh : h ≤ q) (h3 : ∀ i, i < q → x i = true) :
    TurnRel A w0 C g n (upd (clr u h (q - h)) q) (upd x q) (q + 1) (w1.setCell ⟨g, q, none⟩ (.bool true)) := by
  have hAC := hk.bc
  refine ⟨hk.only (fp := [g]) ((Only.refl [g] w1).setCell (p := ⟨g, q, none⟩) (.inl (by simp)) (.bool true)) (by simp; exact Ne.symm r.gC) (by simp; exact Ne.symm r.gA),
    (row.set q hq (.bool true)).congr (fun i _ => by unfold upd; by_cases e : i = q <;> simp [e]),
    (r.below.trans (ho.below (by simp; omega) hAw)).setCell (p := ⟨g, q, none⟩) r.ag _, r.ag, r.gA, r.gC, (fun i h1 h2 => ?_), (fun i hi => ?_), by omega⟩
  · unfold upd clr
    rw [if_neg (by omega), if_neg (by omega), if_neg (by omega)]
    exact r.same i (by omega) h2
  · unfold upd
    by_cases e : i = q
    · rw [if_pos e]
    · rw [if_neg e]
      exact h3 i (by omega)
theorem or_upd (v : Nat → Bool) (i : Nat) : (i == 0 || v i) = upd v 0 i := by
  unfold upd
  by_cases e : i = 0 <;> simp [e]

set_option maxRecDepth 100000 in
set_option maxHeartbeats 8000000 in
theorem walk (n0 : Int) (a0 : Option Addr) (l : List Int) (cap0 : Nat) (w : World) (hc0 : l.length ≤ cap0) (hm0 : cap0 ≤ maxLen) (ha : BytesAt w a0 l) :
    Calls Try.prog 3 #[.int .i64 n0, .slice a0 l.length cap0] w fun e w' => e = .returned (.bool true) ∧ Below w.heap.size w w' := by
  have L := Lib.hid (fun v : World => live_any v)
  have HA := Lib.hid ha
  clear ha
  unfold maxLen at hm0
  by_cases hbad : n0 < 2 ∨ 64 < n0 ∨ (100 : Int) < l.length
  · rcases (show n0 < 2 ∨ (2 ≤ n0 ∧ 64 < n0) ∨ (2 ≤ n0 ∧ n0 ≤ 64 ∧ (100 : Int) < l.length) by omega) with h1 | ⟨h1, h2⟩ | ⟨h1, h2, h3⟩
    all_goals
      clear hbad
      go_enter Try.func3, Try.ntmps3
      go_wp2_with (go_at_call 6; refine (L.out _).mono ?_; rintro e w' ⟨rfl, hb2⟩)
      go_ret
      exact ⟨rfl, by assumption⟩
  obtain ⟨n, rfl⟩ : ∃ n : Nat, n0 = n := ⟨n0.toNat, by omega⟩
  have g1 : (2 : Int) ≤ n := by omega
  have g2 : (n : Int) ≤ 64 := by omega
  have g3 : (l.length : Int) ≤ 100 := by omega
  clear hbad
  have hcl : clamp (n : Int) = n := by unfold clamp; omega
  have N := Lib.hid (new_any (n : Int) w)
  rw [hcl] at N
  clear hcl
  obtain ⟨ct, hc1, hc2, hmk⟩ := make_truths n (by omega)
  have HC1 := Lib.hid hc1
  have HC2 := Lib.hid hc2
  clear hc1 hc2
  go_enter Try.func3, Try.ntmps3
  go_wp2_with fail
  refine N.out.mono ?_
  rintro e w1 ⟨rfl, hk, hb, hs⟩
  have R0 : Hid (FillLoop w w.heap.size (w.heap.size + 1) n (.int .i64 ((0 : Nat) : Int)) w1) := Lib.hid ⟨0, rfl, Nat.zero_le _, hk.congr (fun j _ => by simp [fillF]), hb⟩
  clear hk hb hs N
  generalize hC : w.heap.size + 1 = C at *
  generalize hA : w.heap.size = A at *
  go_wp2_with fail
  go_loopw [6] (fun v6 wr => FillLoop w A C n v6 wr) (fun v6 _ => n - (intOf v6).toNat)
  case atStart => exact R0.out
  case round =>
    clear R0
    obtain ⟨j, rfl, hj, hk, hb⟩ := hrel
    have HB := Lib.hid hb
    have hAw : A ≤ wr.heap.size := by have := hb.size; omega
    by_cases hlt : j < n
    · have T := Lib.hid (take_any hk (fun i _ => by unfold fillF zeroSlot; split <;> simp))
      rw [take_fill hlt] at T
      have hAC := hk.bc
      clear hk hb
      go_wp2_with fail
      refine T.out.mono ?_
      rintro e w2 ⟨rfl, hk, ho⟩
      have F : Hid (ClockAt w2 A C A n (fillF (j + 1)) 0 ∧ Below A w w2) := Lib.hid ⟨hk, HB.out.trans (ho.below (by simp; omega) hAw)⟩
      clear hk ho
      go_wp2
      go_roundw
      case rel => exact ⟨j + 1, by go_num, hlt, F.out⟩
      case measure => simp [intOf]; omega
    · obtain rfl : j = n := by omega
      obtain ⟨W2, rfl⟩ : ∃ W : World, W = wr := ⟨_, rfl⟩
      have K1 := Lib.hid (hk.congr (f' := uF fun _ => true) (fun i hi => by simp [fillF, uF, hi]))
      have T := Lib.hid (take_any K1.out (fun i _ => by simp [uF]))
      rw [take_first (by omega) (fun _ _ => rfl)] at T
      have hAC := hk.bc
      clear hk hb
      go_wp2_with fail
      refine T.out.mono ?_
      rintro e w3 ⟨rfl, hk, ho⟩
      have B3 := Lib.hid (HB.out.trans (ho.below (by simp; omega) hAw))
      have hA3 : A ≤ w3.heap.size := by have := B3.out.size; omega
      have K3 : Hid (ClockAt w3 A C A j (uF fun i => i == 0) (1 % j)) := Lib.hid (hk.congr (fun i hi => by
        unfold uF upd clr
        by_cases e : i = 0
        · simp [e]
        · simp [e, hi]))
      clear hk ho T
      have R2 : Hid (UseLoop w l.length A C w3.heap.size j (.int .i64 ((0 : Nat) : Int)) (.int .i64 ((0 : Nat) : Int)) (w3.alloc (.cells ct 4))) := Lib.hid ⟨fun _ => false, 0, rfl, Nat.zero_le _, by
          have : cnt (others fun _ => false) j = 0 := by
            have h : ∀ i, cnt (others fun _ => false) i = 0 := fun i => by
              induction i with
              | zero => rfl
              | succ i ih => rw [cnt, ih]; simp [others]
            exact h j
          rw [this], ⟨(K3.out.only (fp := []) ((Only.refl [] w3).alloc _) (by simp) (by simp)).congr (fun i _ => by simp [uF]), ⟨ct, newest w3 _, HC1.out, HC2.out⟩, B3.out.alloc hA3 _, hA3, Ne.symm (Nat.ne_of_lt K3.out.slots.lt), Ne.symm (Nat.ne_of_lt (lt_of_block' K3.out.c))⟩⟩
      clear B3
      generalize hg : w3.heap.size = g at *
      generalize hw4 : w3.alloc (.cells ct 4) = w4 at *
      go_wp2_with fail
      go_loopw [10, 11] (fun v10 v11 wr => UseLoop w l.length A C g j v10 v11 wr) (fun _ v11 _ => l.length - (intOf v11).toNat)
      case atStart => exact R2.out
      case round =>
        clear R2 K1 K3
        obtain ⟨v, i, rfl, hi, rfl, hr⟩ := hrel
        have hAr : A ≤ wr.heap.size := by have := hr.below.size; omega
        by_cases hil : i < l.length
        · obtain ⟨b, off, rfl, hbl, hcl⟩ := HA.out (by intro e; rw [e] at hil; simp at hil)
          have hili : (i : Int) < l.length := by omega
          obtain ⟨x0', hz0, hz1⟩ := hcl i hil
          have hbA : b < A := by omega
          have x0 := (hr.below.cell (p := ⟨b, off + i, none⟩) hbA).trans x0'
          have HR := Lib.hid hr
          have hcle := cnt_le (others v) j
          clear hcl x0' hr
          generalize l[i] = z at *
          obtain ⟨k, hk⟩ : ∃ k : Nat, z.toNat % j = k := ⟨_, rfl⟩
          have hkj : k < j := by rw [← hk]; exact Nat.mod_lt _ (by omega)
          have hkz : Hid ((k : Int) = z % (j : Int)) := Lib.hid (by rw [← hk]; simp; rw [Int.max_eq_left hz0])
          have hkz2 : z.tmod (j : Int) = (k : Int) := by rw [Int.tmod_eq_emod_of_nonneg hz0]; exact hkz.out.symm
          have hkz3 : z % (j : Int) = (k : Int) := hkz.out.symm
          have U := Lib.hid (use_any HR.out.k (k : Int))
          have hj0 : (j : Int) ≠ 0 := by omega
          clear hk
          go_wp2_with fail
          refine U.out.mono ?_
          rintro e w5 ⟨rfl, hk5, ho⟩
          have F := Lib.hid (HR.out.next hkj hk5 ho hAr)
          have row5 : CellsF w5 g 4 (fun j => .bool (v j)) j := HR.out.row.keep (ho.block g HR.out.row.lt (by simp; exact HR.out.gA))
          have y0 := row5.cell k hkj
          have y1 := row5.frozen k
          have hkj' : (k : Int) < j := by omega
          have HM : Hid (cnt (others (upd v k)) j = cnt (others v) j + (if (!v k && k != 0) then 1 else 0)) := Lib.hid (others_upd hkj)
          clear hk5 ho U row5 x0 hkz2 hkz3
          cases hv : v k with
          | true =>
            rw [hv] at y0
            go_wp2
            go_roundw
            case rel => exact ⟨_, i + 1, by go_num, hil, by rw [HM.out, hv]; rfl, F.out⟩
            case measure => simp [intOf]; omega
          | false =>
            rw [hv] at y0
            by_cases hk0 : k = 0
            · subst hk0
              go_wp2
              go_roundw
              case rel => exact ⟨_, i + 1, by go_num, hil, by rw [HM.out]; simp, F.out⟩
              case measure => simp [intOf]; omega
            · have e1 : (k == 0) = false := by simpa using hk0
              have e2 : ((k : Int) == 0) = false := by rw [beq_eq_false_iff_ne]; omega
              have e3 : ((k : Int) != 0) = true := by simp; exact hk0
              have e4 : (k != 0) = true := by simpa using hk0
              have HM2 : Hid (cnt (others (upd v k)) j = cnt (others v) j + 1) := Lib.hid (by rw [HM.out, hv, e4]; rfl)
              go_wp2
              go_roundw
              case rel => exact ⟨_, i + 1, by go_num, hil, by rw [HM2.out]; go_num, F.out⟩
              case measure => simp [intOf]; omega
        · have HR := Lib.hid hr
          have hM : cnt (others v) j + 1 ≤ j := by rw [← cnt_first (v := v) (n := j) (by omega)]; exact cnt_le _ _
          have y0 := hr.row.cell 0 (by omega)
          have y1 := hr.row.frozen 0
          have hj0 : (0 : Int) < j := by omega
          have hgA := hr.gA
          have hgC := hr.gC
          have T0 : Hid (TurnRel A w C g j (fun i => i == 0 || v i) (upd v 0) 1 (wr.setCell ⟨g, 0, none⟩ (.bool true))) := Lib.hid
            ⟨hr.k.only (fp := [g]) ((Only.refl [g] wr).setCell (p := ⟨g, 0, none⟩) (.inl (by simp)) (.bool true)) (by simp; exact Ne.symm hr.gC) (by simp; exact Ne.symm hr.gA),
              (hr.row.set 0 (by omega) (.bool true)).congr (fun i _ => by unfold upd; by_cases e : i = 0 <;> simp [e]),
              hr.below.setCell (p := ⟨g, 0, none⟩) hr.ag _, hr.ag, hr.gA, hr.gC, (fun i _ _ => or_upd v i), (fun i hi => by unfold upd; rw [if_pos (by omega)]), by omega⟩
          have HM0 : Hid (cnt (upd v 0) j = cnt (others v) j + 1 + 0) := Lib.hid (cnt_first (by omega))
          clear hr
          generalize cnt (others v) j = M at *
          obtain ⟨W5, rfl⟩ : ∃ W : World, W = wr := ⟨_, rfl⟩
          go_wp2_with fail
          go_loopw [13] (fun v13 wr => TurnLoop w A C g j M v13 wr) (fun v13 _ => j - (intOf v13).toNat)
          case atStart => exact ⟨_, _, 1, 0, rfl, HM0.out, T0.out⟩
          case round =>
            clear T0 HM0 HR y0 y1
            obtain ⟨u, x, h, i, rfl, hcnt, hr⟩ := hrel
            have hAr : A ≤ wr.heap.size := by have := hr.below.size; omega
            have hle := cnt_le x j
            by_cases hlt : (i : Int) < j - 1 - M
            · obtain ⟨q, hq1, hq2, hq3⟩ := cnt_lt (v := x) (n := j) (by omega)
              have hhq : h ≤ q := by
                rcases Nat.lt_or_ge q h with h1 | h1
                · have := hr.past q h1; rw [hq2] at this; cases this
                · exact h1
              have hmod : h % j = h := Nat.mod_eq_of_lt (by omega)
              have T := Lib.hid (take_any hr.k (fun i _ => by simp [uF]))
              rw [hmod, take_next hhq hq1 (fun i h1 h2 => by rw [hr.same i h1 (by omega)]; exact hq3 i h2) (by rw [hr.same q hhq hq1]; exact hq2)] at T
              have HR := Lib.hid hr
              have HC : Hid (cnt (upd x q) j = M + 1 + (i + 1)) := Lib.hid (by rw [cnt_upd hq1 hq2, hcnt]; omega)
              have HQ := Lib.hid hq3
              clear hmod hr hcnt hq3
              go_wp2_with fail
              refine T.out.mono ?_
              rintro e w6 ⟨rfl, hk6, ho⟩
              have row6 : CellsF w6 g 4 (fun j => .bool (x j)) j := HR.out.row.keep (ho.block g HR.out.row.lt (by simp; exact ⟨HR.out.gC, HR.out.gA⟩))
              have y0 := row6.cell q hq1
              have y1 := row6.frozen q
              rw [hq2] at y0
              have F := Lib.hid (HR.out.next hk6 ho row6 hAr hq1 hhq HQ.out)
              have hq1' : (q : Int) < j := by omega
              have hq4 : ¬ j ≤ q := by omega
              clear hk6 ho row6 T hq2
              go_wp2
              go_roundw
              case rel => exact ⟨_, _, q + 1, i + 1, by go_num, HC.out, F.out⟩
              case measure => simp [intOf]; omega
            · have HB := Lib.hid hr.below
              clear hr
              go_wp2_with fail
              refine (L.out wr).mono ?_
              rintro e w' ⟨rfl, hb2⟩
              have HB2 := Lib.hid (HB.out.trans (hb2.mono hAr))
              clear hb2
              go_wp2
              go_ret
              exact ⟨rfl, by rw [hA]; exact HB2.out⟩

theorem open_bytes {H : Type} {enc : TypeId × Value → H} {w : World} {a : Option Addr} {len cap fuel : Nat} {x : DataW H × List MemPlace} (h : DataW.trod enc Try.prog w 0 (fun _ => true) true fuel 22 (Value.slice a len cap).cells.toList = some x) :
    ∃ l : List Int, len = l.length ∧ l.length ≤ cap ∧ cap ≤ maxLen ∧ BytesAt w a l := by
  rcases open_ints Try.underlying22 Try.underlying5 (by kernel_rfl) h with ⟨hcs, _⟩ | ⟨ad, len', cap', zs, hcs, _, hl, hm, hz, _, hcell, hwz⟩
  · simp [Value.cells] at hcs
    obtain ⟨rfl, rfl, rfl⟩ := hcs
    exact ⟨[], rfl, Nat.le_refl _, by unfold maxLen; omega, fun h => absurd rfl h⟩
  · simp [Value.cells] at hcs
    obtain ⟨rfl, rfl, rfl⟩ := hcs
    have hlz : len ≤ zs.length := by rw [hz]; split <;> omega
    refine ⟨zs.take len, by simp [hlz], by simp [hlz]; omega, hm, fun hne => ?_⟩
    have hpos : 0 < len := by
      rcases Nat.eq_zero_or_pos len with h | h
      · subst h; simp at hne
      · exact h
    obtain ⟨b, off, spot⟩ := ad
    have c0 := hcell 0 (by omega)
    have hspot : spot = none := by simpa [Addr.add] using World.cell?_spot c0
    subst hspot
    refine ⟨b, off, rfl, ?_, fun i hi => ?_⟩
    · have := World.block_lt_of_cell? w _ c0
      simpa [Addr.add] using this
    · have hi' : i < len := by simp at hi; omega
      have hiz : i < zs.length := by omega
      have c1 := hcell i hiz
      rw [Addr.add_lit] at c1
      have e : (zs.take len)[i] = zs.getD i 0 := by simp [hiz]
      rw [e]
      have hwf := hwz (zs.getD i 0) (by simp [hiz])
      have m0 : IntKind.u8.min = 0 := rfl
      have m1 : IntKind.u8.max = 255 := rfl
      simp only [Lit.wf, m0, m1, Bool.and_eq_true, decide_eq_true_eq] at hwf
      exact ⟨c1, hwf⟩

/-! ### The row's step -/
set_option maxRecDepth 100000 in
theorem lifted (os : Os) (started : os.Started) (H : Type) (enc : TypeId × Value → H) :
    ReturnsInHanded {} Try.checked os 3 .any (Rows.clockChanceSpec.pre6 enc Try.prog Try.f3 Rows.clockChanceRow.domain false) (Rows.clockChanceSpec.post enc Try.prog Try.f3 false true false false) := by
  refine returnsInHanded_of_change (C := Try.checked) own started (by kernel_rfl) Try.func3
    (ChangeSpec.witness6 (enc := enc) (C := Try.checked) false ⟨#[], #[.int .i64 0, .slice none 0 0], []⟩ 8 (by kernel_rfl) (by kernel_rfl) (by kernel_rfl) (by kernel_rfl)) ?_
  intro W base args ds gs before hval0 hW hcnd _
  have hval : ∀ (j : Nat) t v, Try.f3.params[j]? = some t → args[j]? = some v → Value.okWide Try.prog W .any base t v := hval0
  have hW' := hW
  obtain ⟨p, q, hA0, hV, rfl, hfz, hnd⟩ := hW
  have hA : DataW.TrodAll enc Try.prog W 0 (fun _ => true) true Try.f3.params.toList args.toList ds p := hA0
  rw [Try.params3] at hA hval
  obtain ⟨v0, vs0, d0, ds0, p0, q0, hargs, rfl, rfl, h0, r0⟩ := trodAll_cons hA
  obtain ⟨v1, vs1, d1, ds1, p1, q1, rfl, rfl, rfl, h1, r1⟩ := trodAll_cons r0
  obtain ⟨rfl, rfl, rfl⟩ := trodAll_nil r1
  obtain rfl : args = #[v0, v1] := by cases args; simp_all
  obtain ⟨rfl, rfl⟩ := trodVars_none hV
  obtain ⟨n0, rfl, rfl, rfl, w0⟩ := open_int Try.underlying3 (hval 0 3 v0 rfl rfl) h0
  obtain ⟨a0, len0, cap0, rfl⟩ := okWide_slice Try.underlying22 (hval 1 22 v1 rfl rfl)
  have k1 := h1
  have lt1 : ∀ x ∈ p1, x.block < W.heap.size := by obtain ⟨m, hm⟩ := k1; exact DataW.trod_lt m _ _ _ hm
  obtain ⟨l, rfl, hc0, hm0, hr0⟩ : ∃ l : List Int, len0 = l.length ∧ l.length ≤ cap0 ∧ cap0 ≤ maxLen ∧ BytesAt W a0 l := by
    obtain ⟨fuel, hf⟩ := h1
    exact open_bytes hf
  clear hA0 hval0
  refine (walk n0 a0 l cap0 W hc0 hm0 hr0).mono fun e W' ⟨he, bel⟩ => ?_
  subst he
  exact ⟨_, rfl, _, _, _, [], _, [], hW', trodAll_mk1 (shut_bool Try.underlying4 _), (trodAll_cons_mk (shut_int Try.underlying3 w0) (trodAll_cons_mk (Below.trod laidOut (by kernel_rfl) (of_decide_eq_true (by kernel_rfl)) k1 bel lt1) trodAll_mk0)), rfl, bel.frame _, fun h => by cases h⟩

theorem over : Rows.clockChanceRow.holds Try.pinned (OpenSpec.ofChange Rows.clockChanceSpec) :=
  OpenClaim.holds_of_wide 3 Try.f3 rfl rfl rfl rfl rfl rfl rfl ⟨rfl, rfl, rfl, rfl, rfl⟩ rfl rfl rfl rfl rfl (by kernel_rfl) Try.func3 (by kernel_rfl)
    (of_decide_eq_true (by kernel_rfl)) (by unfold Func.isWrapper; first | (rw [if_pos (by decide +kernel)]; kernel_rfl) | (rw [if_neg (by decide +kernel)]; exact ⟨rfl, rfl⟩))
    (fun os started H enc _ => lifted os started H enc)

/-- THE STATEMENT. -/
theorem proved : Rows.ClockChanceSaid := over
#print axioms proved
end Go.Proofs.Ytfcifdddmcnjcaa.clockChance
