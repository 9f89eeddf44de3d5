/-
  PROVED: 'Rows.RetryDoesSaid': for every int and every slice of ints that 'RetryDoes' is called with, it returns true. No conditions.
-/
import Derived.Test.YtfokbnbfaienjaaRow
import Derived.WalkKit
import Derived.ProofKit
import Derived.OpenShut
import Derived.ShutString
import Derived.ChangeOld
import Derived.Below
namespace Go.Proofs.Ytfokbnbfaienjaa.retryDoes
open Go.ChangeShapes Go.WideShapes Go.ChangeAt Go.RowKit
open Go.ChangeMaps (open_string shut_string)
set_option linter.unusedVariables false

theorem own : ownKnob Try.prog.godebug = none := by kernel_rfl
theorem laidOut : laidOutB Try.prog = true := by kernel_rfl

/-! ### STEP 1: THE WALK: the Go text returns true, AND WRITES NOTHING THAT WAS THERE: 'Below w.heap.size w w'' (Derived/Below.lean: '.refl', '.alloc', '.drew', '.setCell' at a new block, '.trans'). Open each 'IsRow' by 'rcases' AHEAD of 'go_enter'; part every test ahead of the walk. -/
def W4 (w : World) (a : Option Addr) (len cap : Nat) : World :=
  (((w.alloc (.cells #[.slice a len cap, .int .i64 0] 26)).alloc (.cells #[.slice a len cap, .int .i64 0] 26)).alloc (.cells #[.pointer (some ⟨w.heap.size, 0, none⟩)] 24)).alloc (.cells #[.pointer (some ⟨w.heap.size + 1, 0, none⟩)] 24)

theorem W4_size (w : World) (a : Option Addr) (len cap : Nat) : (W4 w a len cap).heap.size = w.heap.size + 4 := by simp [W4]
theorem W4_below (w : World) (a : Option Addr) (len cap : Nat) : Below w.heap.size w (W4 w a len cap) :=
  ((((Below.refl _ w).alloc (Nat.le_refl _) _).alloc (by simp) _).alloc (by simp; omega) _).alloc (by simp; omega) _
theorem W4_0 (w : World) (a : Option Addr) (len cap : Nat) : (W4 w a len cap).heap[w.heap.size]? = some (.cells #[.slice a len cap, .int .i64 0] 26 (0, 0)) :=
  (Below.heap_alloc _ _ _ (by simp; omega)).trans (newer2 _ _ _ _)
theorem W4_1 (w : World) (a : Option Addr) (len cap : Nat) : (W4 w a len cap).heap[w.heap.size + 1]? = some (.cells #[.slice a len cap, .int .i64 0] 26 (0, 0)) :=
  (Below.heap_alloc _ _ _ (by simp)).trans (newer1 _ _ _ _)
theorem W4_2 (w : World) (a : Option Addr) (len cap : Nat) : (W4 w a len cap).heap[w.heap.size + 1 + 1]? = some (.cells #[.pointer (some ⟨w.heap.size, 0, none⟩)] 24 (0, 0)) :=
  (Below.heap_alloc _ _ _ (by simp)).trans (newest2 _ _ _ _)
theorem W4_3 (w : World) (a : Option Addr) (len cap : Nat) : (W4 w a len cap).heap[w.heap.size + 1 + 1 + 1]? = some (.cells #[.pointer (some ⟨w.heap.size + 1, 0, none⟩)] 24 (0, 0)) := by
  have := newest ((((w.alloc (.cells #[.slice a len cap, .int .i64 0] 26)).alloc (.cells #[.slice a len cap, .int .i64 0] 26)).alloc (.cells #[.pointer (some ⟨w.heap.size, 0, none⟩)] 24))) (.cells #[.pointer (some ⟨w.heap.size + 1, 0, none⟩)] 24)
  simpa [W4] using this

set_option maxHeartbeats 400000 in
theorem walk (a0 : Int) (a1 : Option Addr) (len1 cap1 : Nat) (z1 : List Int) (w : World) (w0 : (Lit.int .i64 a0).wf = true) (w1 : IsRow .i64 w a1 len1 cap1 z1) :
    Calls Try.prog 3 #[.int .i64 a0, .slice a1 len1 cap1] w fun e w' => e = .returned (.bool true) ∧ Below w.heap.size w w' := by
  have hmf : ∀ (fn : Fn) (first cap : Array Value) (w : World), (Instr.makeFunc fn first cap).run Try.prog w = .ok (.func fn first cap) w := fun _ _ _ _ => rfl
  clear w0
  have L := Lib.hid (fun v : World => live_any v)
  by_cases hlen : 20 < len1
  · go_enter Try.func3, Try.ntmps3
    go_wp2_with (go_at_call 6; refine (L.out _).mono ?_; rintro e w' ⟨rfl, hb2⟩)
    go_ret
    exact ⟨rfl, by assumption⟩
  have row4 : IsRow .i64 (W4 w a1 len1 cap1) a1 len1 cap1 z1 := w1.kept (B := w.heap.size) (R := w.heap.size) ⟨(W4_below w a1 len1 cap1).os, (W4_below w a1 len1 cap1).tape, (W4_below w a1 len1 cap1).output, (W4_below w a1 len1 cap1).size, fun b hb _ => (W4_below w a1 len1 cap1).block b hb⟩
    (fun x hx hp => ⟨w1.lt x hx hp, by have := w1.lt x hx hp; omega⟩)
  have baseA : RowBase (W4 w a1 len1 cap1) (w.heap.size + 4) w.heap.size (w.heap.size + 1 + 1) a1 len1 cap1 z1 :=
    ⟨W4_2 _ _ _ _, row4, fun x hx hp => ⟨by have := w1.lt x hx hp; omega, by have := w1.lt x hx hp; omega⟩, by omega, by omega, by omega⟩
  have invA : RowInv (W4 w a1 len1 cap1) (w.heap.size + 4) w.heap.size (w.heap.size + 1 + 1) a1 len1 cap1 z1 0 11 (W4 w a1 len1 cap1) := ⟨W4_0 _ _ _ _, BelowBut.refl _ _ _, Told.start _⟩
  have c8 : Callable 8 := fun _ _ => by kernel_rfl
  have c11 : Callable 11 := fun _ _ => by kernel_rfl
  have hl20 : len1 ≤ 20 := by omega
  by_cases hg : 1 ≤ a0 ∧ a0 ≤ 8
  · obtain ⟨g1, g2⟩ := hg
    have CA := Lib.hid (do_any a0 g1 g2 8 c8 #[.pointer (some ⟨w.heap.size + 1 + 1, 0, none⟩)] _ _ invA (Lib.hid fun k v hk hi => (clos8 baseA k v (by omega) hi).mono fun _ _ h => h.some))
    have W1 := Lib.hid w1
    have R4 := Lib.hid row4
    clear w1 baseA invA row4
    go_enter Try.func3, Try.ntmps3
    go_wp2_with fail
    refine CA.out.mono ?_
    rintro e v ⟨k, x, rfl, h1, h3, hx, hinv⟩
    clear CA
    have hsz : w.heap.size + 4 ≤ v.heap.size := by have := hinv.kept.size; rw [W4_size] at this; exact this
    have baseB : RowBase v v.heap.size (w.heap.size + 1) (w.heap.size + 1 + 1 + 1) a1 len1 cap1 z1 :=
      ⟨(hinv.kept.block _ (by omega) (by omega)).trans (W4_3 _ _ _ _), R4.out.kept hinv.kept (fun x hx hp => ⟨by have := W1.out.lt x hx hp; omega, by have := W1.out.lt x hx hp; omega⟩),
        fun x hx hp => ⟨by have := W1.out.lt x hx hp; omega, by have := W1.out.lt x hx hp; omega⟩, by omega, by omega, by omega⟩
    have invB : RowInv v v.heap.size (w.heap.size + 1) (w.heap.size + 1 + 1 + 1) a1 len1 cap1 z1 0 11 v := ⟨(hinv.kept.block _ (by omega) (by omega)).trans (W4_1 _ _ _ _), BelowBut.refl _ _ _, Told.start _⟩
    have CB := Lib.hid (sure_any a0 g1 g2 11 c11 #[.pointer (some ⟨w.heap.size + 1 + 1 + 1, 0, none⟩)] _ v invB
      (fun k x v1 v2 hi hb => ⟨(hb.block _ (by omega)).trans hi.row, hi.kept.below hb, hi.told⟩)
      (Lib.hid fun k v1 hk hi => clos11 baseB k v1 (by omega) hi))
    have HA := Lib.hid hinv
    have HX := Lib.hid hx
    have RV := Lib.hid baseB.cells
    have VB := Lib.hid baseB.var
    clear invB hinv hx baseB
    go_wp2_with fail
    refine CB.out.mono ?_
    rintro e v2 ⟨m, y, rfl, h1', h3', hy, hinv2⟩
    clear CB
    obtain ⟨rfl, rfl⟩ := Told.same HA.out.told hinv2.told h1 h1' h3 h3' HX.out hy
    have HB := Lib.hid hinv2
    clear hinv2 hy
    have CR := Lib.hid (ref_any a0 g1 g2 a1 len1 cap1 z1 v2 (RV.out.kept HB.out.kept (fun x hx hp => ⟨by have := W1.out.lt x hx hp; omega, by have := W1.out.lt x hx hp; omega⟩)))
    go_wp2_with fail
    refine CR.out.mono ?_
    rintro e v3 ⟨m, y, rfl, h1', h3', hy, ht, rfl⟩
    clear CR
    obtain ⟨rfl, rfl⟩ := Told.same HA.out.told ht h1 h1' h3 h3' HX.out hy
    clear ht hy
    have cA : v2.cell? ⟨w.heap.size + 1 + 1, 0, none⟩ = some (.pointer (some ⟨w.heap.size, 0, none⟩)) :=
      cell_of_one ((HB.out.kept.block _ (by omega) (by omega)).trans ((HA.out.kept.block _ (by omega) (by omega)).trans (W4_2 _ _ _ _)))
    have cB : v2.cell? ⟨w.heap.size + 1 + 1 + 1, 0, none⟩ = some (.pointer (some ⟨w.heap.size + 1, 0, none⟩)) :=
      cell_of_one ((HB.out.kept.block _ (by omega) (by omega)).trans VB.out)
    have nA : v2.cell? ⟨w.heap.size, 1, none⟩ = some (.int .i64 k) := by
      have := (HB.out.kept.block w.heap.size (by omega) (by omega)).trans HA.out.row
      simp [World.cell?, this]
    have nB : v2.cell? ⟨w.heap.size + 1, 1, none⟩ = some (.int .i64 k) := by
      have := HB.out.row
      simp [World.cell?, this]
    have bel : Hid (Below w.heap.size w v2) := Lib.hid ((W4_below w a1 len1 cap1).trans ((HA.out.kept.toBelow (by omega) (Nat.le_refl _)).trans (HB.out.kept.toBelow (by omega) (by omega))))
    go_wp2_with (first | (go_at_call 13; refine (num_any _ _).mono ?_; rintro e w' ⟨rfl, rfl⟩) | (go_at_call 6; refine (L.out _).mono ?_; rintro e w' ⟨rfl, hb2⟩))
    go_ret
    exact ⟨rfl, bel.out.trans (Below.mono (by assumption) bel.out.size)⟩
  · have CA := Lib.hid (do_arg a0 (by omega) 8 #[.pointer (some ⟨w.heap.size + 1 + 1, 0, none⟩)] (W4 w a1 len1 cap1))
    have CB := Lib.hid (sure_arg a0 (by omega) 11 #[.pointer (some ⟨w.heap.size + 1 + 1 + 1, 0, none⟩)] (W4 w a1 len1 cap1))
    have CR := Lib.hid (fun v => ref_arg a0 (by omega) a1 len1 cap1 v)
    clear w1 baseA invA row4 hg
    go_enter Try.func3, Try.ntmps3
    go_wp2_with fail
    refine CA.out.mono ?_
    rintro e v ⟨rfl, rfl⟩
    go_wp2_with fail
    refine CB.out.mono ?_
    rintro e v ⟨rfl, hb⟩
    go_wp2_with fail
    refine (CR.out _).mono ?_
    rintro e v' ⟨rfl, rfl⟩
    have hz4 := W4_size w a1 len1 cap1
    have kp : ∀ i, i < w.heap.size + 4 → v.heap[i]? = (W4 w a1 len1 cap1).heap[i]? := fun i hi => hb.block i (by omega)
    have cA : v.cell? ⟨w.heap.size + 1 + 1, 0, none⟩ = some (.pointer (some ⟨w.heap.size, 0, none⟩)) := cell_of_one ((kp _ (by omega)).trans (W4_2 _ _ _ _))
    have cB : v.cell? ⟨w.heap.size + 1 + 1 + 1, 0, none⟩ = some (.pointer (some ⟨w.heap.size + 1, 0, none⟩)) := cell_of_one ((kp _ (by omega)).trans (W4_3 _ _ _ _))
    have nA : v.cell? ⟨w.heap.size, 1, none⟩ = some (.int .i64 0) := by
      have := (kp w.heap.size (by omega)).trans (W4_0 _ _ _ _)
      simp [World.cell?, this]
    have nB : v.cell? ⟨w.heap.size + 1, 1, none⟩ = some (.int .i64 0) := by
      have := (kp (w.heap.size + 1) (by omega)).trans (W4_1 _ _ _ _)
      simp [World.cell?, this]
    have bel : Hid (Below w.heap.size w v) := Lib.hid ((W4_below w a1 len1 cap1).trans (hb.mono (by omega)))
    clear hb hz4 kp
    go_wp2_with (first | (go_at_call 13; refine (num_any _ _).mono ?_; rintro e w' ⟨rfl, rfl⟩) | (go_at_call 6; refine (L.out _).mono ?_; rintro e w' ⟨rfl, hb2⟩))
    go_ret
    exact ⟨rfl, bel.out.trans (Below.mono (by assumption) bel.out.size)⟩

/-! ### THE ROW's STEP: WRITTEN OUT: LEAVE IT -/
set_option maxRecDepth 100000 in
theorem lifted (os : Os) (started : os.Started) (H : Type) (enc : TypeId × Value → H) :
    ReturnsInHanded {} Try.checked os 3 .any (Rows.retryDoesSpec.pre6 enc Try.prog Try.f3 Rows.retryDoesRow.domain false) (Rows.retryDoesSpec.post enc Try.prog Try.f3 false true false false) := by
  refine returnsInHanded_of_change (C := Try.checked) own started (by kernel_rfl) Try.func3
    (ChangeSpec.witness6 (enc := enc) (C := Try.checked) false ⟨#[], #[.int .i64 0, .slice none 0 0], []⟩ 8 (by kernel_rfl) (by kernel_rfl) (by kernel_rfl) (by kernel_rfl)) ?_
  intro W base args ds gs before hval0 hW hcnd _
  have hval : ∀ (j : Nat) t v, Try.f3.params[j]? = some t → args[j]? = some v → Value.okWide Try.prog W .any base t v := hval0
  have hW' := hW
  obtain ⟨p, q, hA0, hV, rfl, hfz, hnd⟩ := hW
  have hA : DataW.TrodAll enc Try.prog W 0 (fun _ => true) true Try.f3.params.toList args.toList ds p := hA0
  rw [Try.params3] at hA hval
  obtain ⟨v0, vs0, d0, ds0, p0, q0, hargs, rfl, rfl, h0, r0⟩ := trodAll_cons hA
  obtain ⟨v1, vs1, d1, ds1, p1, q1, rfl, rfl, rfl, h1, r1⟩ := trodAll_cons r0
  obtain ⟨rfl, rfl, rfl⟩ := trodAll_nil r1
  obtain rfl : args = #[v0, v1] := by cases args; simp_all
  obtain ⟨rfl, rfl⟩ := trodVars_none hV
  obtain ⟨a0, rfl, rfl, rfl, w0⟩ := open_int Try.underlying3 (hval 0 3 v0 rfl rfl) h0
  obtain ⟨a1, len1, cap1, rfl⟩ := okWide_slice Try.underlying22 (hval 1 22 v1 rfl rfl)
  have k1 := h1
  have lt1 : ∀ x ∈ p1, x.block < W.heap.size := by obtain ⟨m, hm⟩ := k1; exact DataW.trod_lt m _ _ _ hm
  obtain ⟨z1, w1⟩ : ∃ zs, IsRow .i64 W a1 len1 cap1 zs := by
    obtain ⟨fuel, hf⟩ := h1
    rcases open_ints Try.underlying22 Try.underlying3 (by kernel_rfl) hf with ⟨hcs, _⟩ | ⟨x, l, c, zs, hcs, _, hl, hm, hz, _, hcell, hwz⟩
    · simp [Value.cells] at hcs
      obtain ⟨rfl, rfl, rfl⟩ := hcs
      exact ⟨[], .inl ⟨rfl, rfl, rfl, rfl⟩⟩
    · simp [Value.cells] at hcs
      obtain ⟨rfl, rfl, rfl⟩ := hcs
      exact ⟨zs, .inr ⟨_, rfl, hl, hm, by simpa using hz, hcell, hwz⟩⟩
  clear hA0 hval0
  refine (walk a0 a1 len1 cap1 z1 W w0 w1).mono fun e W' ⟨he, bel⟩ => ?_
  subst he
  exact ⟨_, rfl, _, _, _, [], _, [], hW', trodAll_mk1 (shut_bool Try.underlying4 _), (trodAll_cons_mk (shut_int Try.underlying3 w0) (trodAll_cons_mk (Below.trod laidOut (by kernel_rfl) (of_decide_eq_true (by kernel_rfl)) k1 bel lt1) trodAll_mk0)), rfl, bel.frame _, fun h => by cases h⟩

theorem over : Rows.retryDoesRow.holds Try.pinned (OpenSpec.ofChange Rows.retryDoesSpec) :=
  OpenClaim.holds_of_wide 3 Try.f3 rfl rfl rfl rfl rfl rfl rfl ⟨rfl, rfl, rfl, rfl, rfl⟩ rfl rfl rfl rfl rfl (by kernel_rfl) Try.func3 (by kernel_rfl)
    (of_decide_eq_true (by kernel_rfl)) (by unfold Func.isWrapper; first | (rw [if_pos (by decide +kernel)]; kernel_rfl) | (rw [if_neg (by decide +kernel)]; exact ⟨rfl, rfl⟩))
    (fun os started H enc _ => lifted os started H enc)

/-- ████ THE STATEMENT ████ -/
theorem proved : Rows.RetryDoesSaid := over
#print axioms proved
end Go.Proofs.Ytfokbnbfaienjaa.retryDoes
