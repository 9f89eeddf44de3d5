/-
  PROVED: 'Rows.WaitOnceSaid': for every slice of keys that 'WaitOnce' is called with, it returns true. No conditions.
-/
import Derived.Test.YtpanakfbbdeihaaLive
import Derived.ProofKit
import Derived.OpenShut
import Derived.ShutString
import Derived.ChangeOld
import Derived.Deep.SlicePairs
import Derived.Deep.RegionHeld3
namespace Go.Proofs.Ytpanakfbbdeihaa.waitOnce
open Go.ChangeShapes Go.WideShapes Go.ChangeAt Go.RowKit
open Go.ChangeMaps (open_string shut_string)
set_option linter.unusedVariables false

theorem own : ownKnob Try.prog.godebug = none := by kernel_rfl
theorem laidOut : laidOutB Try.prog = true := by kernel_rfl

/-- A slice of keys that came in. -/
theorem open_keys {H : Type} {enc : TypeId × Value → H} {w : World} {a : Option Addr} {len cap fuel : Nat} {x : DataW H × List MemPlace} (h : DataW.trod enc Try.prog w 0 (fun _ => true) true fuel 22 (Value.slice a len cap).cells.toList = some x) :
    ∃ ks : List Key, len = ks.length ∧ ks.length ≤ cap ∧ cap ≤ maxLen ∧ RdAt w a ks := by
  rcases Deep.open_slice_pairs Try.underlying22 Try.underlying30 (by kernel_rfl) rfl rfl (by kernel_rfl) (by kernel_rfl) (by simpa [Value.cells] using h) with ⟨hcs, _⟩ | ⟨ad, l', c', m, n, V0, V1, D0, D1, P0, P1, hcs, _, hl, hm, hmm, _, hx⟩
  · simp at hcs
    obtain ⟨rfl, rfl, rfl⟩ := hcs
    exact ⟨[], rfl, Nat.le_refl _, by unfold maxLen; omega, fun h => absurd rfl h⟩
  · simp at hcs
    obtain ⟨rfl, rfl, rfl⟩ := hcs
    have hlm : len ≤ m := by rw [hmm]; split <;> omega
    have each : ∀ i, i < len → ∃ k : Key, w.cell? (ad.add (i * 2)) = some (.int .i64 k.1) ∧ w.cell? (ad.add (i * 2 + 1)) = some (.int .i64 k.2) := by
      intro i hi
      obtain ⟨h0, h1, t0, t1⟩ := hx i (by omega)
      obtain ⟨x0, e0, _, _⟩ := DataW.trod_int Try.underlying3 t0
      obtain ⟨x1, e1, _, _⟩ := DataW.trod_int Try.underlying3 t1
      exact ⟨(x0, x1), by rw [h0]; simpa using e0, by rw [h1]; simpa using e1⟩
    obtain ⟨f, hf⟩ := Deep.choose_lt each
    refine ⟨(List.range len).map f, by simp, by simpa using hl, hm, fun hne => ?_⟩
    have hpos : 0 < len := by
      rcases Nat.eq_zero_or_pos len with h | h
      · subst h; simp at hne
      · exact h
    obtain ⟨b, off, spot⟩ := ad
    have c0 := (hf 0 hpos).1
    have hspot : spot = none := by simpa [Addr.add] using World.cell?_spot c0
    subst hspot
    refine ⟨b, off, rfl, ?_, fun i hi => ?_⟩
    · have := World.block_lt_of_cell? w _ c0
      simpa [Addr.add] using this
    · have hi' : i < len := by simpa using hi
      obtain ⟨c1, c2⟩ := hf i hi'
      rw [Addr.add_lit] at c1 c2
      have e : ((List.range len).map f)[i] = f i := by simp
      rw [e]
      exact ⟨c1, by rw [← Nat.add_assoc] at c2; exact c2⟩

/-- The statement's list of those taken and the queue: the same keys. -/
structure OnceRel (B : Nat) (w0 : World) (Q M : Nat) (v vin : Value) (ks : List Key) (w : World) : Prop where
  q : QAt B w Q M v ks
  row : w.ownsRow B 30 2 vin ks.length (cs ks)
  below : Below B w0 w

theorem row_apart {B n : Nat} {w : World} {Q M : Nat} {v vin : Value} {ks : List Key} {xs : List Value} (h : QAt B w Q M v ks) (hr : w.ownsRow B 30 2 vin n xs) : ∀ b ∈ qfp Q M v, vin.ownBlock ≠ some b := by
  intro b hb e
  rcases hr.2 with ⟨rfl, _⟩ | ⟨g, cap, cur, rfl, _, hg, _⟩
  · cases e
  · obtain rfl : g = b := by simpa [Value.ownBlock] using e
    simp only [qfp, List.mem_cons, Option.mem_toList] at hb
    rcases hb with hb | hb | hb
    · have := h.q; rw [← hb, hg] at this; simp at this
    · obtain ⟨es, c, hm, _⟩ := h.map; rw [← hb, hg] at hm; simp at hm
    · rcases h.row.2 with ⟨rfl, _⟩ | ⟨g', cap', cur', rfl, _, hg', _⟩
      · cases hb
      · obtain rfl : g' = g := by simpa [Value.ownBlock] using hb
        rw [hg] at hg'; simp at hg'

theorem row_keep {B n : Nat} {w w' : World} {v : Value} {xs : List Value} {e : TypeId} (h : w.ownsRow B e 2 v n xs) (hb : ∀ b, v.ownBlock = some b → w'.heap[b]? = w.heap[b]?) : w'.ownsRow B e 2 v n xs := by
  refine ⟨h.1, ?_⟩
  rcases h.2 with hn | ⟨g, cap, cur, rfl, hg, hh, r⟩
  · exact .inl hn
  · exact .inr ⟨g, cap, cur, rfl, hg, (hb g rfl).trans hh, r⟩

def OnceLoop (w0 : World) (n Q M : Nat) (vin i : Value) (w : World) : Prop :=
  ∃ (v : Value) (ks : List Key) (j : Nat), i = .int .i64 j ∧ j ≤ n ∧ ks.length ≤ j ∧ OnceRel w0.heap.size w0 Q M v vin ks w

/-- Behind Put. -/
theorem once_put {B : Nat} {w0 w w' : World} {Q M : Nat} {v vin : Value} {ks : List Key} {k : Key} {e : Ending} (h : OnceRel B w0 Q M v vin ks w) (hB : B ≤ w.heap.size) (hp : PutEnd B w Q M v ks k e w') :
    ∃ (b : Bool) (v' : Value), e = .returned (.bool b) ∧ b = decide (k ∉ ks ∧ ks.length < 64) ∧ QAt B w' Q M v' (if b then ks ++ [k] else ks) ∧ w'.ownsRow B 30 2 vin ks.length (cs ks) ∧ Below B w0 w' := by
  obtain ⟨v', rfl, hq, ho, _⟩ := hp
  refine ⟨_, v', rfl, rfl, ?_, row_keep h.row (fun b hb => ho.block b (h.row.lt b hb).2 (fun hm => row_apart h.q h.row b hm hb)), h.below.trans (ho.below (fun x hx => (h.q.lt x hx).1) hB)⟩
  by_cases hc : k ∉ ks ∧ ks.length < 64
  · rw [if_pos hc] at hq; simpa [hc] using hq
  · rw [if_neg hc] at hq
    rw [decide_eq_false hc]; exact hq

/-- Behind the append. -/
theorem once_app {B : Nat} {w0 w w' : World} {Q M : Nat} {v vin v' : Value} {ks : List Key} {k : Key} {o : Obj} (hq : QAt B w Q M v (ks ++ [k])) (hr : w.ownsRow B 30 2 vin ks.length (cs ks)) (hb : Below B w0 w) (hB : B ≤ w.heap.size)
    (hown : w'.ownsRow B 30 2 v' (ks.length + 1) (cs ks ++ [.int .i64 k.1, .int .i64 k.2])) (hgrow : (w.alloc o).grownBy w' vin.ownBlock) : OnceRel B w0 Q M v v' (ks ++ [k]) w' := by
  have g := grown_alloc (W := w) hgrow
  refine ⟨hq.keep (fun b hb2 => g.block b (hq.lt b hb2).2 (fun e => row_apart hq hr b hb2 e.symm)), ?_, hb.grown g hB (fun k hk => (hr.lt k hk).1)⟩
  have e : cs (ks ++ [k]) = cs ks ++ [.int .i64 k.1, .int .i64 k.2] := by simp [cs, kc]
  rw [e]
  simpa using hown

/-- The second loop: the first i have been popped. -/
structure PopRel (B : Nat) (w0 : World) (Q M : Nat) (vin : Value) (ks : List Key) (i : Nat) (w : World) : Prop where
  q : ∃ v, QAt B w Q M v (ks.drop i)
  row : w.ownsRow B 30 2 vin ks.length (cs ks)
  below : Below B w0 w

theorem PopRel.keep {B : Nat} {w0 w w' : World} {Q M : Nat} {vin : Value} {ks : List Key} {i : Nat} (h : PopRel B w0 Q M vin ks i w) (hB : B ≤ w.heap.size) (hb : Below w.heap.size w w') : PopRel B w0 Q M vin ks i w' := by
  obtain ⟨v, hq⟩ := h.q
  exact ⟨⟨v, hq.below hb⟩, row_keep h.row (fun b hb2 => hb.block b (h.row.lt b hb2).2), h.below.trans (hb.mono hB)⟩

theorem PopRel.pop {B : Nat} {w0 w w' : World} {Q M : Nat} {v vin : Value} {ks : List Key} {i : Nat} {e : Ending} (h : PopRel B w0 Q M vin ks i w) (hq : QAt B w Q M v (ks.drop i)) (hB : B ≤ w.heap.size) (hp : PopEnd B w Q M v (ks.drop i) e w') :
    e = .returned (.tuple #[.agg #[.int .i64 ((ks.drop i).headD (0, 0)).1, .int .i64 ((ks.drop i).headD (0, 0)).2], .bool (!(ks.drop i).isEmpty)]) ∧ PopRel B w0 Q M vin ks (i + 1) w' := by
  obtain ⟨v', rfl, hq', ho, _⟩ := hp
  refine ⟨rfl, ⟨⟨v', by simpa using hq'⟩, row_keep h.row (fun b hb => ho.block b (h.row.lt b hb).2 (fun hm => row_apart hq h.row b hm hb)), h.below.trans (ho.below (fun x hx => (hq.lt x hx).1) hB)⟩⟩

def PopLoop (w0 : World) (Q M : Nat) (vin : Value) (ks : List Key) (i : Value) (w : World) : Prop := ∃ j : Nat, i = .int .i64 j ∧ j ≤ ks.length ∧ PopRel w0.heap.size w0 Q M vin ks j w

def InLoop (w0 : World) (i : Nat) (k : Value) (w : World) : Prop := ∃ j n : Nat, k = .int .i64 j ∧ j ≤ i ∧ w = w0.drewN n

theorem row_cells {w : World} {B g cap : Nat} {ks : List Key} (h : w.ownsRow B 30 2 (.slice (some ⟨g, 0, none⟩) ks.length cap) ks.length (cs ks)) (i : Nat) (hi : i < ks.length) :
    w.cell? ⟨g, i * 2, none⟩ = some (.int .i64 ks[i].1) ∧ w.cell? ⟨g, i * 2 + 1, none⟩ = some (.int .i64 ks[i].2) := by
  obtain ⟨g1, g2⟩ := cs_get ks i hi
  exact ⟨by rw [h.cellAt (i * 2) (by omega), g1], by rw [h.cellAt (i * 2 + 1) (by omega), g2]⟩

set_option maxHeartbeats 4000000 in
theorem walk (a0 : Option Addr) (l : List Key) (cap0 : Nat) (w : World) (hc : l.length ≤ cap0) (hm : cap0 ≤ maxLen) (hr : RdAt w a0 l) :
    Calls Try.prog 3 #[.slice a0 l.length cap0] w fun e w' => e = .returned (.bool true) ∧ Below w.heap.size w w' := by
  obtain ⟨i0, hi, hz0, hz1, hz2⟩ := info_parts Key30.info
  have L := Lib.hid (fun v : World => live_any v)
  have HR := Lib.hid hr
  clear hr
  unfold maxLen at hm
  by_cases hlen : 100 < l.length
  · have hlen' : (100 : Int) < l.length := by omega
    go_enter Try.func3, Try.ntmps3
    go_wp2_with (go_at_call 6; refine (L.out _).mono ?_; rintro e w' ⟨rfl, hb2⟩)
    go_ret
    exact ⟨rfl, by assumption⟩
  have hl1 : (l.length : Int) ≤ 100 := by omega
  have N := Lib.hid (new_any w)
  go_enter Try.func3, Try.ntmps3
  go_wp2_with fail
  refine N.out.mono ?_
  rintro e w1 ⟨Q, M, v, rfl, hq, hb, hv⟩
  have R0 : Hid (OnceRel w.heap.size w Q M v (.slice (some ⟨w1.heap.size, 0, none⟩) 0 0) [] (w1.alloc (.cells #[] 30))) := Lib.hid ⟨hq.alloc _, own_empty _ _ _ (newest _ _) hb.size, hb.alloc hb.size _⟩
  clear hq hb hv N
  go_wp2_with fail
  go_loopw [4, 5] (fun vin i wr => OnceLoop w l.length Q M vin i wr) (fun _ i _ => l.length - (intOf i).toNat)
  case atStart => exact ⟨v, [], 0, rfl, Nat.zero_le _, Nat.zero_le _, R0.out⟩
  case round =>
    clear R0
    obtain ⟨v, ks, j, rfl, hj, hk, hr⟩ := hrel
    have hBs := hr.below.size
    by_cases hlt : j < l.length
    · obtain ⟨b, off, rfl, hbl, hcl⟩ := HR.out (by intro e; rw [e] at hlt; simp at hlt)
      obtain ⟨c0, c1⟩ := hcl j hlt
      have c0' := (hr.below.cell (p := ⟨b, off + j * 2, none⟩) hbl).trans c0
      have c1' := (hr.below.cell (p := ⟨b, off + j * 2 + 1, none⟩) hbl).trans c1
      have C0 := Lib.hid c0
      have C1 := Lib.hid c1
      clear c0 c1 hcl
      generalize l[j] = q at *
      have HH := Lib.hid hr
      obtain ⟨av, cv, rfl, hcv, _⟩ := own_shape' hr.row
      clear hr
      go_wp2_with fail
      refine (key_any _ _ _).mono ?_
      rintro e w2 ⟨rfl, hb2⟩
      have H2 := Lib.hid (show OnceRel w.heap.size w Q M v _ ks w2 from ⟨HH.out.q.below hb2, row_keep HH.out.row (fun b hb => hb2.block b (HH.out.row.lt b hb).2), HH.out.below.trans (hb2.mono hBs)⟩)
      have hB2 : w.heap.size ≤ w2.heap.size := H2.out.below.size
      clear hb2
      have P := Lib.hid (put_any H2.out.q q.1 q.2)
      go_wp2_with fail
      refine P.out.mono ?_
      intro e w3 hp
      obtain ⟨bb, v3, rfl, hbb, hq3, hr3, hb3⟩ := once_put H2.out hB2 hp
      have BB := Lib.hid hbb
      have Q3 := Lib.hid hq3
      have R3 := Lib.hid hr3
      have B3 := Lib.hid hb3
      have hB3 : w.heap.size ≤ w3.heap.size := hb3.size
      have d0 : w3.cell? ⟨b, off + j * 2, none⟩ = some (.int .i64 q.1) := (hb3.cell (p := ⟨b, off + j * 2, none⟩) hbl).trans C0.out
      have d1 : w3.cell? ⟨b, off + j * 2 + 1, none⟩ = some (.int .i64 q.2) := (hb3.cell (p := ⟨b, off + j * 2 + 1, none⟩) hbl).trans C1.out
      clear hp hbb hq3 hr3 hb3 P c0' c1'
      cases bb
      · go_wp2
        go_roundw
        case rel => exact ⟨v3, ks, j + 1, by go_num, by omega, by omega, Q3.out, R3.out, B3.out⟩
        case measure => simp [intOf]; omega
      · go_wp2_with (at_builtin; refine wpList_append_lies _ rfl (.tmp 31) (.tmp 36) 22 rfl w.heap.size 30 i0 (.agg #[.int .i64 0, .int .i64 0]) 2 16 Try.underlying22 hi hz0 hz1 hz2 rfl (by decide) (.slice av ks.length cv) ks.length (cs ks) rfl (R3.out.alloc _) ⟨w3.heap.size, 0, none⟩ 1 1 [.int .i64 q.1, .int .i64 q.2] rfl rfl (fun j u hj => news30 w3 q.1 q.2 j u hj) (one30 q.1 q.2) (by decide) (by unfold maxLen; omega) (by omega) (by simp; omega) (w3.heap.size + 1) (by simp) ?_; intro g cap' w4 hown hgrow hat hlt2; have R := Lib.hid (once_app (k := (q.1, q.2)) Q3.out R3.out B3.out hB3 hown hgrow); clear hown hgrow hat hlt2)
        go_wp2
        go_roundw
        case rel => exact ⟨v3, ks ++ [(q.1, q.2)], j + 1, by go_num, by omega, by simp; omega, R.out⟩
        case measure => simp [intOf]; omega
    · have hk64 := hr.q.len
      have HH := Lib.hid hr
      obtain ⟨av, cv, rfl, hcv, _⟩ := own_shape' hr.row
      clear hr
      have PR := Lib.hid (show PopRel w.heap.size w Q M (.slice av ks.length cv) ks 0 wr from ⟨⟨v, HH.out.q⟩, HH.out.row, HH.out.below⟩)
      have ND := Lib.hid HH.out.q.nodup
      clear HH
      go_wp2_with fail
      go_loopw [6] (fun i wr => PopLoop w Q M (.slice av ks.length cv) ks i wr) (fun i _ => ks.length - (intOf i).toNat)
      case atStart => exact ⟨0, rfl, Nat.zero_le _, PR.out⟩
      case round =>
        clear PR
        obtain ⟨i, rfl, hi', hr⟩ := hrel
        have hBs := hr.below.size
        by_cases hlt : i < ks.length
        · obtain ⟨g, cap', e1, _⟩ := hr.row.form (by omega)
          cases e1
          obtain ⟨c0, c1⟩ := row_cells hr.row i hlt
          have CC := Lib.hid (fun k (hk : k < ks.length) => row_cells hr.row k hk)
          have HI := Lib.hid (show ks[i]? = some ks[i] by simp [hlt])
          have HD := Lib.hid (show ks.drop i = ks[i] :: ks.drop (i + 1) from List.drop_eq_getElem_cons hlt)
          have NE : Hid (∀ k (hk : k < i), ¬ ks[i] = ks[k]'(by omega)) := Lib.hid (fun k hk e => by have := nodup_inj ND.out hlt (by omega) e; omega)
          have HR2 := Lib.hid hr
          clear hr
          generalize ks[i] = q at *
          obtain ⟨wo, rfl⟩ : ∃ wo : World, wo = wr := ⟨_, rfl⟩
          go_wp2_with fail
          go_loopw [7] (fun k wr => InLoop wo i k wr) (fun k _ => i - (intOf k).toNat)
          case atStart => exact ⟨0, 0, rfl, Nat.zero_le _, rfl⟩
          case round =>
            obtain ⟨k, n, rfl, hk', rfl⟩ := hrel
            by_cases hki : k < i
            · obtain ⟨y0, y1⟩ := CC.out k (by omega)
              have NEk := Lib.hid (NE.out k hki)
              have j0 : (0 : Int) ≤ k := by omega
              have j1 : (k : Int) < ks.length := by omega
              have j2 : (0 : Int) ≤ i := by omega
              have j3 : (i : Int) < ks.length := by omega
              generalize ks[k]'(by omega) = y at *
              by_cases h1 : q.1 = y.1
              · have h2 : ¬ q.2 = y.2 := fun h => NEk.out (Prod.ext h1 h)
                have b1 : (q.1 == y.1) = true := by simpa using h1
                have b2 : (q.2 == y.2) = false := by simpa using h2
                go_wp2_with fail
                go_quiet (fail)
                go_wp2
                go_roundw
                case rel => exact ⟨k + 1, n + nq, by go_num, by omega, by first | rfl | exact World.drewN_drewN _ _ _⟩
                case measure => simp [intOf]; omega
              · have b1 : (q.1 == y.1) = false := by simpa using h1
                go_wp2_with fail
                go_quiet (fail)
                go_wp2
                go_roundw
                case rel => exact ⟨k + 1, n + nq, by go_num, by omega, by first | rfl | exact World.drewN_drewN _ _ _⟩
                case measure => simp [intOf]; omega
            · have PR := Lib.hid (show PopRel w.heap.size w Q M (.slice (some ⟨g, 0, none⟩) ks.length cv) ks i (wo.drewN n) from HR2.out.keep hBs (below_drewN (Below.refl _ _) _))
              obtain ⟨v', hq⟩ := PR.out.q
              have QQ := Lib.hid hq
              have P := Lib.hid (pop_any hq)
              have hsz : w.heap.size ≤ (wo.drewN n).heap.size := hBs
              clear hq HR2 c0 c1 CC NE
              generalize wo.drewN n = wo2 at *
              go_wp2_with fail
              refine P.out.mono ?_
              intro e w2 hp
              obtain ⟨rfl, hpr⟩ := PR.out.pop QQ.out hsz hp
              rw [HD.out]
              have PR2 := Lib.hid hpr
              clear hp hpr P
              have hdr : (q :: List.drop (i + 1) ks).headD (0, 0) = q := rfl
              obtain ⟨X, hX⟩ : ∃ X, w2.alloc (.cells #[.int .i64 q.1, .int .i64 q.2] 28) = X := ⟨_, rfl⟩
              have PX := Lib.hid (show PopRel w.heap.size w Q M (.slice (some ⟨g, 0, none⟩) ks.length cv) ks (i + 1) X from hX ▸ PR2.out.keep PR2.out.below.size ((Below.refl _ _).alloc (Nat.le_refl _) _))
              have bx : X.heap[w2.heap.size]? = some (.cells #[.int .i64 q.1, .int .i64 q.2] 28 (0, 0)) := hX ▸ newest _ _
              have x0 : X.cell? ⟨w2.heap.size, 0, none⟩ = some (.int .i64 q.1) := by simp [World.cell?, bx]
              have x1 : X.cell? ⟨w2.heap.size, 1, none⟩ = some (.int .i64 q.2) := by simp [World.cell?, bx]
              have eq : ks[i] = q := by have := HI.out; rw [List.getElem?_eq_getElem hlt] at this; exact Option.some.inj this
              obtain ⟨y0, y1⟩ := row_cells PX.out.row i hlt
              rw [eq] at y0 y1
              have BXX := Lib.hid bx
              have hXs : w.heap.size ≤ X.heap.size := PX.out.below.size
              have j2 : (0 : Int) ≤ i := by omega
              have j3 : (i : Int) < ks.length := by omega
              clear bx eq PR2
              go_wp2_with fail
              go_region_with (go_at_call 9; refine (key_any _ _ _).mono ?_; rintro e w5 ⟨rfl, hb5⟩; have z0 : w5.cell? ⟨w2.heap.size, 0, none⟩ = some (.int .i64 q.1) := ((hb5.cell (p := ⟨w2.heap.size, 0, none⟩) (lt_of_block BXX.out)).trans x0); have z1 : w5.cell? ⟨w2.heap.size, 1, none⟩ = some (.int .i64 q.2) := ((hb5.cell (p := ⟨w2.heap.size, 1, none⟩) (lt_of_block BXX.out)).trans x1); have HB5 := Lib.hid hb5; clear hb5)
              all_goals
                go_wp2
                go_roundw
                case rel => exact ⟨i + 1, by go_num, by omega, PX.out.keep hXs ⟨HB5.out.os, HB5.out.tape, HB5.out.output, HB5.out.size, HB5.out.block⟩⟩
                case measure => simp [intOf]; omega
        · obtain rfl : i = ks.length := by omega
          have HR2 := Lib.hid hr
          have hq0 := hr.q
          rw [List.drop_length] at hq0
          obtain ⟨v', hq⟩ := hq0
          have P := Lib.hid (pop_any hq)
          have hq' : QAt w.heap.size wr Q M v' (ks.drop ks.length) := by rw [List.drop_length]; exact hq
          have QQ := Lib.hid hq'
          clear hr hq hq'
          go_wp2_with fail
          refine P.out.mono ?_
          intro e w2 hp
          have hp' : PopEnd w.heap.size wr Q M v' (ks.drop ks.length) e w2 := by rw [List.drop_length]; exact hp
          obtain ⟨he, hpr⟩ := HR2.out.pop QQ.out hBs hp'
          rw [List.drop_length] at he
          subst he
          have PR2 := Lib.hid hpr.below
          clear hp hp' hpr P
          have hk64' : (ks.length : Int) ≤ 64 := by omega
          go_wp2_with (go_at_call 6; refine (L.out _).mono ?_; rintro e w' ⟨rfl, hb2⟩)
          go_ret
          exact ⟨rfl, (PR2.out.alloc PR2.out.size _).trans (Below.mono (by assumption) (by have := PR2.out.size; simp; omega))⟩

set_option maxRecDepth 100000 in
theorem lifted (os : Os) (started : os.Started) (H : Type) (enc : TypeId × Value → H) :
    ReturnsInHanded {} Try.checked os 3 .any (Rows.waitOnceSpec.pre6 enc Try.prog Try.f3 Rows.waitOnceRow.domain false) (Rows.waitOnceSpec.post enc Try.prog Try.f3 false true false false) := by
  refine returnsInHanded_of_change (C := Try.checked) own started (by kernel_rfl) Try.func3
    (ChangeSpec.witness6 (enc := enc) (C := Try.checked) false ⟨#[], #[.slice none 0 0], []⟩ 8 (by kernel_rfl) (by kernel_rfl) (by kernel_rfl) (by kernel_rfl)) ?_
  intro W base args ds gs before hval0 hW hcnd _
  have hval : ∀ (j : Nat) t v, Try.f3.params[j]? = some t → args[j]? = some v → Value.okWide Try.prog W .any base t v := hval0
  have hW' := hW
  obtain ⟨p, q, hA0, hV, rfl, hfz, hnd⟩ := hW
  have hA : DataW.TrodAll enc Try.prog W 0 (fun _ => true) true Try.f3.params.toList args.toList ds p := hA0
  rw [Try.params3] at hA hval
  obtain ⟨v0, vs0, d0, ds0, p0, q0, hargs, rfl, rfl, h0, r0⟩ := trodAll_cons hA
  obtain ⟨rfl, rfl, rfl⟩ := trodAll_nil r0
  obtain rfl : args = #[v0] := by cases args; simp_all
  obtain ⟨rfl, rfl⟩ := trodVars_none hV
  obtain ⟨a0, len0, cap0, rfl⟩ := okWide_slice Try.underlying22 (hval 0 22 v0 rfl rfl)
  have k0 := h0
  have lt0 : ∀ x ∈ p0, x.block < W.heap.size := by obtain ⟨m, hm⟩ := k0; exact DataW.trod_lt m _ _ _ hm
  obtain ⟨ks, rfl, hc0, hm0, hr0⟩ : ∃ ks : List Key, len0 = ks.length ∧ ks.length ≤ cap0 ∧ cap0 ≤ maxLen ∧ RdAt W a0 ks := by
    obtain ⟨fuel, hf⟩ := h0
    exact open_keys hf
  clear hA0 hval0
  refine (walk a0 ks cap0 W hc0 hm0 hr0).mono fun e W' ⟨he, bel⟩ => ?_
  subst he
  exact ⟨_, rfl, _, _, _, [], _, [], hW', trodAll_mk1 (shut_bool Try.underlying4 _), (trodAll_cons_mk (Below.trod laidOut (by kernel_rfl) (of_decide_eq_true (by kernel_rfl)) k0 bel lt0) trodAll_mk0), rfl, bel.frame _, fun h => by cases h⟩

theorem over : Rows.waitOnceRow.holds Try.pinned (OpenSpec.ofChange Rows.waitOnceSpec) :=
  OpenClaim.holds_of_wide 3 Try.f3 rfl rfl rfl rfl rfl rfl rfl ⟨rfl, rfl, rfl, rfl, rfl⟩ rfl rfl rfl rfl rfl (by kernel_rfl) Try.func3 (by kernel_rfl)
    (of_decide_eq_true (by kernel_rfl)) (by unfold Func.isWrapper; first | (rw [if_pos (by decide +kernel)]; kernel_rfl) | (rw [if_neg (by decide +kernel)]; exact ⟨rfl, rfl⟩))
    (fun os started H enc _ => lifted os started H enc)

/-- THE STATEMENT. -/
theorem proved : Rows.WaitOnceSaid := over
#print axioms proved
end Go.Proofs.Ytpanakfbbdeihaa.waitOnce
