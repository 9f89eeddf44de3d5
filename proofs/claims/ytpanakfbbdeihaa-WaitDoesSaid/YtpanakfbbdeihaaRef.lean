/-
  PROVED: contracts of the reference's 'Split', 'Put', 'Same' and of the statements' 'key' and 'told'. Conditions: each theorem's own premises.
-/
import Derived.Test.YtpanakfbbdeihaaOps2
namespace Go.Proofs.Ytpanakfbbdeihaa
open Go.RowKit
set_option linter.unusedVariables false

/-- The keys ks can be read from a on. -/
def RdAt (w : World) (a : Option Addr) (ks : List Key) : Prop :=
  ks ≠ [] → ∃ b off, a = some ⟨b, off, none⟩ ∧ b < w.heap.size ∧ ∀ i (h : i < ks.length), w.cell? ⟨b, off + i * 2, none⟩ = some (.int .i64 ks[i].1) ∧ w.cell? ⟨b, off + i * 2 + 1, none⟩ = some (.int .i64 ks[i].2)

theorem RdAt.below {w w' : World} {a : Option Addr} {ks : List Key} (h : RdAt w a ks) {B : Nat} (hb : Below B w w') (hB : ∀ x, a = some x → ks ≠ [] → x.block < B) : RdAt w' a ks := by
  intro hne
  obtain ⟨b, off, rfl, hlt, hc⟩ := h hne
  have hbB := hB _ rfl hne
  exact ⟨b, off, rfl, Nat.lt_of_lt_of_le hlt hb.size, fun i hi => ⟨(hb.cell (p := ⟨b, off + i * 2, none⟩) hbB).trans (hc i hi).1, (hb.cell (p := ⟨b, off + i * 2 + 1, none⟩) hbB).trans (hc i hi).2⟩⟩

theorem Key30.info : (Try.prog.info? 30).map (fun i => (i.zero, i.size, i.bytes)) = some (some (.agg #[.int .i64 0, .int .i64 0]), 2, 16) := by kernel_rfl

theorem news30 (W : World) (a b : Int) (j : Nat) (u : Value) (hj : [Value.int .i64 a, Value.int .i64 b][j]? = some u) :
    (W.alloc (.cells #[.int .i64 a, .int .i64 b] 30)).cell? ((⟨W.heap.size, 0, none⟩ : Addr).add j) = some u := by
  match j, hj with
  | 0, hj => simp at hj; subst hj; simp [Addr.add]
  | 1, hj => simp at hj; subst hj; simp [Addr.add]

theorem own_shape' {w : World} {B n : Nat} {v : Value} {xs : List Value} {e : TypeId} (h : w.ownsRow B e 2 v n xs) : ∃ a cap, v = .slice a n cap ∧ n ≤ cap ∧ cap ≤ maxLen := by
  rcases h.2 with ⟨rfl, rfl⟩ | ⟨g, cap, cur, rfl, _, _, hc, hm, _⟩
  · exact ⟨none, 0, rfl, Nat.le_refl _, by unfold maxLen; omega⟩
  · exact ⟨_, cap, rfl, hc, hm⟩

theorem own_empty (w : World) (B : Nat) (g : Nat) (h : w.heap[g]? = some (.cells #[] 30 (0, 0))) (hg : B ≤ g) : w.ownsRow B 30 2 (.slice (some ⟨g, 0, none⟩) 0 0) 0 [] :=
  ⟨by simp, .inr ⟨g, 0, #[], rfl, hg, h, Nat.le_refl _, by unfold maxLen; omega, by simp, by simp⟩⟩

theorem one30 (a b : Int) : ∀ u ∈ [Value.int .i64 a, Value.int .i64 b], u.oneCell' = true := one2 a b

structure SplRel (w0 : World) (l : List Key) (p : Key → Bool) (m : Int) (va vb : Value) (j : Nat) (w : World) : Prop where
  ra : w.ownsRow w0.heap.size 30 2 va (tk l p m j).length (cs (tk l p m j))
  rb : w.ownsRow w0.heap.size 30 2 vb (kp l (dl l p m) j).length (cs (kp l (dl l p m) j))
  ne : va.ownBlock ≠ vb.ownBlock ∧ va.ownBlock ≠ none ∧ vb.ownBlock ≠ none
  below : Below w0.heap.size w0 w

theorem SplRel.start (w : World) (l : List Key) (p : Key → Bool) (m : Int) : SplRel w l p m (.slice (some ⟨w.heap.size, 0, none⟩) 0 0) (.slice (some ⟨w.heap.size + 1, 0, none⟩) 0 0) 0 ((w.alloc (.cells #[] 30)).alloc (.cells #[] 30)) :=
  ⟨own_empty _ _ _ ((Below.heap_alloc _ _ _ (by simp)).trans (newest _ _)) (Nat.le_refl _), own_empty _ _ _ (by simpa using newest (w.alloc (.cells #[] 30)) (.cells #[] 30)) (by omega), by simp [Value.ownBlock], ((Below.refl _ w).alloc (Nat.le_refl _) _).alloc (by simp) _⟩

theorem grown_alloc {w W w' : World} {r : Option Nat} {o : Obj} (h : (w.alloc o).grownBy w' r) : w.grownBy w' r :=
  ⟨h.os, h.tape, h.output, by have := h.size; simp at this; omega, fun k hk hr => (h.block k (by simp; omega) hr).trans (Below.heap_alloc _ _ _ hk)⟩

theorem SplRel.takes {w0 w w' : World} {l : List Key} {p : Key → Bool} {m : Int} {va vb v' : Value} {j : Nat} {o : Obj} (h : SplRel w0 l p m va vb j w) (hj : j < l.length) (hd : dl l p m j = true)
    (hown : w'.ownsRow w0.heap.size 30 2 v' ((tk l p m j).length + 1) (cs (tk l p m j) ++ kc l[j])) (hgrow : (w.alloc o).grownBy w' va.ownBlock) (hat : va.ownBlock = v'.ownBlock ∨ v'.ownBlock = some (w.heap.size + 1)) : SplRel w0 l p m v' vb (j + 1) w' := by
  have e : tk l p m (j + 1) = tk l p m j ++ [l[j]] := by rw [tk_succ l p m j hj, hd]; simp
  have e2 : kp l (dl l p m) (j + 1) = kp l (dl l p m) j := by simp [kp, hd]
  have hc : cs [l[j]] = kc l[j] := by simp [cs]
  have g := grown_alloc (W := w) hgrow
  obtain ⟨n1, n2, n3⟩ := h.ne
  refine ⟨?_, ?_, ⟨?_, ?_, n3⟩, h.below.grown g h.below.size (fun k hk => (h.ra.lt k hk).1)⟩
  · rw [e, cs_append, hc]; simpa using hown
  · rw [e2]; exact h.rb.kept g (.inr (Ne.symm n1))
  · rcases hat with h1 | h1
    · rw [← h1]; exact n1
    · rw [h1]
      intro e3
      have := (h.rb.lt _ e3.symm).2
      omega
  · rcases hat with h1 | h1
    · rw [← h1]; exact n2
    · rw [h1]; simp

theorem SplRel.leaves {w0 w w' : World} {l : List Key} {p : Key → Bool} {m : Int} {va vb v' : Value} {j : Nat} {o : Obj} (h : SplRel w0 l p m va vb j w) (hj : j < l.length) (hd : dl l p m j = false)
    (hown : w'.ownsRow w0.heap.size 30 2 v' ((kp l (dl l p m) j).length + 1) (cs (kp l (dl l p m) j) ++ kc l[j])) (hgrow : (w.alloc o).grownBy w' vb.ownBlock) (hat : vb.ownBlock = v'.ownBlock ∨ v'.ownBlock = some (w.heap.size + 1)) : SplRel w0 l p m va v' (j + 1) w' := by
  have e : tk l p m (j + 1) = tk l p m j := by rw [tk_succ l p m j hj, hd]; simp
  have e2 : kp l (dl l p m) (j + 1) = kp l (dl l p m) j ++ [l[j]] := by simp [kp, hd, hj]
  have hc : cs [l[j]] = kc l[j] := by simp [cs]
  have g := grown_alloc (W := w) hgrow
  obtain ⟨n1, n2, n3⟩ := h.ne
  refine ⟨?_, ?_, ⟨?_, n2, ?_⟩, h.below.grown g h.below.size (fun k hk => (h.rb.lt k hk).1)⟩
  · rw [e]; exact h.ra.kept g (.inr n1)
  · rw [e2, cs_append, hc]; simpa using hown
  · rcases hat with h1 | h1
    · rw [← h1]; exact n1
    · rw [h1]
      intro e3
      have := (h.ra.lt _ e3).2
      omega
  · rcases hat with h1 | h1
    · rw [← h1]; exact n3
    · rw [h1]; simp

def SplLoop (w0 : World) (l : List Key) (p : Key → Bool) (m : Int) (va vb i : Value) (w : World) : Prop :=
  ∃ j : Nat, i = .int .i64 j ∧ j ≤ l.length ∧ SplRel w0 l p m va vb j w

def SplEnd (w0 : World) (l : List Key) (p : Key → Bool) (m : Int) (e : Ending) (w : World) : Prop :=
  ∃ va vb, e = .returned (.tuple #[va, vb]) ∧ SplRel w0 l p m va vb l.length w

set_option maxHeartbeats 1000000 in
theorem split_any {w : World} {a : Option Addr} {l : List Key} {cap : Nat} (hr : RdAt w a l) (hc : l.length ≤ cap) (hl : l.length ≤ 200) (hm : cap ≤ maxLen) (o m : Int) :
    Calls Try.prog 12 #[.slice a l.length cap, .int .i64 o, .int .i64 m] w (SplEnd w l (ofo o) m) := by
  obtain ⟨i0, hi, hz0, hz1, hz2⟩ := info_parts Key30.info
  unfold maxLen at hm
  have HR := Lib.hid hr
  clear hr
  go_enter Try.func12, Try.ntmps12
  go_wp2
  go_loopw [8, 9, 10] (fun va vb i wr => SplLoop w l (ofo o) m va vb i wr) (fun _ _ i _ => l.length - (intOf i).toNat)
  case atStart => exact ⟨0, rfl, Nat.zero_le _, SplRel.start w l (ofo o) m⟩
  case round =>
    obtain ⟨j, rfl, hj, hr⟩ := hrel
    have hka : (tk l (ofo o) m j).length ≤ 200 := Nat.le_trans (tk_length _ _ _ _) (by omega)
    have hkb : (kp l (dl l (ofo o) m) j).length ≤ 200 := Nat.le_trans (kp_length _ _ _) (by omega)
    have hBs := hr.below.size
    by_cases hlt : j < l.length
    · obtain ⟨b, off, rfl, hbl, hcl⟩ := HR.out (by intro e; rw [e] at hlt; simp at hlt)
      obtain ⟨c0, c1⟩ := hcl j hlt
      have c0' := (hr.below.cell (p := ⟨b, off + j * 2, none⟩) hbl).trans c0
      have c1' := (hr.below.cell (p := ⟨b, off + j * 2 + 1, none⟩) hbl).trans c1
      have HA := Lib.hid hr.ra
      have HB := Lib.hid hr.rb
      obtain ⟨a1, cap1, rfl, _, _⟩ := own_shape' hr.ra
      obtain ⟨a2, cap2, rfl, _, _⟩ := own_shape' hr.rb
      have T := Lib.hid (fun v' w' (o' : Obj) => SplRel.takes (v' := v') (w' := w') (o := o') hr hlt)
      have F := Lib.hid (fun v' w' (o' : Obj) => SplRel.leaves (v' := v') (w' := w') (o := o') hr hlt)
      have hdl : dl l (ofo o) m j = (decide (((tk l (ofo o) m j).length : Int) < m) && (l[j].1 == o)) := by simp [dl, List.getElem?_eq_getElem hlt, ofo]
      clear c0 c1 hcl hr
      generalize hd : dl l (ofo o) m j = d at *
      have HD := Lib.hid hdl
      clear hdl hd
      generalize hta : tk l (ofo o) m j = ta at *
      generalize htb : kp l (dl l (ofo o) m) j = tb at *
      generalize l[j] = q at *
      clear hta htb
      by_cases h1 : q.1 = o
      · have b1 : (q.1 == o) = true := by simpa using h1
        have HQ := Lib.hid h1
        clear h1
        by_cases h2 : (ta.length : Int) < m
        · have dt : Hid (d = true) := Lib.hid (by rw [HD.out, b1]; simpa using h2)
          go_wp2_with (at_builtin; refine wpList_append_lies _ rfl (.tmp 32) (.tmp 37) 22 rfl w.heap.size 30 i0 (.agg #[.int .i64 0, .int .i64 0]) 2 16 Try.underlying22 hi hz0 hz1 hz2 rfl (by decide) (.slice a1 ta.length cap1) ta.length (cs ta) rfl (HA.out.alloc _) ⟨wr.heap.size, 0, none⟩ 1 1 [.int .i64 q.1, .int .i64 q.2] rfl rfl (fun j u hj => news30 wr q.1 q.2 j u hj) (one30 q.1 q.2) (by decide) (by unfold maxLen; omega) (by omega) (by simp; omega) (wr.heap.size + 1) (by simp) ?_; intro g cap' w2 hown hgrow hat hlt2; have R := Lib.hid (T.out _ w2 _ dt.out hown hgrow (by rcases hat with h | h; exact .inl h; exact .inr (by rw [h]; rfl))); clear hown hgrow hat hlt2)
          go_wp2
          go_roundw
          case rel => exact ⟨j + 1, by go_num, by omega, R.out⟩
          case measure => simp [intOf]; omega
        · have dt : Hid (d = false) := Lib.hid (by rw [HD.out, b1]; simpa using h2)
          go_wp2_with (at_builtin; refine wpList_append_lies _ rfl (.tmp 39) (.tmp 44) 22 rfl w.heap.size 30 i0 (.agg #[.int .i64 0, .int .i64 0]) 2 16 Try.underlying22 hi hz0 hz1 hz2 rfl (by decide) (.slice a2 tb.length cap2) tb.length (cs tb) rfl (HB.out.alloc _) ⟨wr.heap.size, 0, none⟩ 1 1 [.int .i64 q.1, .int .i64 q.2] rfl rfl (fun j u hj => news30 wr q.1 q.2 j u hj) (one30 q.1 q.2) (by decide) (by unfold maxLen; omega) (by omega) (by simp; omega) (wr.heap.size + 1) (by simp) ?_; intro g cap' w2 hown hgrow hat hlt2; have R := Lib.hid (F.out _ w2 _ dt.out hown hgrow (by rcases hat with h | h; exact .inl h; exact .inr (by rw [h]; rfl))); clear hown hgrow hat hlt2)
          go_wp2
          go_roundw
          case rel => exact ⟨j + 1, by go_num, by omega, R.out⟩
          case measure => simp [intOf]; omega
      · have b1 : (q.1 == o) = false := by simpa using h1
        have HQ := Lib.hid h1
        clear h1
        have dt : Hid (d = false) := Lib.hid (by rw [HD.out, b1]; simp)
        go_wp2_with (at_builtin; refine wpList_append_lies _ rfl (.tmp 39) (.tmp 44) 22 rfl w.heap.size 30 i0 (.agg #[.int .i64 0, .int .i64 0]) 2 16 Try.underlying22 hi hz0 hz1 hz2 rfl (by decide) (.slice a2 tb.length cap2) tb.length (cs tb) rfl (HB.out.alloc _) ⟨wr.heap.size, 0, none⟩ 1 1 [.int .i64 q.1, .int .i64 q.2] rfl rfl (fun j u hj => news30 wr q.1 q.2 j u hj) (one30 q.1 q.2) (by decide) (by unfold maxLen; omega) (by omega) (by simp; omega) (wr.heap.size + 1) (by simp) ?_; intro g cap' w2 hown hgrow hat hlt2; have R := Lib.hid (F.out _ w2 _ dt.out hown hgrow (by rcases hat with h | h; exact .inl h; exact .inr (by rw [h]; rfl))); clear hown hgrow hat hlt2)
        go_wp2
        go_roundw
        case rel => exact ⟨j + 1, by go_num, by omega, R.out⟩
        case measure => simp [intOf]; omega
    · obtain rfl : j = l.length := by omega
      have R := Lib.hid hr
      clear hr hka hkb
      go_wp2
      go_ret2
      exact ⟨_, _, rfl, R.out⟩

theorem key_any (a b : Int) (w : World) : Calls Try.prog 9 #[.agg #[.int .i64 a, .int .i64 b]] w fun e w' => e = .returned (.agg #[.int .i64 a, .int .i64 b]) ∧ Below w.heap.size w w' := by
  go_enter Try.func9, Try.ntmps9
  go_wp2
  refine bodyPost_ret (v := .agg #[.int .i64 a, .int .i64 b]) (by simp [results, Try.results9, go_sem]) rfl ⟨rfl, ?_⟩
  exact ((Below.refl _ w).alloc (Nat.le_refl _) _).alloc (by simp) _

def SameLoop (w0 : World) (ks ls : List Key) (i : Value) (w : World) : Prop := ∃ j : Nat, i = .int .i64 j ∧ j ≤ ks.length ∧ ks.take j = ls.take j ∧ ∃ n, w = w0.drewN n

def SameEnd (w0 : World) (ks ls : List Key) (e : Ending) (w : World) : Prop := e = .returned (.bool (decide (ks = ls))) ∧ ∃ n, w = w0.drewN n

theorem same_any {w : World} {a b : Option Addr} {ks ls : List Key} {ca cb : Nat} (ha : RdAt w a ks) (hb : RdAt w b ls) (hca : ks.length ≤ ca) (hcb : ls.length ≤ cb) (hl : ks.length ≤ 200) (hma : ca ≤ maxLen) (hmb : cb ≤ maxLen) :
    Calls Try.prog 14 #[.slice a ks.length ca, .slice b ls.length cb] w (SameEnd w ks ls) := by
  unfold maxLen at hma hmb
  have HA := Lib.hid ha
  have HB := Lib.hid hb
  clear ha hb
  by_cases hlen : ks.length = ls.length
  · have HL := Lib.hid hlen
    have hle : ls.length ≤ 200 := by omega
    have b0 : ((ks.length : Int) != ls.length) = false := by rw [hlen]; simp
    have l1 : (ks.length : Int) ≤ ls.length := by omega
    have l2 : (ls.length : Int) ≤ ks.length := by omega
    clear hlen
    go_enter Try.func14, Try.ntmps14
    go_wp2
    go_loopw [5] (fun i wr => SameLoop w ks ls i wr) (fun i _ => ks.length - (intOf i).toNat)
    case atStart => exact ⟨0, rfl, Nat.zero_le _, rfl, 0, rfl⟩
    case round =>
      obtain ⟨j, rfl, hj, ht, n, rfl⟩ := hrel
      have HT := Lib.hid ht
      clear ht
      by_cases hlt : j < ks.length
      · have hlt2 : j < ls.length := by omega
        obtain ⟨b1, o1, rfl, _, hc1⟩ := HA.out (by intro e; rw [e] at hlt; simp at hlt)
        obtain ⟨b2, o2, rfl, _, hc2⟩ := HB.out (by intro e; rw [e] at hlt2; simp at hlt2)
        obtain ⟨x0, x1⟩ := hc1 j hlt
        obtain ⟨y0, y1⟩ := hc2 j hlt2
        clear hc1 hc2
        have hkj := Lib.hid (show ks[j]? = some ks[j] by simp [hlt])
        have hlj := Lib.hid (show ls[j]? = some ls[j] by simp [hlt2])
        have i0 : (0 : Int) ≤ j := by omega
        have i1 : (j : Int) < ks.length := by omega
        have i2 : (j : Int) < ls.length := by omega
        generalize ks[j] = x at *
        generalize ls[j] = y at *
        by_cases hxy : x = y
        · subst hxy
          go_wp2_with fail
          go_quiet (fail)
          go_wp2
          go_roundw
          case rel => exact ⟨j + 1, by go_num, by omega, by rw [List.take_add_one, List.take_add_one, HT.out, hkj.out, hlj.out], _, rfl⟩
          case measure => simp [intOf]; omega
        · have hxy' : ¬ (x.1 = y.1 ∧ x.2 = y.2) := fun h => hxy (Prod.ext h.1 h.2)
          have HN : Hid (¬ ks = ls) := Lib.hid (fun e => by
            have h1 := hkj.out
            rw [e, hlj.out] at h1
            exact hxy (Option.some.inj h1).symm)
          clear hxy
          by_cases h1 : x.1 = y.1
          · have h2 : ¬ x.2 = y.2 := fun h => hxy' ⟨h1, h⟩
            have b1 : (x.1 == y.1) = true := by simpa using h1
            have b2 : (x.2 == y.2) = false := by simpa using h2
            clear hxy'
            go_wp2_with fail
            go_quiet (fail)
            go_wp2
            go_ret
            exact ⟨by simp [HN.out], _, World.drewN_drewN _ _ _⟩
          · have b1 : (x.1 == y.1) = false := by simpa using h1
            clear hxy'
            go_wp2_with fail
            go_quiet (fail)
            go_wp2
            go_ret
            exact ⟨by simp [HN.out], _, World.drewN_drewN _ _ _⟩
      · have HE : Hid (ks = ls) := Lib.hid (by
          obtain rfl : j = ks.length := by omega
          have h1 := HT.out
          rw [List.take_length] at h1
          rw [h1, HL.out, List.take_length])
        go_wp2
        go_ret
        exact ⟨by simp [HE.out], _, rfl⟩
  · have HN : Hid (¬ ks = ls) := Lib.hid (fun e => hlen (by rw [e]))
    have b0 : ((ks.length : Int) != ls.length) = true := by rw [bne_iff_ne]; omega
    clear hlen
    go_enter Try.func14, Try.ntmps14
    go_wp2
    go_ret
    exact ⟨by simp [HN.out], 0, rfl⟩

structure TellRel (w0 : World) (ks : List Key) (v : Value) (j : Nat) (w : World) : Prop where
  row : w.ownsRow w0.heap.size 30 2 v (ks.take j).length (cs (ks.take j))
  below : Below w0.heap.size w0 w

def TellLoop (w0 : World) (ks : List Key) (v i : Value) (w : World) : Prop := ∃ j : Nat, i = .int .i64 j ∧ j ≤ ks.length ∧ TellRel w0 ks v j w

def TellEnd (w0 : World) (ks : List Key) (e : Ending) (w : World) : Prop := ∃ v, e = .returned v ∧ TellRel w0 ks v ks.length w

theorem TellRel.next {w0 w w' : World} {ks : List Key} {v v' : Value} {j : Nat} {o : Obj} (h : TellRel w0 ks v j w) (hj : j < ks.length)
    (hown : w'.ownsRow w0.heap.size 30 2 v' ((ks.take j).length + 1) (cs (ks.take j) ++ kc ks[j])) (hgrow : (w.alloc o).drew.grownBy w' v.ownBlock) : TellRel w0 ks v' (j + 1) w' := by
  have e : ks.take (j + 1) = ks.take j ++ [ks[j]] := by rw [List.take_add_one]; simp [hj]
  have hc : cs [ks[j]] = kc ks[j] := by simp [cs]
  have g := grown_alloc (W := w) (w := w) (o := o) (w' := w') (r := v.ownBlock) ⟨hgrow.os, hgrow.tape, hgrow.output, hgrow.size, hgrow.block⟩
  refine ⟨?_, h.below.grown g h.below.size (fun k hk => (h.row.lt k hk).1)⟩
  rw [e, cs_append, hc, List.length_append, List.length_singleton]
  exact hown

set_option maxHeartbeats 1000000 in
theorem told_any {w : World} {a : Option Addr} {ks : List Key} {cap : Nat} (hr : RdAt w a ks) (hc : ks.length ≤ cap) (hl : ks.length ≤ 200) (hm : cap ≤ maxLen) :
    Calls Try.prog 15 #[.slice a ks.length cap] w (TellEnd w ks) := by
  obtain ⟨i0, hi, hz0, hz1, hz2⟩ := info_parts Key30.info
  unfold maxLen at hm
  have HR := Lib.hid hr
  clear hr
  go_enter Try.func15, Try.ntmps15
  go_wp2
  go_loopw [3, 4] (fun v i wr => TellLoop w ks v i wr) (fun _ i _ => ks.length - (intOf i).toNat)
  case atStart => exact ⟨0, rfl, Nat.zero_le _, own_empty _ _ _ (newest _ _) (Nat.le_refl _), (Below.refl _ w).alloc (Nat.le_refl _) _⟩
  case round =>
    obtain ⟨j, rfl, hj, hrel⟩ := hrel
    have hBs := hrel.below.size
    by_cases hlt : j < ks.length
    · obtain ⟨b, off, rfl, hbl, hcl⟩ := HR.out (by intro e; rw [e] at hlt; simp at hlt)
      obtain ⟨c0, c1⟩ := hcl j hlt
      have c0' := (hrel.below.cell (p := ⟨b, off + j * 2, none⟩) hbl).trans c0
      have c1' := (hrel.below.cell (p := ⟨b, off + j * 2 + 1, none⟩) hbl).trans c1
      have HA := Lib.hid hrel.row
      obtain ⟨a1, cap1, rfl, _, _⟩ := own_shape' hrel.row
      have T := Lib.hid (fun v' w' (o' : Obj) => TellRel.next (v' := v') (w' := w') (o := o') hrel hlt)
      have hta : (ks.take j).length ≤ 200 := by rw [List.length_take]; omega
      have i1 : (0 : Int) ≤ j := by omega
      have i2 : (j : Int) < ks.length := by omega
      clear c0 c1 hcl hrel
      generalize ks.take j = ta at *
      generalize ks[j] = q at *
      go_wp2_with fail
      go_region_law (refine step_append_lies _ rfl (.tmp 12) (.tmp 24) 22 rfl w.heap.size 30 i0 (.agg #[.int .i64 0, .int .i64 0]) 2 16 Try.underlying22 hi hz0 hz1 hz2 rfl (by decide) (.slice a1 ta.length cap1) ta.length (cs ta) rfl (by exact HA.out.alloc _) ⟨wr.heap.size, 0, none⟩ 1 1 [.int .i64 q.1, .int .i64 q.2] rfl rfl (by exact fun j u hj => news30 wr q.1 q.2 j u hj) (one30 q.1 q.2) (by decide) (by unfold maxLen; omega) (by omega) (by simp; omega) (wr.heap.size + 1) (by simp) ?_; intro g cap' w2 hown hgrow hat hlt2; have R := Lib.hid (T.out _ w2 _ hown hgrow); clear hown hgrow hat hlt2)
      all_goals
        go_wp2
        go_roundw
        case rel => exact ⟨j + 1, by go_num, by omega, R.out⟩
        case measure => simp [intOf]; omega
    · obtain rfl : j = ks.length := by omega
      have R := Lib.hid hrel
      clear hrel
      go_wp2
      go_ret
      exact ⟨_, rfl, R.out⟩
end Go.Proofs.Ytpanakfbbdeihaa
