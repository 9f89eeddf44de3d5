/-
  PROVED: the contract of the queue's 'out'. Conditions: each theorem's own premises.
-/
import Derived.Test.YtpanakfbbdeihaaOut
import Derived.Deep.RegionWith
namespace Go.Proofs.Ytpanakfbbdeihaa
open Go.RowKit
set_option linter.unusedVariables false

theorem out_asks {B : Nat} {z : Spots} {l : List Key} {p : Key → Bool} {m : Int} {g : FuncId} {gcap : Array Value} {fo : List Nat} {st : World → Prop} {qv : Value} (hs : Such g gcap p fo st) (hl : l.length ≤ 64) (hB : B ≤ z.T) :
    Asks (.pointer (some ⟨z.T, 0, none⟩)) (.pointer (some ⟨z.MO, 0, none⟩)) (.pointer (some ⟨z.S, 0, none⟩)) (.pointer (some ⟨z.QB, 0, none⟩)) l (dl l p m) (OutJ B z l p m g gcap fo st qv) where
  call := by
    rintro fp j w hj ⟨tv, rfl, h⟩
    by_cases hf : ((tk l p m j).length : Int) < m
    · cases hp : p l[j]
      · exact out1_no hs hj hl h hf hp
      · exact out1_yes hs hj hl h hf hp (by have := h.lt hs z.T (by simp [ofp]); omega)
    · exact out1_full hs hj hl h hf
  keep := by
    rintro fp j w w' ⟨tv, rfl, h⟩ hb
    exact ⟨tv, rfl, h.keep hs hb⟩
  lt := by
    rintro fp j w ⟨tv, rfl, h⟩
    exact h.lt hs

/-- What 'out' leaves. -/
structure OutEnd (B : Nat) (w : World) (Q M : Nat) (v : Value) (ks : List Key) (p : Key → Bool) (m : Int) (fo : List Nat) (e : Ending) (w' : World) : Prop where
  out : ∃ tv qv', e = .returned tv ∧ w'.ownsRow B 28 2 tv (tk ks p m ks.length).length (cs (tk ks p m ks.length)) ∧ QAt B w' Q M qv' (kp ks (dl ks p m) ks.length) ∧
    (qv'.ownBlock = v.ownBlock ∨ qv'.ownBlock = none) ∧ (∀ b, tv.ownBlock = some b → w.heap.size ≤ b)
  only : Only (qfp Q M v ++ fo) w w'

/-- The four blocks that 'out' begins with. -/
def W4 (w : World) (Q : Nat) (m : Int) (g : FuncId) (gcap : Array Value) : World :=
  (((w.alloc (.cells #[.pointer (some ⟨Q, 0, none⟩)] 24)).alloc (.cells #[.int .i64 m] 3)).alloc (.cells #[.func (.func g) #[] gcap] 26)).alloc (.cells #[.slice none 0 0] 44)

def zof (w : World) (Q M : Nat) : Spots := ⟨w.heap.size + 1 + 1 + 1, w.heap.size + 1, w.heap.size + 1 + 1, w.heap.size, Q, M⟩

theorem W4_only (w : World) (Q : Nat) (m : Int) (g : FuncId) (gcap : Array Value) : Only [] w (W4 w Q m g gcap) := ((((Only.refl _ w).alloc _).alloc _).alloc _).alloc _

theorem W4_at {B : Nat} {w : World} {Q M : Nat} {v : Value} {ks : List Key} {p : Key → Bool} {m : Int} {g : FuncId} {gcap : Array Value} {fo : List Nat} {st : World → Prop} (hs : Such g gcap p fo st) (h : QAt B w Q M v ks) (hst : st w) :
    OutAt B (zof w Q M) ks p m g gcap fo st v (.slice none 0 0) 0 (W4 w Q m g gcap) := by
  have o := W4_only w Q m g gcap
  have sz : ∀ (x : World) (o : Obj), (x.alloc o).heap.size = x.heap.size + 1 := fun x o => by simp
  have q4 : QAt B (W4 w Q m g gcap) Q M v ks := h.only o (by simp)
  refine ⟨?_, ?_, ?_, ?_, q4.q, World.ownsRow_nil _ _ _ _, ⟨ks, q4.map, by simp [tk]⟩, hs.keep w _ hst (fun b hb => o.block b (hs.lt w hst b hb) (by simp))⟩
  · have := newest (((w.alloc (.cells #[.pointer (some ⟨Q, 0, none⟩)] 24)).alloc (.cells #[.int .i64 m] 3)).alloc (.cells #[.func (.func g) #[] gcap] 26)) (.cells #[.slice none 0 0] 44)
    simpa [W4, zof] using this
  · have := newest (w.alloc (.cells #[.pointer (some ⟨Q, 0, none⟩)] 24)) (.cells #[.int .i64 m] 3)
    simp only [sz] at this
    exact ((Below.heap_alloc _ _ _ (by simp [zof])).trans ((Below.heap_alloc _ _ _ (by simp [zof])).trans this))
  · have := newest ((w.alloc (.cells #[.pointer (some ⟨Q, 0, none⟩)] 24)).alloc (.cells #[.int .i64 m] 3)) (.cells #[.func (.func g) #[] gcap] 26)
    simp only [sz] at this
    exact ((Below.heap_alloc _ _ _ (by simp [zof])).trans this)
  · have := newest w (.cells #[.pointer (some ⟨Q, 0, none⟩)] 24)
    exact ((Below.heap_alloc _ _ _ (by simp [zof]; omega)).trans ((Below.heap_alloc _ _ _ (by simp [zof]; omega)).trans ((Below.heap_alloc _ _ _ (by simp [zof])).trans this)))

theorem kp_mem (l : List Key) (d : Nat → Bool) (j : Nat) (x : Key) : x ∈ kp l d j ↔ ∃ i, i < j ∧ d i = false ∧ l[i]? = some x := by
  induction j with
  | zero => simp [kp]
  | succ j ih =>
    simp only [kp, List.mem_append, ih]
    constructor
    · rintro (⟨i, h1, h2⟩ | h)
      · exact ⟨i, by omega, h2⟩
      · cases hd : d j
        · rw [hd] at h
          exact ⟨j, by omega, hd, by simpa using h⟩
        · rw [hd] at h; simp at h
    · rintro ⟨i, h1, h2, h3⟩
      by_cases e : i = j
      · subst e
        exact .inr (by simp [h2, h3])
      · exact .inl ⟨i, by omega, h2, h3⟩

theorem tk_mem' (l : List Key) (p : Key → Bool) (m : Int) (j : Nat) (hj : j ≤ l.length) (x : Key) : x ∈ tk l p m j ↔ ∃ i, i < j ∧ dl l p m i = true ∧ l[i]? = some x := by
  induction j with
  | zero => simp [tk]
  | succ j ih =>
    rw [tk_succ l p m j (by omega), List.mem_append, ih (by omega)]
    constructor
    · rintro (⟨i, h1, h2⟩ | h)
      · exact ⟨i, by omega, h2⟩
      · cases hd : dl l p m j
        · rw [hd] at h; simp at h
        · rw [hd] at h
          exact ⟨j, by omega, hd, by simp at h; simp [h]⟩
    · rintro ⟨i, h1, h2, h3⟩
      by_cases e : i = j
      · subst e
        obtain ⟨hlt, he⟩ := List.getElem?_eq_some_iff.1 h3
        exact .inr (by simp [h2, he])
      · exact .inl ⟨i, by omega, h2, h3⟩

theorem kp_sub (l : List Key) (d : Nat → Bool) (j : Nat) : (kp l d j).Sublist (l.take j) := by
  induction j with
  | zero => simp [kp]
  | succ j ih =>
    rw [kp, List.take_add_one]
    refine List.Sublist.append ih ?_
    split
    · exact List.nil_sublist _
    · exact List.Sublist.refl _

theorem nodup_inj {l : List Key} (hn : l.Nodup) {i j : Nat} (hi : i < l.length) (hj : j < l.length) (h : l[i] = l[j]) : i = j := by
  have hp := List.pairwise_iff_getElem.1 hn
  rcases Nat.lt_trichotomy i j with h1 | h1 | h1
  · exact absurd h (hp i j hi hj h1)
  · exact h1
  · exact absurd h.symm (hp j i hj hi h1)

theorem kp_iff (l : List Key) (p : Key → Bool) (m : Int) (hn : l.Nodup) (x : Key) : x ∈ kp l (dl l p m) l.length ↔ x ∈ l ∧ x ∉ tk l p m l.length := by
  rw [kp_mem, tk_mem' l p m l.length (Nat.le_refl _)]
  constructor
  · rintro ⟨i, h1, h2, h3⟩
    refine ⟨List.mem_of_getElem? h3, ?_⟩
    rintro ⟨i', h1', h2', h3'⟩
    obtain ⟨a1, a2⟩ := List.getElem?_eq_some_iff.1 h3
    obtain ⟨b1, b2⟩ := List.getElem?_eq_some_iff.1 h3'
    have : i = i' := nodup_inj hn a1 b1 (a2.trans b2.symm)
    subst this
    rw [h2] at h2'
    cases h2'
  · rintro ⟨h1, h2⟩
    obtain ⟨i, hi, he⟩ := List.getElem_of_mem h1
    refine ⟨i, hi, ?_, by simp [hi, he]⟩
    cases hd : dl l p m i
    · rfl
    · exact absurd ⟨i, hi, hd, by simp [hi, he]⟩ h2

theorem out_fin {B : Nat} {w X w2 : World} {Q M : Nat} {R cap : Nat} {ks : List Key} {p : Key → Bool} {m : Int} {g : FuncId} {gcap : Array Value} {fo : List Nat} {st : World → Prop} {tv : Value} (hs : Such g gcap p fo st) (h : QAt B w Q M (.slice (some ⟨R, 0, none⟩) ks.length cap) ks) (hm : cap ≤ maxLen) (hcc : ks.length ≤ cap)
    (o4 : Only [] w X) (hO : OutAt B (zof w Q M) ks p m g gcap fo st (.slice (some ⟨R, 0, none⟩) ks.length cap) tv ks.length w2) (hR : R ∉ ofp (zof w Q M) fo tv)
    (hsub : ∀ x ∈ ofp (zof w Q M) fo tv, x ∈ ofp (zof w Q M) fo (.slice none 0 0) ∨ X.drew.heap.size ≤ x)
    (hrow : ∃ cur, w2.heap[R]? = some (.cells cur 28 (0, 0)) ∧ cur.size = cap * 2 ∧ cur.toList.take ((kp ks (dl ks p m) ks.length).length * 2) = cs (kp ks (dl ks p m) ks.length))
    (honly : Only (R :: ofp (zof w Q M) fo (.slice none 0 0)) X.drew w2) :
    OutEnd B w Q M (.slice (some ⟨R, 0, none⟩) ks.length cap) ks p m fo (.returned tv) (w2.setCell ⟨Q, 0, none⟩ (.slice (some ⟨R, 0, none⟩) (kp ks (dl ks p m) ks.length).length cap)) := by
  have hBQ := h.bq
  have hkl : (kp ks (dl ks p m) ks.length).length ≤ ks.length := kp_length _ _ _
  have ap := hO.apart hs
  obtain ⟨cur, c1, c2, c3⟩ := hrow
  have hRQ : R ≠ Q := fun e => by subst e; have := hO.q; simp only [zof] at this; rw [c1] at this; simp at this
  have hQM : Q ≠ M := h.apart.2.2
  have q3 : (w2.setCell ⟨Q, 0, none⟩ (.slice (some ⟨R, 0, none⟩) (kp ks (dl ks p m) ks.length).length cap)).heap[Q]? = some (.cells #[.slice (some ⟨R, 0, none⟩) (kp ks (dl ks p m) ks.length).length cap, .map (some M)] 50 (0, 0)) := by
    have hq := hO.q
    simp only [zof] at hq
    have hlt := lt_of_block hq
    have h' : w2.heap[Q] = .cells #[.slice (some ⟨R, 0, none⟩) ks.length cap, .map (some M)] 50 (0, 0) := by simpa [Array.getElem?_eq_getElem hlt] using hq
    show (w2.heap.modify Q _)[Q]? = _
    rw [Array.getElem?_eq_getElem (by simpa using hlt), Array.getElem_modify_self, h']
    rfl
  obtain ⟨ms, hms, hmem⟩ := hO.map
  refine ⟨⟨tv, _, rfl, ⟨hO.row.1, ?_⟩, ⟨q3, ⟨cs_length _, .inr ⟨R, cap, cur, rfl, (h.lt R (by simp [qfp, Value.ownBlock])).1, (Below.heap_setCell _ _ _ _ hRQ).trans c1, by omega, hm, c2, c3⟩⟩, ?_, h.bq, h.bm, ?_, ?_⟩, .inl rfl, ?_⟩, ?_⟩
  · rcases hO.row.2 with hn | ⟨g', cap', cur', rfl, hg', hh, r⟩
    · exact .inl hn
    · have : g' ≠ Q := fun e => ap Q (by simp [zof]) (by simp [Value.ownBlock, e])
      exact .inr ⟨g', cap', cur', rfl, hg', (Below.heap_setCell _ _ _ _ this).trans hh, r⟩
  · refine (hms.congr (fun x => ?_)).keep (Below.heap_setCell _ _ _ _ (Ne.symm hQM))
    rw [kp_iff ks p m h.nodup, hmem]
  · exact List.Nodup.sublist (kp_sub _ _ _) (by rw [List.take_length]; exact h.nodup)
  · have := h.len; omega
  · intro b hb
    rcases hsub b (by simp [ofp, hb]) with h1 | h1
    · simp only [ofp, Value.ownBlock, List.mem_cons, List.mem_append, Option.mem_toList] at h1
      rcases h1 with h1 | h1 | h1 | h1 | h1 | h1 | h1 | h1
      · simp [zof] at h1; omega
      · simp [zof] at h1; omega
      · simp [zof] at h1; omega
      · simp [zof] at h1; omega
      · exact absurd hb (ap b (by rw [h1]; simp))
      · exact absurd hb (ap b (by rw [h1]; simp))
      · exact absurd hb (ap b (by simp [h1]))
      · cases h1
    · have := o4.size
      have : X.drew.heap.size = X.heap.size := rfl
      omega
  · have o2 : Only (Q :: M :: R :: fo) w w2 := by
      refine ⟨honly.os.trans o4.os, honly.tape.trans o4.tape, honly.output.trans o4.output, Nat.le_trans o4.size honly.size, fun b hb hf => ?_⟩
      simp only [List.mem_cons, not_or] at hf
      · refine (honly.block b (Nat.lt_of_lt_of_le hb o4.size) ?_).trans (o4.block b hb (by simp))
        simp only [ofp, Value.ownBlock, List.mem_cons, List.mem_append, Option.mem_toList, zof]
        rintro (h1 | h1 | h1 | h1 | h1 | h1 | h1 | h1 | h1)
        · exact hf.2.2.1 h1
        · omega
        · omega
        · omega
        · omega
        · exact hf.1 h1
        · exact hf.2.1 h1
        · exact hf.2.2.2 h1
        · cases h1
    exact (o2.setCell (.inl (by simp)) _).mono (fun x hx => .inl (by simpa [qfp, Value.ownBlock] using hx))

set_option maxHeartbeats 1000000 in
theorem out_row {B : Nat} {w : World} {Q M : Nat} {R cap : Nat} {ks : List Key} {p : Key → Bool} {m : Int} {g : FuncId} {gcap : Array Value} {fo : List Nat} {st : World → Prop} (hs : Such g gcap p fo st) (h : QAt B w Q M (.slice (some ⟨R, 0, none⟩) ks.length cap) ks) (hst : st w)
    (hfo : R ∉ fo) : Calls Try.prog 19 #[.pointer (some ⟨Q, 0, none⟩), .int .i64 m, .func (.func g) #[] gcap] w (OutEnd B w Q M (.slice (some ⟨R, 0, none⟩) ks.length cap) ks p m fo) := by
  have hmf : ∀ (fn : Fn) (first cap : Array Value) (w : World), (Instr.makeFunc fn first cap).run Try.prog w = .ok (.func fn first cap) w := fun _ _ _ _ => rfl
  have A := W4_at (m := m) hs h hst
  have hB : B ≤ w.heap.size := by have := (h.lt Q (by simp [qfp])); omega
  have hQ : Q < w.heap.size := lt_of_block h.q
  have hRlt := h.lt R (by simp [qfp, Value.ownBlock])
  obtain ⟨X, hX⟩ : ∃ X, W4 w Q m g gcap = X := ⟨_, rfl⟩
  have o4 : Only [] w X := hX ▸ W4_only w Q m g gcap
  have sz4 : X.heap.size = w.heap.size + 4 := by rw [← hX]; simp [W4]
  have hX' : (((w.alloc (.cells #[.pointer (some ⟨Q, 0, none⟩)] 24)).alloc (.cells #[.int .i64 m] 3)).alloc (.cells #[.func (.func g) #[] gcap] 26)).alloc (.cells #[.slice none 0 0] 44) = X := hX
  rw [hX] at A
  have q4 : QAt B X Q M (.slice (some ⟨R, 0, none⟩) ks.length cap) ks := h.only o4 (by simp)
  have hlen := h.len
  have hap := h.apart
  obtain ⟨hrl, hrow⟩ := q4.row
  rcases hrow with ⟨hh, _⟩ | ⟨g', cap', cur, hv, hBg, hcur, hcc, hcm, hcs, htake⟩
  · cases hh
  cases hv
  have hRfp : R ∉ ofp (zof w Q M) fo (.slice none 0 0) := by
    simp only [ofp, zof, Value.ownBlock, List.mem_cons, List.mem_append, Option.mem_toList]
    rintro (h1 | h1 | h1 | h1 | h1 | h1 | h1 | h1)
    · omega
    · omega
    · omega
    · omega
    · exact hap.1 (by simp [Value.ownBlock, h1])
    · exact hap.2.1 (by simp [Value.ownBlock, h1])
    · exact hfo h1
    · cases h1
  have idx : IdxRel (OutJ B (zof w Q M) ks p m g gcap fo st (.slice (some ⟨R, 0, none⟩) ks.length cap)) (dl ks p m) R ks (cur.toList.drop (ks.length * 2)) (ofp (zof w Q M) fo (.slice none 0 0)) X.drew 0 X.drew :=
    ⟨⟨_, ⟨_, rfl, A.keep hs (fun _ _ => rfl)⟩, hRfp, fun x hx => .inl hx⟩, ⟨cur, hcur, by rw [← htake, List.take_append_drop]⟩, Only.refl _ _, fun i hi => by omega⟩
  have C0 : Calls Try.prog 23 #[.slice (some ⟨R, 0, none⟩) ks.length cap, .func (.func 24) #[] #[.pointer (some ⟨w.heap.size + 1 + 1 + 1, 0, none⟩), .pointer (some ⟨w.heap.size + 1, 0, none⟩), .pointer (some ⟨w.heap.size + 1 + 1, 0, none⟩), .pointer (some ⟨w.heap.size, 0, none⟩)]] X.drew _ :=
    del_any (out_asks hs hlen (show B ≤ w.heap.size + 1 + 1 + 1 by omega)) idx cap hcc hlen (by simp [hcs]) hcm
  have C := Lib.hid C0
  have cQB : X.cell? ⟨w.heap.size, 0, none⟩ = some (.pointer (some ⟨Q, 0, none⟩)) := cell_of_one A.qb
  have cQ : X.cell? ⟨Q, 0, none⟩ = some (.slice (some ⟨R, 0, none⟩) ks.length cap) := by simp [World.cell?, q4.q]
  have HS := Lib.hid hs
  have H := Lib.hid h
  have O4 := Lib.hid o4
  have SZ4 := Lib.hid sz4
  have HAP := Lib.hid hap
  clear hX A q4 hap hrl hcur hcs htake hRfp idx C0 h o4 sz4 hst
  go_enter Try.func19, Try.ntmps19
  go_wp2_with fail
  clear hX'
  go_region_with (go_at_call 23; refine C.out.mono ?_; rintro e w2 ⟨rfl, ⟨fp, ⟨tv, rfl, hO⟩, hRn, hsub⟩, hrow2, honly⟩; have x0 := cell_of_one hO.qb; have x1 : w2.cell? ⟨Q, 0, none⟩ = some (.slice (some ⟨R, 0, none⟩) ks.length cap) := (by have := hO.q; simp only [zof] at this; simp [World.cell?, this]); have x2 : w2.frozen? ⟨Q, 0, none⟩ = false := (by have := hO.q; simp only [zof] at this; simp [World.frozen?, this]); have x3 := cell_of_one hO.t; simp only [zof] at x0 x3; have HO := Lib.hid hO; have P1 := Lib.hid hRn; have P2 := Lib.hid hsub; have P3 := Lib.hid hrow2; have P4 := Lib.hid honly; clear hO hRn hsub hrow2 honly)
  all_goals
    have E := Lib.hid (out_fin HS.out H.out hcm hcc O4.out HO.out P1.out P2.out P3.out P4.out)
    obtain ⟨at', ct, rfl, _, _⟩ := own_shape HO.out.row
    go_wp2
    go_ret
    exact E.out
end Go.Proofs.Ytpanakfbbdeihaa
