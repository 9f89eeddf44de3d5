/-
  PROVED: contracts of the queue's 'out' and of its closure. Conditions: each theorem's own premises.
-/
import Derived.Test.YtpanakfbbdeihaaDelete
namespace Go.Proofs.Ytpanakfbbdeihaa
open Go.RowKit
set_option linter.unusedVariables false

/-- What has been taken out of the first j: as many as there may be of those that are such. -/
def tk (l : List Key) (p : Key → Bool) (m : Int) : Nat → List Key
  | 0 => []
  | j + 1 => tk l p m j ++ (match l[j]? with
    | some k => if ((tk l p m j).length : Int) < m ∧ p k = true then [k] else []
    | none => [])

/-- What the closure answers of the j-th. -/
def dl (l : List Key) (p : Key → Bool) (m : Int) (j : Nat) : Bool :=
  match l[j]? with
  | some k => decide (((tk l p m j).length : Int) < m) && p k
  | none => false

theorem tk_succ (l : List Key) (p : Key → Bool) (m : Int) (j : Nat) (hj : j < l.length) :
    tk l p m (j + 1) = tk l p m j ++ (if dl l p m j then [l[j]] else []) := by
  simp only [tk, dl, List.getElem?_eq_getElem hj]
  by_cases h1 : ((tk l p m j).length : Int) < m <;> cases p l[j] <;> simp [h1]
theorem tk_length (l : List Key) (p : Key → Bool) (m : Int) (j : Nat) : (tk l p m j).length ≤ j := by
  induction j with
  | zero => simp [tk]
  | succ j ih =>
    simp only [tk, List.length_append]
    split
    · split <;> simp <;> omega
    · simp; omega
theorem tk_mem (l : List Key) (p : Key → Bool) (m : Int) (j : Nat) : ∀ q ∈ tk l p m j, q ∈ l.take j := by
  induction j with
  | zero => simp [tk]
  | succ j ih =>
    intro q hq
    simp only [tk, List.mem_append] at hq
    rw [List.take_add_one]
    rcases hq with hq | hq
    · exact List.mem_append.2 (.inl (ih q hq))
    · refine List.mem_append.2 (.inr ?_)
      cases hk : l[j]? with
      | none => rw [hk] at hq; simp at hq
      | some k =>
        rw [hk] at hq
        simp only at hq
        split at hq
        · simpa using hq
        · simp at hq

/-- A closure that tells which keys are such, and what it reads. -/
structure Such (g : FuncId) (gcap : Array Value) (p : Key → Bool) (fo : List Nat) (st : World → Prop) : Prop where
  form : gcap = #[] ∨ ∃ x, gcap = #[x]
  able : ∀ (args : Array Value) (w : World), Sem.run Try.prog (callFunc g args) w = .ok (.enter g args) w
  call : ∀ (a b : Int) (w : World), st w → Calls Try.prog g (#[.agg #[.int .i64 a, .int .i64 b]] ++ gcap) w fun e w' => e = .returned (.bool (p (a, b))) ∧ Below w.heap.size w w'
  keep : ∀ (w w' : World), st w → (∀ b ∈ fo, w'.heap[b]? = w.heap[b]?) → st w'
  lt : ∀ (w : World), st w → ∀ b ∈ fo, b < w.heap.size
  type : ∀ (w : World), st w → ∀ b ∈ fo, ∃ c, w.heap[b]? = some (.cells c 3 (0, 0))

/-- The blocks that 'out' goes by. -/
structure Spots where
  T : Nat
  MO : Nat
  S : Nat
  QB : Nat
  Q : Nat
  M : Nat

structure OutAt (B : Nat) (z : Spots) (l : List Key) (p : Key → Bool) (m : Int) (g : FuncId) (gcap : Array Value) (fo : List Nat) (st : World → Prop) (qv tv : Value) (j : Nat) (w : World) : Prop where
  t : w.heap[z.T]? = some (.cells #[tv] 44 (0, 0))
  mo : w.heap[z.MO]? = some (.cells #[.int .i64 m] 3 (0, 0))
  s : w.heap[z.S]? = some (.cells #[.func (.func g) #[] gcap] 26 (0, 0))
  qb : w.heap[z.QB]? = some (.cells #[.pointer (some ⟨z.Q, 0, none⟩)] 24 (0, 0))
  q : w.heap[z.Q]? = some (.cells #[qv, .map (some z.M)] 50 (0, 0))
  row : w.ownsRow B 28 2 tv (tk l p m j).length (cs (tk l p m j))
  map : ∃ ks, HasKeys w z.M ks ∧ ∀ x, x ∈ ks ↔ x ∈ l ∧ x ∉ tk l p m j
  st : st w

def ofp (z : Spots) (fo : List Nat) (tv : Value) : List Nat := z.T :: z.MO :: z.S :: z.QB :: z.Q :: z.M :: (fo ++ tv.ownBlock.toList)

/-- The relation of the closure. -/
def OutJ (B : Nat) (z : Spots) (l : List Key) (p : Key → Bool) (m : Int) (g : FuncId) (gcap : Array Value) (fo : List Nat) (st : World → Prop) (qv : Value) (fp : List Nat) (j : Nat) (w : World) : Prop :=
  ∃ tv, fp = ofp z fo tv ∧ OutAt B z l p m g gcap fo st qv tv j w

section
variable {B : Nat} {z : Spots} {l : List Key} {p : Key → Bool} {m : Int} {g : FuncId} {gcap : Array Value} {fo : List Nat} {st : World → Prop} {qv tv : Value} {j : Nat} {w w' : World}

theorem OutAt.keep (hs : Such g gcap p fo st) (h : OutAt B z l p m g gcap fo st qv tv j w) (hb : ∀ b ∈ ofp z fo tv, w'.heap[b]? = w.heap[b]?) : OutAt B z l p m g gcap fo st qv tv j w' := by
  obtain ⟨ks, hk, hx⟩ := h.map
  refine ⟨(hb _ (by simp [ofp])).trans h.t, (hb _ (by simp [ofp])).trans h.mo, (hb _ (by simp [ofp])).trans h.s, (hb _ (by simp [ofp])).trans h.qb, (hb _ (by simp [ofp])).trans h.q, ⟨h.row.1, ?_⟩,
    ⟨ks, hk.keep (hb _ (by simp [ofp])), hx⟩, hs.keep w w' h.st (fun b hbo => hb b (by simp [ofp, hbo]))⟩
  rcases h.row.2 with hn | ⟨g', cap, cur, rfl, hg, hh, r⟩
  · exact .inl hn
  · exact .inr ⟨g', cap, cur, rfl, hg, (hb g' (by simp [ofp, Value.ownBlock])).trans hh, r⟩

theorem OutAt.lt (hs : Such g gcap p fo st) (h : OutAt B z l p m g gcap fo st qv tv j w) : ∀ b ∈ ofp z fo tv, b < w.heap.size := by
  intro b hb
  simp only [ofp, List.mem_cons, List.mem_append, Option.mem_toList] at hb
  obtain ⟨ks, hk, _⟩ := h.map
  rcases hb with rfl | rfl | rfl | rfl | rfl | rfl | hb | hb
  · exact lt_of_block h.t
  · exact lt_of_block h.mo
  · exact lt_of_block h.s
  · exact lt_of_block h.qb
  · exact lt_of_block h.q
  · exact hk.lt
  · exact hs.lt w h.st b hb
  · exact (h.row.lt b hb).2

theorem OutAt.only (hs : Such g gcap p fo st) (h : OutAt B z l p m g gcap fo st qv tv j w) {f : List Nat} (ho : Only f w w') (hf : ∀ b ∈ ofp z fo tv, b ∉ f) : OutAt B z l p m g gcap fo st qv tv j w' :=
  h.keep hs fun b hb => ho.block b (h.lt hs b hb) (hf b hb)

/-- The closure answers no. -/
theorem OutAt.no (hj : j < l.length) (h : OutAt B z l p m g gcap fo st qv tv j w) (hd : dl l p m j = false) : OutAt B z l p m g gcap fo st qv tv (j + 1) w := by
  have e : tk l p m (j + 1) = tk l p m j := by rw [tk_succ l p m j hj, hd]; simp
  exact ⟨h.t, h.mo, h.s, h.qb, h.q, by rw [e]; exact h.row, by rw [e]; exact h.map, h.st⟩
end

set_option maxHeartbeats 400000 in
theorem out1_full {B : Nat} {z : Spots} {l : List Key} {p : Key → Bool} {m : Int} {g : FuncId} {gcap : Array Value} {fo : List Nat} {st : World → Prop} {qv tv : Value} {j : Nat} {w : World} (hs : Such g gcap p fo st) (hj : j < l.length) (hl : l.length ≤ 64)
    (h : OutAt B z l p m g gcap fo st qv tv j w) (hfull : ¬ ((tk l p m j).length : Int) < m) :
    Calls Try.prog 24 #[.agg #[.int .i64 l[j].1, .int .i64 l[j].2], .pointer (some ⟨z.T, 0, none⟩), .pointer (some ⟨z.MO, 0, none⟩), .pointer (some ⟨z.S, 0, none⟩), .pointer (some ⟨z.QB, 0, none⟩)] w
      (AskEnd (OutJ B z l p m g gcap fo st qv) (ofp z fo tv) j (dl l p m j) w) := by
  have hd : dl l p m j = false := by simp [dl, List.getElem?_eq_getElem hj, hfull]
  obtain ⟨W, hW, bx⟩ := boxed w l[j].1 l[j].2
  have h1 : OutAt B z l p m g gcap fo st qv tv j W := h.only hs bx.only (by simp)
  have E := Lib.hid (show AskEnd (OutJ B z l p m g gcap fo st qv) (ofp z fo tv) j (dl l p m j) w (.returned (.bool false)) W from
    ⟨ofp z fo tv, by rw [hd], ⟨tv, rfl, h1.no hj hd⟩, bx.only.mono (by simp), fun x hx => .inl hx⟩)
  obtain ⟨ad, cap, rfl, hc, hm⟩ := own_shape h1.row
  have c0 := cell_of_one h1.t
  have c1 := cell_of_one h1.mo
  have hfl : m ≤ (tk l p m j).length := by omega
  generalize hd1 : dl l p m j = b at *
  generalize htl : (tk l p m j).length = n at *
  clear h h1 bx hfull hd
  generalize l[j] = k at *
  go_enter Try.func24, Try.ntmps24
  go_wp2
  go_ret
  exact E.out

set_option maxHeartbeats 400000 in
theorem out1_no {B : Nat} {z : Spots} {l : List Key} {p : Key → Bool} {m : Int} {g : FuncId} {gcap : Array Value} {fo : List Nat} {st : World → Prop} {qv tv : Value} {j : Nat} {w : World} (hs : Such g gcap p fo st) (hj : j < l.length) (hl : l.length ≤ 64)
    (h : OutAt B z l p m g gcap fo st qv tv j w) (hfull : ((tk l p m j).length : Int) < m) (hp : p l[j] = false) :
    Calls Try.prog 24 #[.agg #[.int .i64 l[j].1, .int .i64 l[j].2], .pointer (some ⟨z.T, 0, none⟩), .pointer (some ⟨z.MO, 0, none⟩), .pointer (some ⟨z.S, 0, none⟩), .pointer (some ⟨z.QB, 0, none⟩)] w
      (AskEnd (OutJ B z l p m g gcap fo st qv) (ofp z fo tv) j (dl l p m j) w) := by
  have hd : dl l p m j = false := by simp [dl, List.getElem?_eq_getElem hj, hp]
  obtain ⟨W, hW, bx⟩ := boxed w l[j].1 l[j].2
  have h1 : OutAt B z l p m g gcap fo st qv tv j W := h.only hs bx.only (by simp)
  have E := Lib.hid (fun W' (hb : Below W.heap.size W W') => show AskEnd (OutJ B z l p m g gcap fo st qv) (ofp z fo tv) j (dl l p m j) w (.returned (.bool false)) W' from
    ⟨ofp z fo tv, by rw [hd], ⟨tv, rfl, (h1.keep hs (fun b hbb => hb.block b (h1.lt hs b hbb))).no hj hd⟩, (bx.only.trans (Only.of_below (fp := []) hb (Nat.le_refl _)) (by simp)).mono (by simp), fun x hx => .inl hx⟩)
  have C := Lib.hid (hs.call l[j].1 l[j].2 W h1.st)
  obtain ⟨ad, cap, rfl, hc, hm⟩ := own_shape h1.row
  have c0 := cell_of_one h1.t
  have c1 := cell_of_one h1.mo
  have c2 := cell_of_one h1.s
  have b0 : W.cell? ⟨w.heap.size, 0, none⟩ = some (.int .i64 l[j].1) := by simp [World.cell?, bx.block]
  have b1 : W.cell? ⟨w.heap.size, 1, none⟩ = some (.int .i64 l[j].2) := by simp [World.cell?, bx.block]
  have able := hs.able
  have hp' : p (l[j].1, l[j].2) = false := hp
  rw [hp'] at C
  generalize hd1 : dl l p m j = b at *
  generalize htl : (tk l p m j).length = n at *
  have form := hs.form
  clear h h1 bx hd hp hp' hs htl hd1
  generalize l[j] = k at *
  rcases form with rfl | ⟨x, rfl⟩
  all_goals
    go_enter Try.func24, Try.ntmps24
    go_wp2_with fail
    refine C.out.mono ?_
    rintro e W' ⟨rfl, hb⟩
    have E' := Lib.hid (E.out W' hb)
    clear hb C E
    go_wp2
    go_ret
    exact E'.out

/-- The taken ones' row is a block of its own. -/
theorem OutAt.apart {B : Nat} {z : Spots} {l : List Key} {p : Key → Bool} {m : Int} {g : FuncId} {gcap : Array Value} {fo : List Nat} {st : World → Prop} {qv tv : Value} {j : Nat} {w : World} (hs : Such g gcap p fo st) (h : OutAt B z l p m g gcap fo st qv tv j w) :
    ∀ b, b ∈ z.T :: z.MO :: z.S :: z.QB :: z.Q :: z.M :: fo → tv.ownBlock ≠ some b := by
  intro b hb e
  rcases h.row.2 with ⟨rfl, _⟩ | ⟨g', cap, cur, rfl, _, hg, _⟩
  · cases e
  · obtain rfl : g' = b := by simpa [Value.ownBlock] using e
    simp only [List.mem_cons] at hb
    rcases hb with hb | hb | hb | hb | hb | hb | hb
    · have := h.t; rw [← hb, hg] at this; simp at this
    · have := h.mo; rw [← hb, hg] at this; simp at this
    · have := h.s; rw [← hb, hg] at this; simp at this
    · have := h.qb; rw [← hb, hg] at this; simp at this
    · have := h.q; rw [← hb, hg] at this; simp at this
    · obtain ⟨ks, ⟨es, c, hm, _⟩, _⟩ := h.map; rw [← hb, hg] at hm; simp at hm
    · obtain ⟨c, hc⟩ := hs.type w h.st g' hb; rw [hg] at hc; simp at hc

theorem OutAt.tne {B : Nat} {z : Spots} {l : List Key} {p : Key → Bool} {m : Int} {g : FuncId} {gcap : Array Value} {fo : List Nat} {st : World → Prop} {qv tv : Value} {j : Nat} {w : World} (hs : Such g gcap p fo st) (h : OutAt B z l p m g gcap fo st qv tv j w) :
    (∀ b, b ∈ z.MO :: z.S :: z.QB :: z.Q :: z.M :: fo → b ≠ z.T) ∧ (∀ b, b ∈ z.T :: z.MO :: z.S :: z.QB :: z.Q :: fo → b ≠ z.M) := by
  obtain ⟨ks, ⟨es, c, hm, _⟩, _⟩ := h.map
  constructor
  · rintro b hb rfl
    have ht := h.t
    simp only [List.mem_cons] at hb
    rcases hb with hb | hb | hb | hb | hb | hb
    · have := h.mo; rw [← hb, ht] at this; simp at this
    · have := h.s; rw [← hb, ht] at this; simp at this
    · have := h.qb; rw [← hb, ht] at this; simp at this
    · have := h.q; rw [← hb, ht] at this; simp at this
    · rw [← hb, ht] at hm; simp at hm
    · obtain ⟨c, hc⟩ := hs.type w h.st _ hb; rw [ht] at hc; simp at hc
  · rintro b hb rfl
    simp only [List.mem_cons] at hb
    rcases hb with hb | hb | hb | hb | hb | hb
    · have := h.t; rw [← hb, hm] at this; simp at this
    · have := h.mo; rw [← hb, hm] at this; simp at this
    · have := h.s; rw [← hb, hm] at this; simp at this
    · have := h.qb; rw [← hb, hm] at this; simp at this
    · have := h.q; rw [← hb, hm] at this; simp at this
    · obtain ⟨c, hc⟩ := hs.type w h.st _ hb; rw [hm] at hc; simp at hc

/-- Behind the closure's append, in W2: what is as it was in W1. -/
theorem out_mid {B : Nat} {z : Spots} {l : List Key} {p : Key → Bool} {m : Int} {g : FuncId} {gcap : Array Value} {fo : List Nat} {st : World → Prop} {qv tv : Value} {j : Nat} {W1 W2 : World} {o : Obj} (hs : Such g gcap p fo st) (h : OutAt B z l p m g gcap fo st qv tv j W1)
    (hgrow : (W1.alloc o).grownBy W2 tv.ownBlock) : ∀ b, b ∈ z.T :: z.MO :: z.S :: z.QB :: z.Q :: z.M :: fo → W2.heap[b]? = W1.heap[b]? := by
  intro b hb
  have hlt : b < W1.heap.size := h.lt hs b (by simp only [ofp, List.mem_cons, List.mem_append] at hb ⊢; rcases hb with h | h | h | h | h | h | h <;> simp [h])
  exact (hgrow.block b (by simp; omega) (fun e => h.apart hs b hb e.symm)).trans (Below.heap_alloc _ _ _ hlt)

theorem out_last {B : Nat} {z : Spots} {l : List Key} {p : Key → Bool} {m : Int} {g : FuncId} {gcap : Array Value} {fo : List Nat} {st : World → Prop} {qv tv tv' : Value} {j : Nat} {w W W1 W2 W4 : World} {k : Key} {o : Obj} {ks : List Key} (hs : Such g gcap p fo st) (hj : j < l.length) (hk : l[j] = k)
    (hd : dl l p m j = true) (hw : Only [] w W) (hW : W.heap.size = w.heap.size + 1) (hb : Below W.heap.size W W1) (h : OutAt B z l p m g gcap fo st qv tv j W1) (hlt : ∀ b ∈ ofp z fo tv, b < w.heap.size)
    (hown : W2.ownsRow B 28 2 tv' ((tk l p m j).length + 1) (cs (tk l p m j) ++ kc k)) (hgrow : (W1.alloc o).grownBy W2 tv.ownBlock) (hat : tv.ownBlock = tv'.ownBlock ∨ tv'.ownBlock = some (W1.heap.size + 1))
    (hks : ∀ x, x ∈ ks ↔ x ∈ l ∧ x ∉ tk l p m j) (hm : HasKeys W4 z.M (ks.filter fun q => decide (q ≠ k))) (ho : Only [z.M] (W2.setCell ⟨z.T, 0, none⟩ tv') W4) :
    AskEnd (OutJ B z l p m g gcap fo st qv) (ofp z fo tv) j true w (.returned (.bool true)) W4 := by
  have mid := out_mid hs h hgrow
  obtain ⟨n1, n2⟩ := h.tne hs
  have e : tk l p m (j + 1) = tk l p m j ++ [k] := by rw [tk_succ l p m j hj, hd, hk]; simp
  have hsz : w.heap.size ≤ W1.heap.size := by have := hb.size; omega
  have t3 : (W2.setCell ⟨z.T, 0, none⟩ tv').heap[z.T]? = some (.cells #[tv'] 44 (0, 0)) := one_setCell ((mid z.T (by simp)).trans h.t)
  have lt4 : ∀ b, b < W2.heap.size → b ≠ z.M → W4.heap[b]? = (W2.setCell ⟨z.T, 0, none⟩ tv').heap[b]? := fun b hb hne => ho.block b (by simpa [World.setCell] using hb) (by simpa using hne)
  have same : ∀ b, b ∈ z.MO :: z.S :: z.QB :: z.Q :: fo → W4.heap[b]? = W1.heap[b]? := by
    intro b hb
    have hm1 : b ∈ z.T :: z.MO :: z.S :: z.QB :: z.Q :: z.M :: fo := by
      simp only [List.mem_cons] at hb ⊢
      rcases hb with h | h | h | h | h <;> simp [h]
    have hl1 : b < W1.heap.size := h.lt hs b (by simp only [ofp, List.mem_cons, List.mem_append] at hb ⊢; rcases hb with h | h | h | h | h <;> simp [h])
    have hl2 : b < W2.heap.size := by have := hgrow.size; simp at this; omega
    have ne1 : b ≠ z.T := n1 b (by simp only [List.mem_cons] at hb ⊢; rcases hb with h | h | h | h | h <;> simp [h])
    have ne2 : b ≠ z.M := n2 b (by simp only [List.mem_cons] at hb ⊢; rcases hb with h | h | h | h | h <;> simp [h])
    exact (lt4 b hl2 ne2).trans ((Below.heap_setCell _ _ _ _ ne1).trans (mid b hm1))
  have hown' : tv'.ownBlock = tv.ownBlock ∨ ∀ b, tv'.ownBlock = some b → w.heap.size ≤ b := by
    rcases hat with h1 | h1
    · exact .inl h1.symm
    · exact .inr (fun b hb => by rw [h1] at hb; have := Option.some.inj hb; omega)
  refine ⟨ofp z fo tv', rfl, ⟨tv', rfl, ⟨?_, (same _ (by simp)).trans h.mo, (same _ (by simp)).trans h.s, (same _ (by simp)).trans h.qb, (same _ (by simp)).trans h.q, ?_, ⟨_, hm, ?_⟩, ?_⟩⟩, ?_, ?_⟩
  · exact (lt4 z.T (lt_of_block ((mid z.T (by simp)).trans h.t)) (n2 _ (by simp))).trans t3
  · rw [e, cs_append]
    simp only [List.length_append, List.length_singleton]
    have hc : cs [k] = kc k := by simp [cs]
    rw [hc]
    refine ⟨hown.1, ?_⟩
    rcases hown.2 with ⟨_, h0⟩ | ⟨g', cap', cur', rfl, hg', hh, r⟩
    · omega
    · have ne1 : g' ≠ z.T := fun e => by subst e; rw [(mid z.T (by simp)).trans h.t] at hh; simp at hh
      have ne2 : g' ≠ z.M := fun e => by
        subst e
        obtain ⟨ks', ⟨es, c, hm', _⟩, _⟩ := h.map
        rw [(mid z.M (by simp)).trans hm'] at hh
        simp at hh
      exact .inr ⟨g', cap', cur', rfl, hg', (lt4 g' (lt_of_block hh) ne2).trans ((Below.heap_setCell _ _ _ _ ne1).trans hh), r⟩
  · intro x
    simp only [List.mem_filter, decide_eq_true_eq, hks, e, List.mem_append, List.mem_singleton, not_or, and_assoc]
  · exact hs.keep W1 W4 h.st (fun b hb => same b (by simp [hb]))
  · have o1 : Only (ofp z fo tv) w W1 := (hw.trans (Only.of_below (fp := []) hb (Nat.le_refl _)) (by simp)).mono (by simp)
    have o2 : Only (ofp z fo tv) w W2 := (o1.alloc o).grown hgrow (fun b hb => .inl (by simp [ofp, hb]))
    exact (o2.setCell (.inl (by simp [ofp])) _).trans ho (fun x hx => .inl (by simp at hx; simp [ofp, hx]))
  · intro x hx
    simp only [ofp, List.mem_cons, List.mem_append, Option.mem_toList] at hx ⊢
    rcases hx with h | h | h | h | h | h | h | h
    all_goals first | (simp [h]; done) | skip
    rcases hown' with h1 | h1
    · rw [h1] at h
      simp [h]
    · exact .inr (h1 x h)

set_option maxHeartbeats 400000 in
theorem out1_yes {B : Nat} {z : Spots} {l : List Key} {p : Key → Bool} {m : Int} {g : FuncId} {gcap : Array Value} {fo : List Nat} {st : World → Prop} {qv tv : Value} {j : Nat} {w : World} (hs : Such g gcap p fo st) (hj : j < l.length) (hl : l.length ≤ 64)
    (h : OutAt B z l p m g gcap fo st qv tv j w) (hfull : ((tk l p m j).length : Int) < m) (hp : p l[j] = true) (hB : B ≤ w.heap.size) :
    Calls Try.prog 24 #[.agg #[.int .i64 l[j].1, .int .i64 l[j].2], .pointer (some ⟨z.T, 0, none⟩), .pointer (some ⟨z.MO, 0, none⟩), .pointer (some ⟨z.S, 0, none⟩), .pointer (some ⟨z.QB, 0, none⟩)] w
      (AskEnd (OutJ B z l p m g gcap fo st qv) (ofp z fo tv) j (dl l p m j) w) := by
  obtain ⟨i0, hi, hz0, hz1, hz2⟩ := info_parts Key.info
  have hd : dl l p m j = true := by simp [dl, List.getElem?_eq_getElem hj, hp, hfull]
  have hn : (tk l p m j).length ≤ 64 := Nat.le_trans (tk_length l p m j) (by omega)
  obtain ⟨W, hW, bx⟩ := boxed w l[j].1 l[j].2
  have h1 : OutAt B z l p m g gcap fo st qv tv j W := h.only hs bx.only (by simp)
  have C := Lib.hid (hs.call l[j].1 l[j].2 W h1.st)
  obtain ⟨ad, cap, rfl, hc, hm⟩ := own_shape h1.row
  have c0 := cell_of_one h1.t
  have c1 := cell_of_one h1.mo
  have c2 := cell_of_one h1.s
  have b0 : W.cell? ⟨w.heap.size, 0, none⟩ = some (.int .i64 l[j].1) := by simp [World.cell?, bx.block]
  have b1 : W.cell? ⟨w.heap.size, 1, none⟩ = some (.int .i64 l[j].2) := by simp [World.cell?, bx.block]
  have able := hs.able
  have hp' : p (l[j].1, l[j].2) = true := hp
  rw [hp'] at C
  have H1 := Lib.hid h1
  have LT0 := Lib.hid (h.lt hs)
  have HS := Lib.hid hs
  have BX := Lib.hid bx
  have form := hs.form
  have HJ := Lib.hid hj
  have hbt := Lib.hid hd
  generalize hd1 : dl l p m j = b at *
  generalize htl : (tk l p m j).length = n at *
  clear h h1 bx hd hp hp' hs
  generalize hk : l[j] = k at *
  have HK := Lib.hid hk
  have HT := Lib.hid htl
  have HD := Lib.hid hd1
  clear hk htl hd1
  rcases form with rfl | ⟨x, rfl⟩
  all_goals
    go_enter Try.func24, Try.ntmps24
    go_wp2_with fail
    refine C.out.mono ?_
    rintro e W1 ⟨rfl, hb⟩
    clear C
    have H2 := H1.out.keep HS.out (fun b hbb => hb.block b (H1.out.lt HS.out b hbb))
    have HB2 := Lib.hid hb
    have t1 := cell_of_one H2.t
    have d0 : W1.cell? ⟨w.heap.size, 0, none⟩ = some (.int .i64 k.1) := (hb.cell (p := ⟨w.heap.size, 0, none⟩) (by have := BX.out.size; show w.heap.size < _; omega)).trans b0
    have d1 : W1.cell? ⟨w.heap.size, 1, none⟩ = some (.int .i64 k.2) := (hb.cell (p := ⟨w.heap.size, 1, none⟩) (by have := BX.out.size; show w.heap.size < _; omega)).trans b1
    have box1 := Lib.hid ((hb.block w.heap.size (by have := BX.out.size; omega)).trans BX.out.block)
    have HO : Hid (W1.ownsRow B 28 2 (.slice ad n cap) n (cs (tk l p m j))) := Lib.hid (by have := H2.row; rw [HT.out] at this; exact this)
    have HH := Lib.hid H2
    have hBs : B ≤ W1.heap.size := by have := hb.size; have := BX.out.size; omega
    clear hb H2 c0 c1 c2 b0 b1 able hW
    go_wp2_with (at_builtin; refine wpList_append_lies _ rfl (.tmp 17) (.tmp 19) 44 rfl B 28 i0 (.agg #[.int .i64 0, .int .i64 0]) 2 16 Try.underlying44 hi hz0 hz1 hz2 rfl (by decide) (.slice ad n cap) n (cs (tk l p m j)) rfl (HO.out.alloc _) ⟨W1.heap.size, 0, none⟩ 1 1 [.int .i64 k.1, .int .i64 k.2] rfl rfl (fun j u hj => news2 W1 k.1 k.2 j u hj) (one2 k.1 k.2) (by decide) (by unfold maxLen; omega) (by omega) (by simp; omega) (W1.heap.size + 1) (by simp) ?_; intro g' cap' W2 hown hgrow hat hlt; have x1 := out_mid HS.out HH.out hgrow; have t2 := cell_of_one ((x1 z.T (by simp)).trans HH.out.t); have t3 := free_of_one ((x1 z.T (by simp)).trans HH.out.t); clear x1)
    clear t1 t2 t3 d0 d1
    have mid := out_mid HS.out HH.out hgrow
    obtain ⟨n1, n2⟩ := HH.out.tne HS.out
    have bx2 : W2.heap[w.heap.size]? = some (.cells #[.int .i64 k.1, .int .i64 k.2] 28 (0, 0)) := by
      have hsz := lt_of_block box1.out
      refine (hgrow.block _ (by simp; omega) (fun e => ?_)).trans ((Below.heap_alloc _ _ _ hsz).trans box1.out)
      have := LT0.out w.heap.size (by simp [ofp, ← e])
      omega
    have hTw : z.T < w.heap.size := LT0.out z.T (by simp [ofp])
    obtain ⟨ks, hks, hksm⟩ := HH.out.map
    have e0 : (W2.setCell ⟨z.T, 0, none⟩ (.slice (some ⟨g', 0, none⟩) (n + 1) cap')).cell? ⟨z.QB, 0, none⟩ = some (.pointer (some ⟨z.Q, 0, none⟩)) :=
      cell_of_one ((Below.heap_setCell _ _ _ _ (n1 _ (by simp))).trans ((mid _ (by simp)).trans HH.out.qb))
    have e1 : (W2.setCell ⟨z.T, 0, none⟩ (.slice (some ⟨g', 0, none⟩) (n + 1) cap')).cell? ⟨z.Q, 1, none⟩ = some (.map (some z.M)) := by
      have : (W2.setCell ⟨z.T, 0, none⟩ (.slice (some ⟨g', 0, none⟩) (n + 1) cap')).heap[z.Q]? = _ := (Below.heap_setCell _ _ _ _ (n1 _ (by simp))).trans ((mid _ (by simp)).trans HH.out.q)
      simp [World.cell?, this]
    have bx3 : (W2.setCell ⟨z.T, 0, none⟩ (.slice (some ⟨g', 0, none⟩) (n + 1) cap')).heap[w.heap.size]? = _ := (Below.heap_setCell _ _ _ _ (by show w.heap.size ≠ z.T; omega)).trans bx2
    have e2 : (W2.setCell ⟨z.T, 0, none⟩ (.slice (some ⟨g', 0, none⟩) (n + 1) cap')).cell? ⟨w.heap.size, 0, none⟩ = some (.int .i64 k.1) := by simp [World.cell?, bx3]
    have e3 : (W2.setCell ⟨z.T, 0, none⟩ (.slice (some ⟨g', 0, none⟩) (n + 1) cap')).cell? ⟨w.heap.size, 1, none⟩ = some (.int .i64 k.2) := by simp [World.cell?, bx3]
    obtain ⟨W4, hdel, hm4, ho4, _⟩ := HasKeys.drop (w := (W2.setCell ⟨z.T, 0, none⟩ (.slice (some ⟨g', 0, none⟩) (n + 1) cap')).drew) (M := z.M) (ks := ks) (hks.keep ((Below.heap_setCell _ _ _ _ (Ne.symm (n2 _ (by simp)))).trans (mid _ (by simp)))) k
    have hdel' : ∀ ty, (Builtin.delete_ #[48, 28] ty #[.map (some z.M), .agg #[.int .i64 k.1, .int .i64 k.2]]).run Try.prog (W2.setCell ⟨z.T, 0, none⟩ (.slice (some ⟨g', 0, none⟩) (n + 1) cap')).drew = .ok (.tuple #[]) W4 := hdel
    have R := Lib.hid (out_last HS.out HJ.out HK.out (by rw [HD.out, hbt.out]) (BX.out.only) BX.out.size HB2.out HH.out LT0.out (by rw [HT.out]; exact hown) hgrow (by rcases hat with h | h; exact .inl h; exact .inr (by rw [h]; rfl)) hksm hm4 ⟨ho4.os, ho4.tape, ho4.output, ho4.size, ho4.block⟩)
    clear mid n1 n2 bx2 bx3 hks hksm hdel hm4 ho4 hown hgrow hat hlt hTw
    generalize W2.setCell ⟨z.T, 0, none⟩ (.slice (some ⟨g', 0, none⟩) (n + 1) cap') = W3 at *
    go_region
    all_goals
      go_wp2
      go_ret
      have hb' := hbt.out
      subst hb'
      exact R.out
end Go.Proofs.Ytpanakfbbdeihaa
