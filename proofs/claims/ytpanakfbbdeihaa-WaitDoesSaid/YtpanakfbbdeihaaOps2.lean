/-
  PROVED: contracts of the queue's 'Pop', 'Drop' and 'Batch'. Conditions: each theorem's own premises.
-/
import Derived.Test.YtpanakfbbdeihaaOps
namespace Go.Proofs.Ytpanakfbbdeihaa
open Go.RowKit
set_option linter.unusedVariables false

/-! ### What is taken, in plain words -/
theorem one_tk (k : Key) (r : List Key) (j : Nat) (hj : j ≤ r.length) : tk (k :: r) (fun _ => true) 1 (j + 1) = [k] := by
  induction j with
  | zero => simp [tk]
  | succ j ih =>
    rw [tk, ih (by omega)]
    cases (k :: r)[j + 1]? <;> simp
theorem one_dl (k : Key) (r : List Key) (j : Nat) (hj : j ≤ r.length) : dl (k :: r) (fun _ => true) 1 (j + 1) = false := by
  unfold dl
  cases h : (k :: r)[j + 1]? with
  | none => rfl
  | some x => simp [one_tk k r j hj]
theorem one_kp (k : Key) (r : List Key) (j : Nat) (hj : j ≤ r.length) : kp (k :: r) (dl (k :: r) (fun _ => true) 1) (j + 1) = r.take j := by
  induction j with
  | zero => simp [kp, dl, tk]
  | succ j ih =>
    rw [kp, ih (by omega), one_dl k r j (by omega), List.take_add_one]
    simp

/-- With room for all, all that are such. -/
theorem all_dl (l : List Key) (p : Key → Bool) (m : Int) (hm : (l.length : Int) ≤ m) (j : Nat) (hj : j < l.length) : dl l p m j = p l[j] := by
  have := tk_length l p m j
  have : ((tk l p m j).length : Int) < m := by omega
  simp [dl, List.getElem?_eq_getElem hj, this]
theorem all_tk (l : List Key) (p : Key → Bool) (m m' : Int) (hm : (l.length : Int) ≤ m) (hm' : (l.length : Int) ≤ m') (j : Nat) (hj : j ≤ l.length) : tk l p m j = tk l p m' j := by
  induction j with
  | zero => rfl
  | succ j ih => rw [tk_succ l p m j (by omega), tk_succ l p m' j (by omega), ih (by omega), all_dl l p m hm j (by omega), all_dl l p m' hm' j (by omega)]
theorem all_kp (l : List Key) (p : Key → Bool) (m m' : Int) (hm : (l.length : Int) ≤ m) (hm' : (l.length : Int) ≤ m') (j : Nat) (hj : j ≤ l.length) : kp l (dl l p m) j = kp l (dl l p m') j := by
  induction j with
  | zero => rfl
  | succ j ih => rw [kp, kp, ih (by omega), all_dl l p m hm j (by omega), all_dl l p m' hm' j (by omega)]

/-! ### Pop -/
def PopEnd (B : Nat) (w : World) (Q M : Nat) (v : Value) (ks : List Key) (e : Ending) (w' : World) : Prop :=
  ∃ v', e = .returned (.tuple #[.agg #[.int .i64 (ks.headD (0, 0)).1, .int .i64 (ks.headD (0, 0)).2], .bool (!ks.isEmpty)]) ∧ QAt B w' Q M v' ks.tail ∧ Only (qfp Q M v) w w' ∧ (v'.ownBlock = v.ownBlock ∨ v'.ownBlock = none)

theorem pop_none {B : Nat} {w : World} {Q M : Nat} {v : Value} (h : QAt B w Q M v []) : Calls Try.prog 10 #[.pointer (some ⟨Q, 0, none⟩)] w (PopEnd B w Q M v []) := by
  have h1 := h.alloc (.cells #[.int .i64 0, .int .i64 0] 28)
  have C := Lib.hid (len_any h1)
  have H1 := Lib.hid h1
  clear h h1
  go_enter Try.func10, Try.ntmps10
  go_wp2_with fail
  refine C.out.mono ?_
  rintro e w' ⟨rfl, rfl⟩
  go_wp2
  refine bodyPost_ret (v := .tuple #[.agg #[.int .i64 0, .int .i64 0], .bool false]) (by simp [results, Try.results10, go_sem]) rfl ⟨v, rfl, H1.out, (Only.refl _ w).alloc _, .inl rfl⟩

/-- A row of one key. -/
theorem own_one {w : World} {B : Nat} {tv : Value} {k : Key} (h : w.ownsRow B 28 2 tv 1 (kc k)) : ∃ g cap, tv = .slice (some ⟨g, 0, none⟩) 1 cap ∧ 1 ≤ cap ∧ w.cell? ⟨g, 0, none⟩ = some (.int .i64 k.1) ∧ w.cell? ⟨g, 1, none⟩ = some (.int .i64 k.2) := by
  have h0 := h
  obtain ⟨g, cap, rfl, _⟩ := h.form (by omega)
  have hc : 1 ≤ cap := by
    obtain ⟨a, c, e, h1, _⟩ := own_shape h0
    cases e
    exact h1
  refine ⟨g, cap, rfl, hc, ?_, ?_⟩
  · rw [h0.cellAt 0 (by omega)]; rfl
  · rw [h0.cellAt 1 (by omega)]; rfl

theorem pop_some {B : Nat} {w : World} {Q M : Nat} {v : Value} {k : Key} {r : List Key} (h : QAt B w Q M v (k :: r)) : Calls Try.prog 10 #[.pointer (some ⟨Q, 0, none⟩)] w (PopEnd B w Q M v (k :: r)) := by
  have h1 := h.alloc (.cells #[.int .i64 0, .int .i64 0] 28)
  have C := Lib.hid (len_any h1)
  have D := Lib.hid (out_any (m := 1) such20 h1 trivial (by simp))
  have H1 := Lib.hid h1
  have H := Lib.hid h
  have hln : ((r.length : Int) + 1 == 0) = false := by rw [beq_eq_false_iff_ne]; omega
  clear h h1
  go_enter Try.func10, Try.ntmps10
  go_wp2_with fail
  refine C.out.mono ?_
  rintro e w' ⟨rfl, rfl⟩
  go_wp2_with fail
  refine D.out.mono ?_
  rintro e w2 ⟨⟨tv, qv', rfl, hrow, hq, hown, hnew⟩, honly⟩
  rw [List.length_cons, one_tk k r r.length (Nat.le_refl _)] at hrow
  rw [List.length_cons, one_kp k r r.length (Nat.le_refl _), List.take_length] at hq
  obtain ⟨g, cap, rfl, hc, x0, x1⟩ := own_one (k := k) (by simpa [cs] using hrow)
  have bx : w2.heap[w.heap.size]? = some (.cells #[.int .i64 0, .int .i64 0] 28 (0, 0)) :=
    (honly.block w.heap.size (by simp) (fun hm => by
      have := (H.out.lt w.heap.size (by simpa using hm)).2
      omega)).trans (newest _ _)
  have y0 : w2.cell? ⟨w.heap.size, 0, none⟩ = some (.int .i64 0) := by simp [World.cell?, bx]
  have y1 : w2.cell? ⟨w.heap.size, 1, none⟩ = some (.int .i64 0) := by simp [World.cell?, bx]
  have z0 : w2.frozen? ⟨w.heap.size, 0, none⟩ = false := by simp [World.frozen?, bx]
  have z1 : w2.frozen? ⟨w.heap.size, 1, none⟩ = false := by simp [World.frozen?, bx]
  have fin : ∀ a b : Value, Hid (∃ v', QAt B ((w2.setCell ⟨w.heap.size, 0, none⟩ a).setCell ⟨w.heap.size, 1, none⟩ b) Q M v' r ∧ Only (qfp Q M v) w ((w2.setCell ⟨w.heap.size, 0, none⟩ a).setCell ⟨w.heap.size, 1, none⟩ b) ∧ (v'.ownBlock = v.ownBlock ∨ v'.ownBlock = none)) := fun a b => by
    refine Lib.hid ⟨qv', hq.keep (fun b hb => ?_), ?_, hown⟩
    · have hne : b ≠ w.heap.size := by
        have hq' : b ∈ qfp Q M v := by
          simp only [qfp, List.mem_cons, Option.mem_toList] at hb ⊢
          rcases hb with h | h | h
          · exact .inl h
          · exact .inr (.inl h)
          · rcases hown with e | e
            · exact .inr (.inr (e ▸ h))
            · rw [e] at h; cases h
        have := (H.out.lt b hq').2
        omega
      exact (Below.heap_setCell _ _ _ _ hne).trans (Below.heap_setCell _ _ _ _ hne)
    · exact ((((Only.refl (qfp Q M v) w).alloc _).trans honly (fun x hx => .inl (by simpa using hx))).setCell (.inr (Nat.le_refl _)) _).setCell (.inr (Nat.le_refl _)) _
  clear hrow hq hown hnew honly bx C D H1
  go_wp2
  obtain ⟨v', f1, f2, f3⟩ := (fin (.int .i64 k.1) (.int .i64 k.2)).out
  refine bodyPost_ret (v := .tuple #[.agg #[.int .i64 k.1, .int .i64 k.2], .bool true]) (by simp [results, Try.results10, go_sem, y0, y1]) rfl ⟨v', rfl, f1, f2, f3⟩

theorem pop_any {B : Nat} {w : World} {Q M : Nat} {v : Value} {ks : List Key} (h : QAt B w Q M v ks) : Calls Try.prog 10 #[.pointer (some ⟨Q, 0, none⟩)] w (PopEnd B w Q M v ks) := by
  cases ks with
  | nil => exact pop_none h
  | cons k r => exact pop_some h

/-- Keys of an object. -/
def ofo (o : Int) : Key → Bool := fun k => k.1 == o

def DropEnd (B : Nat) (w : World) (Q M : Nat) (v : Value) (ks : List Key) (o : Int) (e : Ending) (w' : World) : Prop :=
  ∃ v', e = .returned (.int .i64 (tk ks (ofo o) ks.length ks.length).length) ∧ QAt B w' Q M v' (kp ks (dl ks (ofo o) ks.length) ks.length) ∧ Only (qfp Q M v) w w' ∧ (v'.ownBlock = v.ownBlock ∨ v'.ownBlock = none)

theorem drop_any {B : Nat} {w : World} {Q M : Nat} {v : Value} {ks : List Key} (h : QAt B w Q M v ks) (o : Int) : Calls Try.prog 13 #[.pointer (some ⟨Q, 0, none⟩), .int .i64 o] w (DropEnd B w Q M v ks o) := by
  have hmf : ∀ (fn : Fn) (first cap : Array Value) (w : World), (Instr.makeFunc fn first cap).run Try.prog w = .ok (.func fn first cap) w := fun _ _ _ _ => rfl
  obtain ⟨W, hW⟩ : ∃ W, w.alloc (.cells #[.int .i64 o] 3) = W := ⟨_, rfl⟩
  have ow : Only [] w W := hW ▸ (Only.refl _ w).alloc _
  have h1 : QAt B W Q M v ks := h.only ow (by simp)
  have bx : W.heap[w.heap.size]? = some (.cells #[.int .i64 o] 3 (0, 0)) := hW ▸ newest _ _
  have C := Lib.hid (is_any h1)
  have D := Lib.hid (out_any (m := ks.length) (such21 w.heap.size o) h1 bx (fun b hb e => by
    simp at hb
    subst hb
    have := (h.lt w.heap.size (by simp [qfp, e])).2
    omega))
  obtain ⟨ad, cap, rfl, hc, hm⟩ := own_shape h.row
  have c0 : W.cell? ⟨Q, 0, none⟩ = some (.slice ad ks.length cap) := by simp [World.cell?, h1.q]
  have OW := Lib.hid ow
  have hl := h.len
  clear h h1 bx ow
  go_enter Try.func13, Try.ntmps13
  go_wp2_with fail
  refine C.out.mono ?_
  rintro e w' ⟨rfl, rfl⟩
  go_wp2_with fail
  refine D.out.mono ?_
  rintro e w2 ⟨⟨tv, qv', rfl, hrow, hq, hown, hnew⟩, honly⟩
  obtain ⟨a2, c2, rfl, hc2, _⟩ := own_shape hrow
  have Q2 := Lib.hid hq
  have O2 := Lib.hid honly
  have N2 := Lib.hid hown
  clear hrow hq honly hown hnew C D hW c0
  go_wp2
  go_ret
  exact ⟨qv', rfl, Q2.out, (OW.out.mono (fp' := qfp Q M (.slice ad ks.length cap)) (by simp)).trans O2.out (fun x hx => by
    simp only [List.mem_append, List.mem_singleton] at hx
    rcases hx with h | h
    · exact .inl h
    · exact .inr (by omega)), N2.out⟩

def BatchEnd (B : Nat) (w : World) (Q M : Nat) (v : Value) (ks : List Key) (m : Int) (e : Ending) (w' : World) : Prop :=
  ∃ tv v', e = .returned tv ∧ w'.ownsRow B 28 2 tv (tk ks (ofo (ks.headD (0, 0)).1) m ks.length).length (cs (tk ks (ofo (ks.headD (0, 0)).1) m ks.length)) ∧
    QAt B w' Q M v' (kp ks (dl ks (ofo (ks.headD (0, 0)).1) m) ks.length) ∧ Only (qfp Q M v) w w' ∧ (v'.ownBlock = v.ownBlock ∨ v'.ownBlock = none)

theorem batch_none {B : Nat} {w : World} {Q M : Nat} {v : Value} (h : QAt B w Q M v []) (m : Int) : Calls Try.prog 16 #[.pointer (some ⟨Q, 0, none⟩), .int .i64 m] w (BatchEnd B w Q M v [] m) := by
  have C := Lib.hid (len_any h)
  have H := Lib.hid h
  clear h
  go_enter Try.func16, Try.ntmps16
  go_wp2_with fail
  refine C.out.mono ?_
  rintro e w' ⟨rfl, rfl⟩
  go_wp2
  go_ret
  exact ⟨_, v, rfl, World.ownsRow_nil _ _ _ _, H.out, Only.refl _ _, .inl rfl⟩

theorem batch_some {B : Nat} {w : World} {Q M : Nat} {v : Value} {k : Key} {r : List Key} (h : QAt B w Q M v (k :: r)) (m : Int) : Calls Try.prog 16 #[.pointer (some ⟨Q, 0, none⟩), .int .i64 m] w (BatchEnd B w Q M v (k :: r) m) := by
  have hmf : ∀ (fn : Fn) (first cap : Array Value) (w : World), (Instr.makeFunc fn first cap).run Try.prog w = .ok (.func fn first cap) w := fun _ _ _ _ => rfl
  obtain ⟨W, hW⟩ : ∃ W, w.alloc (.cells #[.int .i64 k.1] 3) = W := ⟨_, rfl⟩
  have ow : Only [] w W := hW ▸ (Only.refl _ w).alloc _
  have h1 : QAt B W Q M v (k :: r) := h.only ow (by simp)
  have bx : W.heap[w.heap.size]? = some (.cells #[.int .i64 k.1] 3 (0, 0)) := hW ▸ newest _ _
  have C := Lib.hid (len_any h)
  have D := Lib.hid (out_any (m := m) (such22 w.heap.size k.1) h1 bx (fun b hb e => by
    simp at hb
    subst hb
    have := (h.lt w.heap.size (by simp [qfp, e])).2
    omega))
  obtain ⟨g, cap, rfl, _⟩ := h.row.form (by simp)
  have hrow := h.row
  have x0 : w.cell? ⟨g, 0, none⟩ = some (.int .i64 k.1) := by
    rw [hrow.cellAt 0 (by simp)]
    simp [cs, kc]
  have c0 : w.cell? ⟨Q, 0, none⟩ = some (.slice (some ⟨g, 0, none⟩) (k :: r).length cap) := by simp [World.cell?, h.q]
  have OW := Lib.hid ow
  have hln : ((r.length : Int) + 1 == 0) = false := by rw [beq_eq_false_iff_ne]; omega
  clear h h1 bx ow hrow
  go_enter Try.func16, Try.ntmps16
  go_wp2_with fail
  refine C.out.mono ?_
  rintro e w' ⟨rfl, rfl⟩
  go_wp2_with fail
  refine D.out.mono ?_
  rintro e w2 ⟨⟨tv, qv', rfl, hrow, hq, hown, hnew⟩, honly⟩
  have R2 := Lib.hid hrow
  have Q2 := Lib.hid hq
  have O2 := Lib.hid honly
  have N2 := Lib.hid hown
  clear hrow hq honly hown hnew C D hW c0
  go_wp2
  go_ret
  exact ⟨tv, qv', rfl, R2.out, Q2.out, (OW.out.mono (fp' := qfp Q M (.slice (some ⟨g, 0, none⟩) (k :: r).length cap)) (by simp)).trans O2.out (fun x hx => by
    simp only [List.mem_append, List.mem_singleton] at hx
    rcases hx with h | h
    · exact .inl h
    · exact .inr (by omega)), N2.out⟩

theorem batch_any {B : Nat} {w : World} {Q M : Nat} {v : Value} {ks : List Key} (h : QAt B w Q M v ks) (m : Int) : Calls Try.prog 16 #[.pointer (some ⟨Q, 0, none⟩), .int .i64 m] w (BatchEnd B w Q M v ks m) := by
  cases ks with
  | nil => exact batch_none h m
  | cons k r => exact batch_some h m
end Go.Proofs.Ytpanakfbbdeihaa
