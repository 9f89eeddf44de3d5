/-
  PROVED: contracts of the library's 'IndexFunc' and 'ContainsFunc' and of the two closures that 'Take' hands them. Conditions: each theorem's own premises.
-/
import Derived.Test.YtfcifdddmcnjcaaMany
namespace Go.Proofs.Ytfcifdddmcnjcaa
open Go.RowKit
set_option linter.unusedVariables false

def slotV (s : Slot) : Value := .agg #[.bool s.t, .bool s.u, .int .i64 s.p]

set_option maxHeartbeats 1000000 in
theorem free22 (s : Slot) (w : World) : Calls Try.prog 22 #[slotV s] w fun e w' => e = .returned (.bool (!s.t)) ∧ Below w.heap.size w w' := by
  unfold slotV
  go_enter Try.func22, Try.ntmps22
  go_wp2
  go_ret
  exact ⟨rfl, (Below.refl _ _).alloc (Nat.le_refl _) _⟩
set_option maxHeartbeats 1000000 in
theorem open24 (s : Slot) (w : World) : Calls Try.prog 24 #[slotV s] w fun e w' => e = .returned (.bool (s.p == 0)) ∧ Below w.heap.size w w' := by
  unfold slotV
  go_enter Try.func24, Try.ntmps24
  go_wp2
  go_ret
  exact ⟨rfl, (Below.refl _ _).alloc (Nat.le_refl _) _⟩

def IdxIs (f : Nat → Slot) (pr : Slot → Bool) (n : Nat) (r : Int) : Prop :=
  (r = -1 ∧ ∀ k, k < n → pr (f k) = false) ∨ ∃ j : Nat, j < n ∧ r = j ∧ pr (f j) = true ∧ ∀ k, k < j → pr (f k) = false
def IdxEnd (w0 : World) (f : Nat → Slot) (pr : Slot → Bool) (n : Nat) (e : Ending) (w : World) : Prop := ∃ r, e = .returned (.int .i64 r) ∧ IdxIs f pr n r ∧ Below w0.heap.size w0 w
def IdxLoop (w0 : World) (f : Nat → Slot) (pr : Slot → Bool) (n : Nat) (v8 : Value) (w : World) : Prop := ∃ j : Nat, v8 = .int .i64 j ∧ j ≤ n ∧ (∀ k, k < j → pr (f k) = false) ∧ Below w0.heap.size w0 w

set_option maxHeartbeats 2000000 in
theorem index_any {w : World} {A n : Nat} {f : Nat → Slot} (g : FuncId) (pr : Slot → Bool) (hcall : ∀ s w, Calls Try.prog g #[slotV s] w fun e w' => e = .returned (.bool (pr s)) ∧ Below w.heap.size w w')
    (hable : ∀ (args : Array Value) (w : World), Sem.run Try.prog (callFunc g args) w = .ok (.enter g args) w) (hs : SlotsF w A f n) (hn : n ≤ 64) :
    Calls Try.prog 21 #[.slice (some ⟨A, 0, none⟩) n n, .func (.func g) #[] #[]] w (IdxEnd w f pr n) := by
  have HS := Lib.hid hs
  have HC := Lib.hid hcall
  have hA := hs.lt
  clear hs hcall
  go_enter Try.func21, Try.ntmps21
  go_wp2_with fail
  go_loopw [8] (fun v8 wr => IdxLoop w f pr n v8 wr) (fun v8 _ => n - (intOf v8).toNat)
  case atStart => exact ⟨0, rfl, Nat.zero_le _, fun k hk => absurd hk (Nat.not_lt_zero _), Below.refl _ _⟩
  case round =>
    obtain ⟨j, rfl, hj, hr, hb⟩ := hrel
    have HR := Lib.hid hr
    have HB := Lib.hid hb
    clear hr hb
    by_cases hlt : j < n
    · obtain ⟨x0, x1, x2⟩ := (HS.out.keep (HB.out.block A hA)).cell j hlt
      have hlt' : (j : Int) < n := by omega
      have C := Lib.hid (HC.out (f j) wr)
      go_wp2_with fail
      refine C.out.mono ?_
      rintro e w' ⟨rfl, hb2⟩
      have HB2 := Lib.hid (HB.out.trans (hb2.mono HB.out.size))
      clear hb2 x0 x1 x2 C
      cases hp : pr (f j) with
      | true =>
        go_wp2
        go_ret
        exact ⟨_, rfl, .inr ⟨j, hlt, rfl, hp, HR.out⟩, HB2.out⟩
      | false =>
        go_wp2
        go_roundw
        case rel => exact ⟨j + 1, by go_num, by omega, fun k hk => (by
          rcases Nat.lt_or_ge k j with h3 | h3
          · exact HR.out k h3
          · obtain rfl : k = j := by omega
            exact hp), HB2.out⟩
        case measure => simp [intOf]; omega
    · obtain rfl : j = n := by omega
      go_wp2
      go_ret
      exact ⟨_, rfl, .inl ⟨rfl, HR.out⟩, HB.out⟩

set_option maxHeartbeats 1000000 in
theorem contains_any {w : World} {A n : Nat} {f : Nat → Slot} (g : FuncId) (pr : Slot → Bool) (hcall : ∀ s w, Calls Try.prog g #[slotV s] w fun e w' => e = .returned (.bool (pr s)) ∧ Below w.heap.size w w')
    (hable : ∀ (args : Array Value) (w : World), Sem.run Try.prog (callFunc g args) w = .ok (.enter g args) w) (hs : SlotsF w A f n) (hn : n ≤ 64) :
    Calls Try.prog 23 #[.slice (some ⟨A, 0, none⟩) n n, .func (.func g) #[] #[]] w fun e w' => (∃ b, e = .returned (.bool b) ∧ (b = true ↔ ∃ j, j < n ∧ pr (f j) = true)) ∧ Below w.heap.size w w' := by
  have I := Lib.hid (index_any g pr hcall hable hs hn)
  clear hs hcall
  go_enter Try.func23, Try.ntmps23
  go_wp2_with fail
  refine I.out.mono ?_
  rintro e w' ⟨r, rfl, hr, hb⟩
  rcases hr with ⟨rfl, hno⟩ | ⟨j, hj, rfl, hp, _⟩
  · have HN := Lib.hid hno
    clear hno
    go_wp2
    go_ret
    exact ⟨⟨_, rfl, by simp; exact HN.out⟩, hb⟩
  · go_wp2
    go_ret
    exact ⟨⟨_, rfl, by simp; exact ⟨j, hj, hp⟩⟩, hb⟩

end Go.Proofs.Ytfcifdddmcnjcaa
