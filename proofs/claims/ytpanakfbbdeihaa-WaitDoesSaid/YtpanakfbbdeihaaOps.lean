/-
  PROVED: contracts of the queue's 'Pop', 'Drop' and 'Batch'. Conditions: each theorem's own premises.
-/
import Derived.Test.YtpanakfbbdeihaaOut2
namespace Go.Proofs.Ytpanakfbbdeihaa
open Go.RowKit
set_option linter.unusedVariables false

theorem out_nil_fin {B : Nat} {w X : World} {Q M : Nat} {v : Value} {p : Key → Bool} {m : Int} {fo : List Nat} (h : QAt B w Q M (.slice none 0 0) []) (o4 : Only [] w X) :
    OutEnd B w Q M (.slice none 0 0) [] p m fo (.returned (.slice none 0 0)) (X.drew.setCell ⟨Q, 0, none⟩ (.slice none 0 0)) := by
  have hX : QAt B X Q M (.slice none 0 0) [] := h.only o4 (by simp)
  have hlt := lt_of_block hX.q
  refine ⟨⟨.slice none 0 0, .slice none 0 0, rfl, World.ownsRow_nil _ _ _ _, ⟨?_, World.ownsRow_nil _ _ _ _, ?_, h.bq, h.bm, by simp [kp], by simp [kp]⟩, .inl rfl, fun b hb => by cases hb⟩, ?_⟩
  · have h' : X.heap[Q] = .cells #[.slice none 0 0, .map (some M)] 50 (0, 0) := by simpa [Array.getElem?_eq_getElem hlt] using hX.q
    show (X.heap.modify Q _)[Q]? = _
    rw [Array.getElem?_eq_getElem (by simpa using hlt), Array.getElem_modify_self, h']
    rfl
  · exact hX.map.keep (Below.heap_setCell _ _ _ _ (Ne.symm hX.apart.2.2))
  · exact (((o4.drew).mono (fp' := Q :: []) (by simp)).setCell (.inl (by simp)) _).mono (fun x hx => .inl (by simp at hx; simp [qfp, hx]))

set_option maxHeartbeats 1000000 in
theorem out_nil {B : Nat} {w : World} {Q M : Nat} {p : Key → Bool} {m : Int} {g : FuncId} {gcap : Array Value} {fo : List Nat} (h : QAt B w Q M (.slice none 0 0) []) :
    Calls Try.prog 19 #[.pointer (some ⟨Q, 0, none⟩), .int .i64 m, .func (.func g) #[] gcap] w (OutEnd B w Q M (.slice none 0 0) [] p m fo) := by
  have hmf : ∀ (fn : Fn) (first cap : Array Value) (w : World), (Instr.makeFunc fn first cap).run Try.prog w = .ok (.func fn first cap) w := fun _ _ _ _ => rfl
  obtain ⟨X, hX⟩ : ∃ X, W4 w Q m g gcap = X := ⟨_, rfl⟩
  have o4 : Only [] w X := hX ▸ W4_only w Q m g gcap
  have hX' : (((w.alloc (.cells #[.pointer (some ⟨Q, 0, none⟩)] 24)).alloc (.cells #[.int .i64 m] 3)).alloc (.cells #[.func (.func g) #[] gcap] 26)).alloc (.cells #[.slice none 0 0] 44) = X := hX
  have qX : QAt B X Q M (.slice none 0 0) [] := h.only o4 (by simp)
  have hQ : Q < w.heap.size := lt_of_block h.q
  have x0 : X.cell? ⟨w.heap.size, 0, none⟩ = some (.pointer (some ⟨Q, 0, none⟩)) := by
    have := newest w (.cells #[.pointer (some ⟨Q, 0, none⟩)] 24)
    have : X.heap[w.heap.size]? = some (.cells #[.pointer (some ⟨Q, 0, none⟩)] 24 (0, 0)) := by
      rw [← hX']
      exact ((Below.heap_alloc _ _ _ (by simp; omega)).trans ((Below.heap_alloc _ _ _ (by simp; omega)).trans ((Below.heap_alloc _ _ _ (by simp)).trans this)))
    exact cell_of_one this
  have x1 : X.cell? ⟨w.heap.size + 1 + 1 + 1, 0, none⟩ = some (.slice none 0 0) := by
    have := newest (((w.alloc (.cells #[.pointer (some ⟨Q, 0, none⟩)] 24)).alloc (.cells #[.int .i64 m] 3)).alloc (.cells #[.func (.func g) #[] gcap] 26)) (.cells #[.slice none 0 0] 44)
    rw [hX'] at this
    exact cell_of_one (by simpa using this)
  have x2 : X.cell? ⟨Q, 0, none⟩ = some (.slice none 0 0) := by simp [World.cell?, qX.q]
  have x3 : X.frozen? ⟨Q, 0, none⟩ = false := by simp [World.frozen?, qX.q]
  have E := Lib.hid (out_nil_fin (v := .slice none 0 0) (p := p) (m := m) (fo := fo) h o4)
  clear hX o4 qX h
  go_enter Try.func19, Try.ntmps19
  go_wp2_with fail
  clear hX'
  go_region_with (go_at_call 23; refine (del_nil _ _).mono ?_; rintro e w2 ⟨rfl, rfl⟩)
  all_goals
    go_wp2
    go_ret
    exact E.out

theorem out_any {B : Nat} {w : World} {Q M : Nat} {v : Value} {ks : List Key} {p : Key → Bool} {m : Int} {g : FuncId} {gcap : Array Value} {fo : List Nat} {st : World → Prop} (hs : Such g gcap p fo st) (h : QAt B w Q M v ks) (hst : st w)
    (hfo : ∀ b ∈ fo, v.ownBlock ≠ some b) : Calls Try.prog 19 #[.pointer (some ⟨Q, 0, none⟩), .int .i64 m, .func (.func g) #[] gcap] w (OutEnd B w Q M v ks p m fo) := by
  rcases h.row.2 with ⟨rfl, h0⟩ | ⟨R, cap, cur, rfl, _⟩
  · obtain rfl : ks = [] := List.length_eq_zero_iff.1 h0
    exact out_nil h
  · exact out_row hs h hst (fun hm => hfo R hm rfl)

/-! ### The closures that tell which are such -/

theorem able_of (g : FuncId) (h : ∀ (args : Array Value) (w : World), Sem.run Try.prog (callFunc g args) w = .ok (.enter g args) w) : ∀ (args : Array Value) (w : World), Sem.run Try.prog (callFunc g args) w = .ok (.enter g args) w := h

theorem such20 : Such 20 #[] (fun _ => true) [] (fun _ => True) where
  form := .inl rfl
  able := fun _ _ => by kernel_rfl
  call := by
    intro a b w _
    show Calls Try.prog 20 #[.agg #[.int .i64 a, .int .i64 b]] w _
    go_enter Try.func20, Try.ntmps20
    go_wp2
    go_ret
    exact ⟨rfl, (Below.refl _ w).alloc (Nat.le_refl _) _⟩
  keep := fun _ _ _ _ => trivial
  lt := by simp
  type := by simp

theorem such21 (O : Nat) (o : Int) : Such 21 #[.pointer (some ⟨O, 0, none⟩)] (fun k => k.1 == o) [O] (fun w => w.heap[O]? = some (.cells #[.int .i64 o] 3 (0, 0))) where
  form := .inr ⟨_, rfl⟩
  able := fun _ _ => by kernel_rfl
  call := by
    intro a b w hO
    have c0 := cell_of_one hO
    have hlt := lt_of_block hO
    clear hO
    show Calls Try.prog 21 #[.agg #[.int .i64 a, .int .i64 b], .pointer (some ⟨O, 0, none⟩)] w _
    go_enter Try.func21, Try.ntmps21
    go_wp2
    go_ret
    exact ⟨rfl, (Below.refl _ w).alloc (Nat.le_refl _) _⟩
  keep := fun _ _ h hb => (hb O (by simp)).trans h
  lt := fun w h b hb => by simp at hb; subst hb; exact lt_of_block h
  type := fun w h b hb => by simp at hb; subst hb; exact ⟨_, h⟩

theorem such22 (O : Nat) (o : Int) : Such 22 #[.pointer (some ⟨O, 0, none⟩)] (fun k => k.1 == o) [O] (fun w => w.heap[O]? = some (.cells #[.int .i64 o] 3 (0, 0))) where
  form := .inr ⟨_, rfl⟩
  able := fun _ _ => by kernel_rfl
  call := by
    intro a b w hO
    have c0 := cell_of_one hO
    have hlt := lt_of_block hO
    clear hO
    show Calls Try.prog 22 #[.agg #[.int .i64 a, .int .i64 b], .pointer (some ⟨O, 0, none⟩)] w _
    go_enter Try.func22, Try.ntmps22
    go_wp2
    go_ret
    exact ⟨rfl, (Below.refl _ w).alloc (Nat.le_refl _) _⟩
  keep := fun _ _ h hb => (hb O (by simp)).trans h
  lt := fun w h b hb => by simp at hb; subst hb; exact lt_of_block h
  type := fun w h b hb => by simp at hb; subst hb; exact ⟨_, h⟩

end Go.Proofs.Ytpanakfbbdeihaa
