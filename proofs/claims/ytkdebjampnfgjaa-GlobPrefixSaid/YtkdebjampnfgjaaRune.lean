/-
  PROVED: contracts of strings.Builder's 'copyCheck', 'WriteRune' and 'String' at this program's numbers. Conditions: each theorem's own premises.
-/
import Derived.Test.YtkdebjampnfgjaaLive
import Derived.Shelf.Strings.BuilderK
import Derived.Shelf.Strings.BuilderRune
namespace Go.Proofs.Ytkdebjampnfgjaa
open Go.RowKit Go.Shelf
set_option linter.unusedVariables false

/-- The numbers of 'AppendRune' and of what it calls, here. -/
def ren242 : Ren :=
  { f := fun x => match x with
      | 242 => 22
      | 278 => 24
      | n => n
    t := fun x => match x with
      | 37 => 37
      | 21 => 21
      | 51 => 50
      | 4 => 4
      | 5 => 5
      | 46 => 51
      | 72 => 39
      | n => n
    g := fun x => x }
theorem lays242 : Lays.n242 Try.prog ren242 :=
  { mixed := by kernel_rfl, f242 := Eq.trans Try.func22 (congrArg some (by kernel_rfl)), f278 := Eq.trans Try.func24 (congrArg some (by kernel_rfl)),
    t4 := Try.underlying4, a4 := Try.isAgg4, z4 := Try.sizeOf4, v4 := Try.zeroValue4, t5 := Try.underlying5, a5 := Try.isAgg5, z5 := Try.sizeOf5, v5 := Try.zeroValue5,
    t21 := Try.underlying21, a21 := Try.isAgg21, z21 := Try.sizeOf21, v21 := Try.zeroValue21, t37 := Try.underlying37, a37 := Try.isAgg37, z37 := Try.sizeOf37, v37 := Try.zeroValue37,
    t46 := Try.underlying51, a46 := Try.isAgg51, z46 := Try.sizeOf51, v46 := Try.zeroValue51, t51 := Try.underlying50, a51 := Try.isAgg50, z51 := Try.sizeOf50, v51 := Try.zeroValue50 }
theorem extra242 : Builder.Extra Try.prog ren242 :=
  { sizeBuilder := by kernel_rfl, liesBuilder := by kernel_rfl, t5 := Try.underlying5, a5 := Try.isAgg5, z5 := Try.sizeOf5, v5 := Try.zeroValue5,
    infoByte := by kernel_rfl, cellsByte := by kernel_rfl, sizeByte := by kernel_rfl, neB5 := by decide }

/-- The numbers of 'String', here. -/
def ren169 : Ren :=
  { f := fun x => match x with
      | 169 => 18
      | n => n
    t := fun x => match x with
      | 70 => 36
      | 9 => 9
      | 0 => 0
      | 72 => 39
      | 37 => 37
      | 127 => 46
      | 3 => 3
      | 5 => 5
      | n => n
    g := fun x => x }
theorem lays169 : Lays.n169 Try.prog ren169 :=
  { mixed := by kernel_rfl, f169 := Eq.trans Try.func18 (congrArg some (by kernel_rfl)),
    t0 := Try.underlying0, a0 := Try.isAgg0, z0 := Try.sizeOf0, v0 := Try.zeroValue0, t3 := Try.underlying3, a3 := Try.isAgg3, z3 := Try.sizeOf3, v3 := Try.zeroValue3,
    t9 := Try.underlying9, a9 := Try.isAgg9, z9 := Try.sizeOf9, v9 := Try.zeroValue9, t37 := Try.underlying37, a37 := Try.isAgg37, z37 := Try.sizeOf37, v37 := Try.zeroValue37,
    t70 := Try.underlying36, a70 := Try.isAgg36, z70 := Try.sizeOf36, v70 := Try.zeroValue36, t72 := Try.underlying39, a72 := Try.isAgg39, z72 := Try.sizeOf39, v72 := Try.zeroValue39,
    t127 := Try.underlying46, a127 := Try.isAgg46, z127 := Try.sizeOf46, v127 := Try.zeroValue46 }
theorem extra169 : Builder.Extra Try.prog ren169 :=
  { sizeBuilder := by kernel_rfl, liesBuilder := by kernel_rfl, t5 := Try.underlying5, a5 := Try.isAgg5, z5 := Try.sizeOf5, v5 := Try.zeroValue5,
    infoByte := by kernel_rfl, cellsByte := by kernel_rfl, sizeByte := by kernel_rfl, neB5 := by decide }

theorem string_any (B b : Nat) (l : List UInt8) (w : World) (h : Lib.IsBuilderF 39 5 B b (Lib.byteCells l) w) (hBw : B ≤ w.heap.size) :
    Calls Try.prog 18 #[.pointer (some ⟨b, 0, none⟩)] w fun e w' => e = .returned (.string ⟨l.toArray⟩) ∧ Below B w w' :=
  (Any.Builder_String_any_k lays169 extra169 B b l w h hBw).mono fun _ _ h => ⟨h.1, h.2.2.1⟩

theorem append_any (B : Nat) (v : Value) (n : Nat) (xs : List Value) (r : Int) (hr0 : -2147483648 ≤ r) (hr1 : r ≤ 2147483647) (w : World) (hown : w.ownsRowF B 5 1 v n xs) (hlen : n + 4 ≤ 140737488355328) (hBw : B ≤ w.heap.size) :
    Calls Try.prog 22 #[v, .int .i32 r] w fun e w' => ∃ v', e = .returned v' ∧ w'.ownsRowF B 5 1 v' (n + (Lib.runeCells r).length) (xs ++ Lib.runeCells r) ∧ ∃ o, (w.alloc o).grownBy w' v.ownBlock :=
  Any.utf8_AppendRune_own lays242 extra242 B v n xs r hr0 hr1 w hown hlen hBw

def CheckEnd (B b : Nat) (bs : List Value) (w : World) (e : Ending) (w' : World) : Prop :=
  e = .returned (.tuple #[]) ∧ Lib.BuilderAtF 39 5 B b (.pointer (some ⟨b, 0, none⟩)) bs w' ∧ Below B w w' ∧ Lib.OthersKept 5 (some b) w w'

set_option maxHeartbeats 1000000 in
theorem check_used (b : Nat) (w : World) (h0 : w.cell? ⟨b, 0, none⟩ = some (.pointer (some ⟨b, 0, none⟩))) : Calls Try.prog 21 #[.pointer (some ⟨b, 0, none⟩)] w fun e w' => e = .returned (.tuple #[]) ∧ w = w' := by
  obtain ⟨j, hj, _⟩ := Option.map_eq_some_iff.1 extra242.sizeBuilder
  have hj' : Try.prog.info? 39 = some j := hj
  go_enter Try.func21, Try.ntmps21
  go_wp2
  rw [Lib.run_neq_ptr_same w _ Try.underlying36 hj']
  go_wp2
  go_end0
  exact ⟨rfl, rfl⟩

set_option maxHeartbeats 1000000 in
theorem check_fresh (b : Nat) (w : World) (h0 : w.cell? ⟨b, 0, none⟩ = some (.pointer none)) (hsh : w.shape? b = some (39, 2)) (hfz : w.frozen? ⟨b, 0, none⟩ = false) :
    Calls Try.prog 21 #[.pointer (some ⟨b, 0, none⟩)] w fun e w' => e = .returned (.tuple #[]) ∧ w' = w.setCell ⟨b, 0, none⟩ (.pointer (some ⟨b, 0, none⟩)) := by
  obtain ⟨j, hj, hjs⟩ := Option.map_eq_some_iff.1 extra242.sizeBuilder
  have hj' : Try.prog.info? 39 = some j := hj
  go_enter Try.func21, Try.ntmps21
  go_wp2
  rw [Lib.run_to_unsafe w ⟨b, 0, none⟩ Try.underlying36 Try.underlying48 hj' (by rw [hjs]; decide) hsh (Nat.zero_lt_succ 1)]
  simp only [Result.andThen]
  rw [Oper.upon_value]
  go_wp2
  rw [run_callFunc_extern Try.func23 (by kernel_rfl) (by kernel_rfl) (by kernel_rfl) (e := Extern.AbiNoEscape.same) (by kernel_rfl)]
  rw [Lib.run_noEscape]
  simp only [Result.andThen]
  rw [Oper.upon_value]
  go_wp2
  rw [Lib.run_from_unsafe w ⟨b, 0, none⟩ Try.underlying48 Try.underlying36 hj' hsh extra242.liesBuilder]
  simp only [Result.andThen]
  rw [Oper.upon_value]
  go_wp2
  go_end0
  exact ⟨rfl, rfl⟩

theorem check_any (B b : Nat) (bs : List Value) (w : World) (h : Lib.IsBuilderF 39 5 B b bs w) : Calls Try.prog 21 #[.pointer (some ⟨b, 0, none⟩)] w (CheckEnd B b bs w) := by
  rcases h with h | h
  · refine (check_fresh b w h.cell0 h.shape h.frozen0).mono ?_
    rintro e w' ⟨rfl, rfl⟩
    exact ⟨rfl, h.used _, (Below.refl B w).setCell (p := ⟨b, 0, none⟩) h.1 _, (Lib.OthersKept.refl _ _ w).setCell ⟨b, 0, none⟩ rfl _⟩
  · refine (check_used b w h.cell0).mono ?_
    rintro e w' ⟨rfl, rfl⟩
    exact ⟨rfl, h, Below.refl B _, Lib.OthersKept.refl _ _ _⟩

def WriteEnd (B b : Nat) (bs : List Value) (r : Int) (w : World) (e : Ending) (w' : World) : Prop :=
  e = .returned (.tuple #[.int .i64 (Lib.runeCells r).length, .nilIface]) ∧ Lib.BuilderAtF 39 5 B b (.pointer (some ⟨b, 0, none⟩)) (bs ++ Lib.runeCells r) w' ∧ Below B w w' ∧ Lib.OthersKept 5 (some b) w w'

/-- A used builder behind what 'AppendRune' has done. -/
structure Grew (B b : Nat) (ao : Option Addr) (n cap g cap' : Nat) (bs : List Value) (w w2 : World) : Prop where
  hb : w2.heap[b]? = some (.cells #[.pointer (some ⟨b, 0, none⟩), .slice ao n cap] 39 (0, 0))
  own : w2.ownsRowF B 5 1 (.slice (some ⟨g, 0, none⟩) bs.length cap') bs.length bs
  below : Below B w w2
  kept : Lib.OthersKept 5 (some b) w w2
  le : B ≤ b

set_option maxHeartbeats 2000000 in
theorem write_any (B b : Nat) (bs : List Value) (r : Int) (hr0 : -2147483648 ≤ r) (hr1 : r ≤ 2147483647) (w : World) (h : Lib.IsBuilderF 39 5 B b bs w) (hlen : bs.length ≤ 2000) (hBw : B ≤ w.heap.size) :
    Calls Try.prog 19 #[.pointer (some ⟨b, 0, none⟩), .int .i32 r] w (WriteEnd B b bs r w) := by
  have hk4 := Lib.runeCells_le r
  have CK := Lib.hid (check_any B b bs w h)
  clear h
  go_enter Try.func19, Try.ntmps19
  go_wp2_with fail
  refine CK.out.mono ?_
  rintro e w1 ⟨rfl, h1, hb1, hk1⟩
  obtain ⟨hB, v, hbk, hown, hne⟩ := h1
  obtain ⟨ao, cap, rfl⟩ : ∃ ao cap, v = .slice ao bs.length cap := by
    rcases hown.2 with ⟨hv, h0⟩ | ⟨g, cap, cur, fz, hv, _⟩
    · exact ⟨none, 0, by rw [hv, h0]⟩
    · exact ⟨_, _, hv⟩
  have c1 : w1.cell? ⟨b, 1, none⟩ = some (.slice ao bs.length cap) := by rw [Lib.cell_of_heap hbk]; rfl
  have hs1 := hb1.size
  have A := Lib.hid (append_any B _ bs.length bs r hr0 hr1 w1 hown (by omega) (by omega))
  have G := Lib.hid (fun (w2 : World) (g cap' : Nat) (o : Obj) (hown' : w2.ownsRowF B 5 1 (.slice (some ⟨g, 0, none⟩) (bs.length + (Lib.runeCells r).length) cap') (bs.length + (Lib.runeCells r).length) (bs ++ Lib.runeCells r)) (hgrow : (w1.alloc o).grownBy w2 (Value.slice ao bs.length cap).ownBlock) => (show Grew B b ao bs.length cap g cap' (bs ++ Lib.runeCells r) w w2 from by
    have hlt : b < w1.heap.size := lt_of_block' hbk
    refine ⟨?_, by simpa using hown', (hb1.alloc (by omega) o).grown hgrow (by simp; omega) (fun k hk => (hown.lt k hk).1), (hk1.alloc o).grown hgrow (Lib.ownsRowF_kind (hown.alloc _)), hB⟩
    rw [hgrow.block b (by simp; omega) (fun e => hne e.symm), Lib.alloc_old w1 _ b hlt]
    exact hbk))
  clear hbk hown hne hb1 hk1 CK
  go_wp2_with fail
  refine A.out.mono ?_
  rintro e w2 ⟨v', rfl, hown', o, hgrow⟩
  obtain ⟨g, cap', rfl⟩ : ∃ g cap', v' = .slice (some ⟨g, 0, none⟩) (bs.length + (Lib.runeCells r).length) cap' := by
    rcases hown'.2 with ⟨_, h0⟩ | ⟨g, cap', cur, fz, hv, _⟩
    · omega
    · exact ⟨g, cap', hv⟩
  have GG := Lib.hid (G.out w2 g cap' o hown' hgrow)
  have d1 : w2.cell? ⟨b, 1, none⟩ = some (.slice ao bs.length cap) := by rw [Lib.cell_of_heap GG.out.hb]; rfl
  have f1 : w2.frozen? ⟨b, 1, none⟩ = false := Lib.frozen_of_heap GG.out.hb 1
  clear hown' hgrow A G c1
  go_wp2_with fail
  go_ret2
  refine ⟨?_, Lib.BuilderAtF.put (T := 39) (e := 5) hB GG.out.hb (bs' := bs ++ Lib.runeCells r) (by simpa using GG.out.own) (by decide), GG.out.below.setCell (p := ⟨b, 1, none⟩) hB _, GG.out.kept.setCell ⟨b, 1, none⟩ rfl _⟩
  have e : ((bs.length : Int) + ((Lib.runeCells r).length : Int) - (bs.length : Int)) = ((Lib.runeCells r).length : Int) := by omega
  simp [e]

end Go.Proofs.Ytkdebjampnfgjaa
