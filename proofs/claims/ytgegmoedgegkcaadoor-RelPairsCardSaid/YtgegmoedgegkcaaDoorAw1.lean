/-
  The calls that seisinlaw01.awake makes, at their literals, if the library table is laid.
-/
import Derived.Test.YtgegmoedgegkcaaDoorRSub
namespace Go.Proofs.YtgegmoedgegkcaaDoor
open Go.RowKit

theorem SlAt.new (w : World) (cs : Array Value) (t : TypeId) : SlAt (w.alloc (.cells cs t)) (w.heap.size + 1) (some ⟨w.heap.size, 0, none⟩) cs.toList := by
  intro j x hx
  refine ⟨w.heap.size, 0, rfl, by omega, ?_⟩
  rw [Nat.zero_add]
  simp only [World.cell?, World.alloc_heap_new]
  simpa using hx
theorem SlAt.new' {w : World} {cs : Array Value} {t : TypeId} {n : Nat} (h : w.heap.size = n) : SlAt (w.alloc (.cells cs t)) (n + 1) (some ⟨n, 0, none⟩) cs.toList := by
  subst h; exact SlAt.new w cs t
theorem Tab.alloc {w : World} (h : Tab w) (o : Obj) : Tab (w.alloc o) := h.below ((Below.refl _ w).alloc (Nat.le_refl _) o)
theorem Tab.drewN {w : World} (h : Tab w) (n : Nat) : Tab (w.drewN n) := h

theorem c_is (n : Int) (w : World) : Calls Tryd.prog 96 #[.int .i64 n] w fun e w' =>
    e = .returned (.func (.func 127) #[] #[.pointer (some ⟨w.heap.size, 0, none⟩)]) ∧ w.alloc (.cells #[.int .i64 n] 3) = w' := by
  go_enter Tryd.func96, Tryd.ntmps96
  go_wp2
  go_ret
  exact ⟨rfl, rfl⟩
theorem c_is' (n : Int) (w : World) : Calls Tryd.prog 96 #[.int .i64 n] w fun e w' =>
    ∃ b, e = .returned (.func (.func 127) #[] #[.pointer (some ⟨b, 0, none⟩)]) ∧ w'.cell? ⟨b, 0, none⟩ = some (.int .i64 n) ∧ b < w'.heap.size ∧ Below w.heap.size w w' := by
  refine (c_is n w).mono ?_
  rintro e w' ⟨rfl, rfl⟩
  exact ⟨_, rfl, by simp [go_sem], by simp, (Below.refl _ w).alloc (Nat.le_refl _) _⟩
theorem c_is_yes (b : Nat) (n : Int) (h0 : 0 ≤ n) (w : World) (hc : w.cell? ⟨b, 0, none⟩ = some (.int .i64 n)) :
    Calls Tryd.prog 127 #[.int .i64 n, .bool true, .pointer (some ⟨b, 0, none⟩)] w fun e w' => e = .returned (.bool true) ∧ w = w' := by
  go_enter Tryd.func127, Tryd.ntmps127
  go_wp2
  go_ret
  exact ⟨rfl, rfl⟩
theorem c_is_no (b : Nat) (n : Int) (h0 : n < 0) (w : World) (hc : w.cell? ⟨b, 0, none⟩ = some (.int .i64 n)) :
    Calls Tryd.prog 127 #[.int .i64 0, .bool false, .pointer (some ⟨b, 0, none⟩)] w fun e w' => e = .returned (.bool true) ∧ w = w' := by
  have hd : decide (0 ≤ n) = false := by simp; omega
  go_enter Tryd.func127, Tryd.ntmps127
  go_wp2
  go_ret
  exact ⟨rfl, rfl⟩

/-- A step of a chain of calls. -/
theorem Below.chain {w a b : World} (h : Below w.heap.size w a) (k : Below a.heap.size a b) : Below w.heap.size w b := h.trans (k.mono h.size)

/-! The calls of 'awake', at their literals. -/
theorem a_Of1 (b : Nat) (w : World) (N : Nat) (hx : SlAt w N (some ⟨b, 0, none⟩) (vi [5, 1, 5])) : Calls Tryd.prog 25 #[.slice (some ⟨b, 0, none⟩) 3 3] w fun e w' => e = .returned (.tuple #[.int .u64 34, .int .i64 0]) ∧ w = w' :=
  c_Of _ 3 3 [5, 1, 5] w N rfl (by decide) hx
theorem a_Of2 (b : Nat) (w : World) (N : Nat) (hx : SlAt w N (some ⟨b, 0, none⟩) (vi [64])) : Calls Tryd.prog 25 #[.slice (some ⟨b, 0, none⟩) 1 1] w fun e w' => e = .returned (.tuple #[.int .u64 0, .int .i64 2]) ∧ w = w' :=
  c_Of _ 1 1 [64] w N rfl (by decide) hx
theorem msubs_a : msubs 34#64 4 = ([0#64, 2#64, 32#64, 34#64], 0) := by decide +kernel
theorem msubs_b : msubs 34#64 3 = ([], 5) := by decide +kernel
theorem a_Subsets1 (w : World) (hT : Tab w) : Calls Tryd.prog 40 #[.int .u64 34, .int .i64 4] w fun e w' =>
    ∃ ad c, e = .returned (.tuple #[.slice ad 4 c, .int .i64 0]) ∧ SlAt w' w'.heap.size ad (vs [0#64, 2#64, 32#64, 34#64]) ∧ Below w.heap.size w w' := by
  have h := c_Subsets 34#64 4 w hT
  rw [msubs_a] at h
  refine h.mono fun e w' ⟨v, he, ho, hb⟩ => ?_
  obtain ⟨ad, c, rfl, hs⟩ := SlAt.of_owns ho
  exact ⟨ad, c, he, hs, hb⟩
theorem a_Subsets2 (w : World) (hT : Tab w) : Calls Tryd.prog 40 #[.int .u64 34, .int .i64 3] w fun e w' =>
    ∃ v, e = .returned (.tuple #[v, .int .i64 5]) ∧ Below w.heap.size w w' := by
  have h := c_Subsets 34#64 3 w hT
  rw [msubs_b] at h
  exact h.mono fun e w' ⟨v, he, ho, hb⟩ => ⟨v, he, hb⟩
theorem a_Sets (ad bd : Option Addr) (ca cb : Nat) (w : World) (N : Nat) (hx : SlAt w N ad (vs [0#64, 2#64, 32#64, 34#64])) (hy : SlAt w N bd (vs [0#64, 2#64, 32#64, 34#64])) :
    Calls Tryd.prog 42 #[.slice ad 4 ca, .slice bd 4 cb] w fun e w' => e = .returned (.bool true) ∧ ∃ k, w' = w.drewN k :=
  c_Sets ad bd 4 4 ca cb _ _ w N rfl rfl (by decide) hx hy
theorem a_All1 (w : World) : Calls Tryd.prog 27 #[.int .i64 3] w fun e w' => e = .returned (.int .u64 7) ∧ w = w' := c_All 3 w
theorem a_List (w : World) (hT : Tab w) : Calls Tryd.prog 30 #[.int .u64 7] w fun e w' => ∃ ad c, e = .returned (.slice ad 3 c) ∧ SlAt w' w'.heap.size ad (vi [0, 1, 2]) ∧ Below w.heap.size w w' := by
  have h := c_List 7#64 w hT
  rw [show Mk.elems 7#64 = [0, 1, 2] by decide +kernel] at h
  refine h.mono fun e w' ⟨v, he, ho, hb⟩ => ?_
  obtain ⟨ad, c, rfl, hs⟩ := SlAt.of_owns ho
  exact ⟨ad, c, he, hs, hb⟩
theorem a_Ints (ad bd : Option Addr) (ca cb : Nat) (w : World) (N : Nat) (hx : SlAt w N ad (vi [0, 1, 2])) (hy : SlAt w N bd (vi [0, 1, 2])) :
    Calls Tryd.prog 29 #[.slice ad 3 ca, .slice bd 3 cb] w fun e w' => e = .returned (.bool true) ∧ ∃ k, w' = w.drewN k :=
  c_Ints ad bd 3 3 ca cb _ _ w N rfl rfl (by decide) hx hy
theorem a_All2 (w : World) : Calls Tryd.prog 27 #[.int .i64 (-1)] w fun e w' => e = .returned (.int .u64 0) ∧ w = w' := c_All (-1) w
theorem a_First (w : World) (hT : Tab w) : Calls Tryd.prog 35 #[.int .u64 34] w fun e w' => e = .returned (.tuple #[.int .i64 1, .bool true]) ∧ Below w.heap.size w w' := by
  have h := c_First 34#64 w hT
  rw [show Mk.elems 34#64 = [1, 5] by decide +kernel] at h
  exact h
theorem a_Next1 (w : World) (hT : Tab w) : Calls Tryd.prog 37 #[.int .u64 34, .int .i64 1] w fun e w' => e = .returned (.tuple #[.int .i64 5, .bool true]) ∧ Below w.heap.size w w' := by
  have h := c_Next 34#64 1 w hT
  rw [show mnext 34#64 1 = some 5 by decide +kernel] at h
  exact h
theorem a_Next2 (w : World) (hT : Tab w) : Calls Tryd.prog 37 #[.int .u64 34, .int .i64 (-9)] w fun e w' => e = .returned (.tuple #[.int .i64 1, .bool true]) ∧ Below w.heap.size w w' := by
  have h := c_Next 34#64 (-9) w hT
  rw [show mnext 34#64 (-9) = some 1 by decide +kernel] at h
  exact h
theorem a_Next3 (w : World) (hT : Tab w) : Calls Tryd.prog 37 #[.int .u64 34, .int .i64 5] w fun e w' => e = .returned (.tuple #[.int .i64 0, .bool false]) ∧ Below w.heap.size w w' := by
  have h := c_Next 34#64 5 w hT
  rw [show mnext 34#64 5 = none by decide +kernel] at h
  exact h
theorem a_Pick (w : World) (hT : Tab w) : Calls Tryd.prog 38 #[.int .u64 34, .int .i64 1] w fun e w' => e = .returned (.tuple #[.int .i64 5, .bool true]) ∧ Below w.heap.size w w' := by
  have h := c_Pick 34#64 1 w hT (by decide) (by decide)
  rw [show mpick 34#64 1 = some 5 by decide +kernel] at h
  exact h
theorem a_Rank1 (w : World) (hT : Tab w) : Calls Tryd.prog 33 #[.int .u64 34, .int .i64 5] w fun e w' => e = .returned (.int .i64 1) ∧ Below w.heap.size w w' := by
  have h := c_Rank 34#64 5 w hT
  rw [show mrank 34#64 5 = 1 by decide +kernel] at h
  exact h
theorem a_Rank2 (w : World) (hT : Tab w) : Calls Tryd.prog 33 #[.int .u64 34, .int .i64 99] w fun e w' => e = .returned (.int .i64 2) ∧ Below w.heap.size w w' := by
  have h := c_Rank 34#64 99 w hT
  rw [show mrank 34#64 99 = 2 by decide +kernel] at h
  exact h
end Go.Proofs.YtgegmoedgegkcaaDoor
