/-
  Contracts of seisinref01.Has, With, All and of marks.All, for every argument.
-/
import Derived.Test.YtgegmoedgegkcaaDoorBase
namespace Go.Proofs.YtgegmoedgegkcaaDoor
open Go.RowKit

theorem has_ge {s : BitVec 64} {i : Nat} (h : 64 ≤ i) : has s i = false := by unfold has; exact BitVec.getLsbD_of_ge s i h

/-- seisinref01.Has -/
theorem c_refHas (s : BitVec 64) (i : Int) (w : World) : Calls Tryd.prog 99 #[.int .u64 (iv s), .int .i64 i] w fun e w' => e = .returned (.bool (decide (0 ≤ i) && has s i.toNat)) ∧ w = w' := by
  by_cases h0 : 0 ≤ i
  · by_cases h1 : i < 64
    · go_enter Tryd.func99, Tryd.ntmps99
      go_wp2
      go_ret
      exact ⟨by simp [h0], rfl⟩
    · have e : has s i.toNat = false := has_ge (by omega)
      have He := Lib.hid e
      clear e
      go_enter Tryd.func99, Tryd.ntmps99
      go_wp2
      go_ret
      exact ⟨ret_bool (by rw [He.out]), rfl⟩
  · go_enter Tryd.func99, Tryd.ntmps99
    go_wp2
    go_ret
    exact ⟨by rw [decide_eq_false (by omega)]; simp, rfl⟩

/-- A set and a number. -/
def wth (s : BitVec 64) (i : Int) : BitVec 64 := if 0 ≤ i ∧ i < 64 then s ||| 1#64 <<< i.toNat else s

theorem add_or (s : BitVec 64) (k : Nat) (h : has s k = false) : s + 1#64 <<< k = s ||| 1#64 <<< k := by
  apply BitVec.add_eq_or_of_and_eq_zero
  apply BitVec.eq_of_getLsbD_eq
  intro j hj
  unfold has at h
  simp only [BitVec.getLsbD_and, BitVec.getLsbD_shiftLeft, BitVec.getLsbD_zero, BitVec.getLsbD_one]
  by_cases e : j = k
  · subst e; simp [h]
  · by_cases hk : j < k
    · simp [hk]
    · simp; intros; omega

theorem or_has (s : BitVec 64) (k : Nat) (h : has s k = true) : s ||| 1#64 <<< k = s := by
  apply BitVec.eq_of_getLsbD_eq
  intro j hj
  unfold has at h
  simp only [BitVec.getLsbD_or, BitVec.getLsbD_shiftLeft, BitVec.getLsbD_one]
  by_cases e : j = k
  · subst e; simp [h]
  · by_cases hk : j < k
    · simp [hk]
    · simp; intros; omega

theorem c_refWith (s : BitVec 64) (i : Int) (w : World) : Calls Tryd.prog 97 #[.int .u64 (iv s), .int .i64 i] w fun e w' => e = .returned (.int .u64 (iv (wth s i))) ∧ w = w' := by
  by_cases h0 : 0 ≤ i
  · by_cases h1 : i < 64
    · have Hw := Lib.hid (show wth s i = s ||| 1#64 <<< i.toNat from if_pos ⟨h0, h1⟩)
      by_cases h2 : has s i.toNat = true
      · have Ho := Lib.hid (or_has s _ h2)
        go_enter Tryd.func97, Tryd.ntmps97
        go_wp2_with (go_at_call 99; refine (c_refHas _ _ _).mono ?_; rintro e w' ⟨rfl, rfl⟩)
        go_ret
        exact ⟨ret_set (by rw [Hw.out, Ho.out]), rfl⟩
      · have h3 : has s i.toNat = false := by simpa using h2
        have Ho := Lib.hid (add_or s _ h3)
        clear h2
        go_enter Tryd.func97, Tryd.ntmps97
        go_wp2_with (go_at_call 99; refine (c_refHas _ _ _).mono ?_; rintro e w' ⟨rfl, rfl⟩)
        go_ret
        exact ⟨ret_set (by rw [Hw.out, Ho.out]), rfl⟩
    · have e : has s i.toNat = false := has_ge (by omega)
      have Hw := Lib.hid (show wth s i = s from if_neg (by omega))
      go_enter Tryd.func97, Tryd.ntmps97
      go_wp2_with (go_at_call 99; refine (c_refHas _ _ _).mono ?_; rintro e w' ⟨rfl, rfl⟩)
      go_ret
      exact ⟨ret_set (by rw [Hw.out]), rfl⟩
  · have Hw := Lib.hid (show wth s i = s from if_neg (by omega))
    have h2 : decide (0 ≤ i) = false := by simpa using h0
    go_enter Tryd.func97, Tryd.ntmps97
    go_wp2_with (go_at_call 99; refine (c_refHas _ _ _).mono ?_; rintro e w' ⟨rfl, rfl⟩)
    go_ret
    exact ⟨ret_set (by rw [Hw.out]), rfl⟩

/-- marks.All -/
def mall (n : Int) : BitVec 64 := if n < 1 then 0#64 else if 64 ≤ n then BitVec.allOnes 64 else 1#64 <<< n.toNat - 1#64
theorem c_All (n : Int) (w : World) : Calls Tryd.prog 27 #[.int .i64 n] w fun e w' => e = .returned (.int .u64 (iv (mall n))) ∧ w = w' := by
  by_cases h0 : n < 1
  · have H := Lib.hid (show mall n = 0#64 from if_pos h0)
    go_enter Tryd.func27, Tryd.ntmps27
    go_wp2
    go_ret
    exact ⟨by rw [H.out]; rfl, rfl⟩
  · by_cases h1 : 64 ≤ n
    · have H := Lib.hid (show mall n = BitVec.allOnes 64 by unfold mall; rw [if_neg h0, if_pos h1])
      go_enter Tryd.func27, Tryd.ntmps27
      go_wp2
      go_ret
      exact ⟨by rw [H.out]; rfl, rfl⟩
    · have H := Lib.hid (show mall n = 1#64 <<< n.toNat - 1#64 by unfold mall; rw [if_neg h0, if_neg h1])
      go_enter Tryd.func27, Tryd.ntmps27
      go_wp2
      go_ret
      exact ⟨ret_set (by rw [H.out]), rfl⟩

/-- seisinref01.All -/
def rallUp (n : Int) : Nat → BitVec 64
  | 0 => 0#64
  | k + 1 => if (k : Int) < n then wth (rallUp n k) k else rallUp n k
theorem c_refAll (n : Int) (w : World) : Calls Tryd.prog 28 #[.int .i64 n] w fun e w' => e = .returned (.int .u64 (iv (rallUp n 64))) ∧ w = w' := by
  go_enter Tryd.func28, Tryd.ntmps28
  go_wp2
  go_loop [3, 4] (fun s i => ∃ k : Nat, k ≤ 64 ∧ i = .int .i64 k ∧ s = .int .u64 (iv (rallUp n k))) (fun _ i => 64 - (intOf i).toNat)
  case atStart => exact ⟨0, by omega, rfl, rfl⟩
  case round =>
    obtain ⟨k, hk, rfl, rfl⟩ := hrel
    have Hs := Lib.hid (show rallUp n (k + 1) = if (k : Int) < n then wth (rallUp n k) k else rallUp n k from rfl)
    by_cases hlt : k < 64
    · go_wp2_with (go_at_call 97; refine (c_refWith _ _ _).mono ?_; rintro e w' ⟨rfl, rfl⟩)
      all_goals
        go_round
        case rel => exact ⟨k + 1, by omega, by go_num, by rw [Hs.out]; first | rw [if_pos ‹_›] | rw [if_neg (by omega)]⟩
        case measure => simp [intOf]; omega
    · obtain rfl : k = 64 := by omega
      go_wp2
      go_ret
      exact ⟨rfl, rfl⟩
end Go.Proofs.YtgegmoedgegkcaaDoor
