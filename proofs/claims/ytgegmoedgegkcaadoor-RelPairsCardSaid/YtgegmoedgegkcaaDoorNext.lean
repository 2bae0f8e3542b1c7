/-
  marks.Next, marks.Rank and the references Next, Rank, Pick, for every argument, if the library table is laid.
-/
import Derived.Test.YtgegmoedgegkcaaDoorRef
import Derived.Test.YtgegmoedgegkcaaDoorFirst
import Derived.Test.YtgegmoedgegkcaaDoorLen
import Derived.Test.YtgegmoedgegkcaaDoorPick
namespace Go.Proofs.YtgegmoedgegkcaaDoor
open Go.RowKit

theorem has_ext {s t : BitVec 64} (h : ∀ j, j < 64 → has s j = has t j) : s = t := BitVec.eq_of_getLsbD_eq h
theorem has_and (s t : BitVec 64) (j : Nat) : has (s &&& t) j = (has s j && has t j) := BitVec.getLsbD_and
theorem has_or (s t : BitVec 64) (j : Nat) : has (s ||| t) j = (has s j || has t j) := BitVec.getLsbD_or
theorem has_not (s : BitVec 64) (j : Nat) : has (~~~s) j = (decide (j < 64) && !has s j) := BitVec.getLsbD_not
theorem has_zero (j : Nat) : has 0#64 j = false := BitVec.getLsbD_zero
theorem has_one (k j : Nat) (hk : k < 64) : has (1#64 <<< k) j = decide (j = k) := by
  unfold has
  rw [BitVec.getLsbD_shiftLeft, BitVec.getLsbD_one]
  by_cases h : j = k
  · subst h; simp [hk]
  · by_cases h2 : j < k
    · simp [h2, h]
    · simp [h]; intros; omega
theorem has_mall (n : Int) (j : Nat) : has (mall n) j = (decide (j < 64) && decide ((j : Int) < n)) := by
  unfold mall
  split
  · rw [has_zero, decide_eq_false (p := (j : Int) < n) (by omega), Bool.and_false]
  · split
    · unfold has
      rw [BitVec.getLsbD_allOnes]
      by_cases h : j < 64
      · rw [decide_eq_true (p := (j : Int) < n) (by omega), Bool.and_true]
      · rw [decide_eq_false h, Bool.false_and]
    · unfold has
      by_cases h : j < 64
      · rw [← BitVec.testBit_toNat, BitVec.toNat_sub, BitVec.toNat_shiftLeft, Nat.shiftLeft_eq]
        have h1 : (1#64).toNat = 1 := rfl
        have h2 : 2 ^ n.toNat < 2 ^ 64 := Nat.pow_lt_pow_right (by omega) (by omega)
        have h3 : 0 < 2 ^ n.toNat := Nat.two_pow_pos _
        rw [h1, Nat.one_mul, Nat.mod_eq_of_lt h2, show (2 ^ 64 - 1 + 2 ^ n.toNat) % 2 ^ 64 = 2 ^ n.toNat - 1 by omega, Nat.testBit_two_pow_sub_one, decide_eq_true h, Bool.true_and]
        congr 1; apply propext; omega
      · rw [BitVec.getLsbD_of_ge _ _ (by omega), decide_eq_false h, Bool.false_and]
theorem elems_and (s t : BitVec 64) : Mk.elems (s &&& t) = (Mk.elems s).filter (fun i => has t i) := by
  unfold Mk.elems
  rw [List.filter_filter]
  congr 1
  funext i
  have := has_and s t i
  unfold has at this ⊢
  rw [this, Bool.and_comm]

/-- The least element above a number. -/
def mnext (s : BitVec 64) (i : Int) : Option Nat := (Mk.elems s).find? (fun (x : Nat) => decide (i < (x : Int)))
theorem mnext_some {s : BitVec 64} {i : Int} {k : Nat} (hk : k < 64) (h1 : i < k) (h2 : has s k = true) (h3 : ∀ j : Nat, j < k → ¬ (i < j ∧ has s j = true)) : mnext s i = some k := by
  unfold mnext Mk.elems
  rw [List.find?_filter, List.find?_range_eq_some]
  unfold has at h2 h3
  refine ⟨by simp [h1, h2], by simpa using hk, fun j hj => ?_⟩
  have := h3 j hj
  rw [Bool.not_eq_true', Bool.eq_false_iff]
  intro hh
  have h5 := of_decide_eq_true hh
  exact this ⟨of_decide_eq_true h5.2, h5.1⟩
theorem mnext_none {s : BitVec 64} {i : Int} (h3 : ∀ j : Nat, j < 64 → ¬ (i < j ∧ has s j = true)) : mnext s i = none := by
  unfold mnext
  rw [List.find?_eq_none]
  intro x hx
  have := h3 x (Mk.elems_lt hx)
  have hb : has s x = true := Mk.mem_elems.1 hx
  simp only [decide_eq_true_eq]
  intro ha; exact this ⟨ha, hb⟩

set_option maxRecDepth 4000 in
set_option maxHeartbeats 400000 in
/-- seisinref01.Next -/
theorem c_refNext (s : BitVec 64) (i : Int) (w : World) : Calls Tryd.prog 36 #[.int .u64 (iv s), .int .i64 i] w fun e w' =>
    e = .returned (.tuple #[.int .i64 ((mnext s i).getD 0 : Nat), .bool (mnext s i).isSome]) ∧ w = w' := by
  go_enter Tryd.func36, Tryd.ntmps36
  go_wp2
  go_loop [6] (fun c => ∃ k : Nat, k ≤ 64 ∧ c = .int .i64 k ∧ ∀ j : Nat, j < k → ¬ (i < j ∧ has s j = true)) (fun c => 64 - (intOf c).toNat)
  case atStart => exact ⟨0, by omega, rfl, fun j hj => by omega⟩
  case round =>
    obtain ⟨k, hk, rfl, hall⟩ := hrel
    have Hall := Lib.hid hall
    clear hall
    have Hnext := Lib.hid (fun (h : ¬ (i < k ∧ has s k = true)) => show ∀ j : Nat, j < k + 1 → ¬ (i < j ∧ has s j = true) from fun j hj => if e : j < k then Hall.out j e else by
      obtain rfl : j = k := by omega
      exact h)
    by_cases hlt : k < 64
    · by_cases hik : i < k
      · cases hb : has s k with
        | false =>
          have Hn := Lib.hid (Hnext.out (by rw [hb]; simp))
          go_wp2_with (go_at_call 99; refine (c_refHas _ _ _).mono ?_; rintro e w' ⟨rfl, rfl⟩)
          go_round
          case rel => exact ⟨k + 1, by omega, by go_num, Hn.out⟩
          case measure => simp [intOf]; omega
        | true =>
          have Hm := Lib.hid (mnext_some hlt hik hb Hall.out)
          go_wp2_with (go_at_call 99; refine (c_refHas _ _ _).mono ?_; rintro e w' ⟨rfl, rfl⟩)
          go_ret2
          exact ⟨by rw [Hm.out]; rfl, rfl⟩
      · have Hn := Lib.hid (Hnext.out (fun h => hik h.1))
        go_wp2_with (go_at_call 99; refine (c_refHas _ _ _).mono ?_; rintro e w' ⟨rfl, rfl⟩)
        go_round
        case rel => exact ⟨k + 1, by omega, by go_num, Hn.out⟩
        case measure => simp [intOf]; omega
    · obtain rfl : k = 64 := by omega
      have Hm := Lib.hid (mnext_none Hall.out)
      go_wp2
      go_ret2
      exact ⟨by rw [Hm.out]; rfl, rfl⟩

/-- marks.Next is it too. -/
theorem next_first (s : BitVec 64) (i j : Int) (h : j = max i (-1) + 1) : (Mk.elems (s &&& ~~~mall j)).head? = mnext s i := by
  rw [elems_and, List.head?_filter, mnext]
  have : ∀ l : List Nat, (∀ x ∈ l, x < 64) → l.find? (fun k => has (~~~mall j) k) = l.find? (fun (x : Nat) => decide (i < (x : Int))) := by
    intro l
    induction l with
    | nil => intro _; rfl
    | cons a l ih =>
      intro hl
      have ha := hl a (by simp)
      have hp : has (~~~mall j) a = decide (i < a) := by
        rw [has_not, has_mall, decide_eq_true ha, Bool.true_and, Bool.true_and, ← decide_not]
        congr 1; apply propext; omega
      rw [List.find?_cons, List.find?_cons, hp, ih (fun x hx => hl x (by simp [hx]))]
  exact this _ (fun x hx => Mk.elems_lt hx)

set_option maxRecDepth 4000 in
set_option maxHeartbeats 400000 in
theorem c_Next (s : BitVec 64) (i : Int) (w : World) (hT : Tab w) : Calls Tryd.prog 37 #[.int .u64 (iv s), .int .i64 i] w fun e w' =>
    e = .returned (.tuple #[.int .i64 ((mnext s i).getD 0 : Nat), .bool (mnext s i).isSome]) ∧ Below w.heap.size w w' := by
  by_cases h : i < 64
  · by_cases h2 : i < -1
    · have Hn := Lib.hid (next_first s i 0 (by omega))
      go_enter Tryd.func37, Tryd.ntmps37
      go_wp2_with (first | (go_at_call 27; refine (c_All _ _).mono ?_; rintro e w' ⟨rfl, rfl⟩) | (go_at_call 35; refine (c_First _ _ hT).mono ?_; rintro e w' ⟨rfl, hb⟩))
      go_ret2
      exact ⟨by rw [← Hn.out]; rfl, hb⟩
    · have Hn := Lib.hid (next_first s i (i + 1) (by omega))
      go_enter Tryd.func37, Tryd.ntmps37
      go_wp2_with (first | (go_at_call 27; refine (c_All _ _).mono ?_; rintro e w' ⟨rfl, rfl⟩) | (go_at_call 35; refine (c_First _ _ hT).mono ?_; rintro e w' ⟨rfl, hb⟩))
      go_ret2
      exact ⟨by rw [← Hn.out]; rfl, hb⟩
  · have Hm := Lib.hid (mnext_none (s := s) (i := i) (fun j hj hh => by omega))
    go_enter Tryd.func37, Tryd.ntmps37
    go_wp2
    go_ret2
    exact ⟨by rw [Hm.out]; rfl, Below.refl _ _⟩

/-- How many elements are below a number. -/
def mrank (s : BitVec 64) (i : Int) : Nat := ((Mk.elems s).filter (fun (x : Nat) => decide ((x : Int) < i))).length
theorem rank_len (s : BitVec 64) (i : Int) : (Mk.elems (s &&& mall i)).length = mrank s i := by
  rw [elems_and, mrank]
  congr 1
  apply List.filter_congr
  intro x hx
  rw [has_mall, decide_eq_true (Mk.elems_lt hx), Bool.true_and]
def rankTo (s : BitVec 64) (i : Int) (k : Nat) : Nat := ((elemsTo s k).filter (fun (x : Nat) => decide ((x : Int) < i))).length
theorem rankTo_succ (s : BitVec 64) (i : Int) (k : Nat) : rankTo s i (k + 1) = rankTo s i k + if (k : Int) < i ∧ has s k = true then 1 else 0 := by
  unfold rankTo
  rw [elemsTo_succ, List.filter_append, List.length_append]
  congr 1
  by_cases h1 : (k : Int) < i <;> by_cases h2 : has s k = true <;> simp [h1, h2]
theorem rankTo_le (s : BitVec 64) (i : Int) (k : Nat) : rankTo s i k ≤ k := by
  have := List.length_filter_le (fun (x : Nat) => decide ((x : Int) < i)) (elemsTo s k)
  have := elemsTo_le s k
  unfold rankTo; omega

set_option maxRecDepth 4000 in
/-- marks.Rank -/
theorem c_Rank (s : BitVec 64) (i : Int) (w : World) (hT : Tab w) : Calls Tryd.prog 33 #[.int .u64 (iv s), .int .i64 i] w fun e w' => e = .returned (.int .i64 (mrank s i)) ∧ Below w.heap.size w w' := by
  have Hr := Lib.hid (rank_len s i)
  go_enter Tryd.func33, Tryd.ntmps33
  go_wp2_with (first | (go_at_call 27; refine (c_All _ _).mono ?_; rintro e w' ⟨rfl, rfl⟩) | (go_at_call 32; refine (c_Len _ _ hT).mono ?_; rintro e w' ⟨rfl, hb⟩))
  go_ret
  exact ⟨ret_int (by rw [Hr.out]), hb⟩

set_option maxRecDepth 4000 in
set_option maxHeartbeats 400000 in
/-- seisinref01.Rank -/
theorem c_refRank (s : BitVec 64) (i : Int) (w : World) : Calls Tryd.prog 34 #[.int .u64 (iv s), .int .i64 i] w fun e w' => e = .returned (.int .i64 (mrank s i)) ∧ w = w' := by
  go_enter Tryd.func34, Tryd.ntmps34
  go_wp2
  go_loop [5, 6] (fun n c => ∃ k : Nat, k ≤ 64 ∧ c = .int .i64 k ∧ n = .int .i64 (rankTo s i k)) (fun _ c => 64 - (intOf c).toNat)
  case atStart => exact ⟨0, by omega, rfl, rfl⟩
  case round =>
    obtain ⟨k, hk, rfl, rfl⟩ := hrel
    have hle := rankTo_le s i k
    have Hs := Lib.hid (rankTo_succ s i k)
    by_cases hlt : k < 64
    · by_cases hik : (k : Int) < i
      · cases hb : has s k with
        | false =>
          have Hn := Lib.hid (show rankTo s i (k + 1) = rankTo s i k by rw [Hs.out, if_neg (by rw [hb]; simp)]; rfl)
          go_wp2_with (go_at_call 99; refine (c_refHas _ _ _).mono ?_; rintro e w' ⟨rfl, rfl⟩)
          go_round
          case rel => exact ⟨k + 1, by omega, by go_num, by rw [Hn.out]⟩
          case measure => simp [intOf]; omega
        | true =>
          have Hn := Lib.hid (show rankTo s i (k + 1) = rankTo s i k + 1 by rw [Hs.out, if_pos ⟨hik, hb⟩])
          go_wp2_with (go_at_call 99; refine (c_refHas _ _ _).mono ?_; rintro e w' ⟨rfl, rfl⟩)
          go_round
          case rel => exact ⟨k + 1, by omega, by go_num, by rw [Hn.out]; go_num⟩
          case measure => simp [intOf]; omega
      · have Hn := Lib.hid (show rankTo s i (k + 1) = rankTo s i k by rw [Hs.out, if_neg (fun h => hik h.1)]; rfl)
        go_wp2_with (go_at_call 99; refine (c_refHas _ _ _).mono ?_; rintro e w' ⟨rfl, rfl⟩)
        go_round
        case rel => exact ⟨k + 1, by omega, by go_num, by rw [Hn.out]⟩
        case measure => simp [intOf]; omega
    · obtain rfl : k = 64 := by omega
      go_wp2
      go_ret
      exact ⟨ret_int rfl, rfl⟩

theorem SlAt.nat {w : World} {N : Nat} {ad : Option Addr} {xs : List Nat} (h : SlAt w N ad (vn xs)) {j : Nat} (hj : j < xs.length) :
    ∃ b off, ad = some ⟨b, off, none⟩ ∧ b < N ∧ w.cell? ⟨b, off + j, none⟩ = some (.int .i64 (xs[j] : Nat)) :=
  h j _ (by simp [vn, hj])

set_option maxRecDepth 4000 in
set_option maxHeartbeats 400000 in
/-- seisinref01.Pick -/
theorem c_refPick (s : BitVec 64) (k : Int) (w : World) : Calls Tryd.prog 39 #[.int .u64 (iv s), .int .i64 k] w fun e w' =>
    e = .returned (.tuple #[.int .i64 ((mpick s k).getD 0 : Nat), .bool (mpick s k).isSome]) ∧ Below w.heap.size w w' := by
  have hle := Mk.elems_length_le s
  by_cases h0 : k < 0
  · have Hn := Lib.hid (show mpick s k = none from if_pos h0)
    go_enter Tryd.func39, Tryd.ntmps39
    go_wp2_with (go_at_call 31; refine (c_refList _ _).mono ?_; rintro e w' ⟨v, rfl, hown, hb⟩; obtain ⟨ad, cap, rfl, hsl⟩ := SlAt.of_owns hown)
    go_ret2
    exact ⟨by rw [Hn.out]; rfl, hb⟩
  · obtain ⟨n, rfl⟩ := Int.eq_ofNat_of_zero_le (Int.not_lt.1 h0)
    by_cases h1 : n < (Mk.elems s).length
    · obtain ⟨x, hx⟩ : ∃ x, x = (Mk.elems s)[n] := ⟨_, rfl⟩
      have Hn := Lib.hid (show mpick s n = some x by unfold mpick; rw [if_neg h0, hx]; simp [h1])
      have Hx := Lib.hid hx
      clear hx
      go_enter Tryd.func39, Tryd.ntmps39
      go_wp2_with (go_at_call 31; refine (c_refList _ _).mono ?_; rintro e w' ⟨v, rfl, hown, hb⟩; obtain ⟨ad, cap, rfl, hsl⟩ := SlAt.of_owns hown; obtain ⟨b, off, rfl, _, hc⟩ := hsl.nat h1; rw [← Hx.out] at hc)
      go_ret2
      exact ⟨by rw [Hn.out]; rfl, hb⟩
    · have Hn := Lib.hid (show mpick s n = none by unfold mpick; rw [if_neg h0]; simp; omega)
      go_enter Tryd.func39, Tryd.ntmps39
      go_wp2_with (go_at_call 31; refine (c_refList _ _).mono ?_; rintro e w' ⟨v, rfl, hown, hb⟩; obtain ⟨ad, cap, rfl, hsl⟩ := SlAt.of_owns hown)
      go_ret2
      exact ⟨by rw [Hn.out]; rfl, hb⟩
end Go.Proofs.YtgegmoedgegkcaaDoor
