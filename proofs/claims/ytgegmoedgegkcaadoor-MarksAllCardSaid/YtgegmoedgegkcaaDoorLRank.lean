/-
  seisinlaw01.MarksRank returns true for every set, byte and int, if the library table is laid.
-/
import Derived.Test.YtgegmoedgegkcaaDoorLUnion
namespace Go.Proofs.YtgegmoedgegkcaaDoor
open Go.RowKit

theorem rank_rk (s : BitVec 64) (j : Nat) : mrank s j = Mk.rk s j := by
  unfold mrank Mk.rk
  congr 1
  apply List.filter_congr
  intro x _
  congr 1; apply propext; omega
theorem rank_succ (s : BitVec 64) (j : Nat) (hj : j < 64) : mrank s ((j : Int) + 1) = mrank s j + if has s j then 1 else 0 := by
  have h1 : mrank s ((j : Int) + 1) = rankTo s ((j : Int) + 1) 64 := by unfold mrank rankTo; rw [elemsTo_all]
  have h2 : mrank s j = rankTo s j 64 := by unfold mrank rankTo; rw [elemsTo_all]
  have h3 : ∀ k, rankTo s ((j : Int) + 1) k = rankTo s j k + if j < k ∧ has s j = true then 1 else 0 := by
    intro k
    induction k with
    | zero => simp [rankTo, elemsTo]
    | succ k ih =>
      rw [rankTo_succ, rankTo_succ, ih]
      by_cases h1 : j < k
      · by_cases h2 : has s j = true
        · simp [h1, h2, show j < k + 1 by omega, show ¬ (k : Int) < (j : Int) + 1 by omega, show ¬ (k : Int) < (j : Int) by omega]
        · simp [h2, show ¬ (k : Int) < (j : Int) + 1 by omega, show ¬ (k : Int) < (j : Int) by omega]
      · by_cases h3 : k = j
        · subst h3
          by_cases h2 : has s k = true
          · simp [h2, show (k : Int) < (k : Int) + 1 by omega]
          · simp [h2]
        · by_cases h2 : has s k = true
          · simp [h1, h2, show ¬ j < k + 1 by omega, show (k : Int) < (j : Int) + 1 by omega, show (k : Int) < (j : Int) by omega]
          · simp [h1, h2, show ¬ j < k + 1 by omega]
  rw [h1, h2, h3]
  by_cases h : has s j = true <;> simp [h, hj]
theorem rank_top (s : BitVec 64) : mrank s 64 = (Mk.elems s).length := by
  unfold mrank
  rw [List.filter_eq_self.2]
  intro x hx
  have := Mk.elems_lt hx
  simp; omega
theorem rank_bottom (s : BitVec 64) : mrank s 0 = 0 := by
  unfold mrank
  rw [List.length_eq_zero_iff, List.filter_eq_nil_iff]
  intro x hx
  simp
theorem rank_le (s : BitVec 64) (i : Int) : mrank s i ≤ 64 := by
  have := List.length_filter_le (fun (x : Nat) => decide ((x : Int) < i)) (Mk.elems s)
  have := Mk.elems_length_le s
  unfold mrank; omega
theorem pick_rank (s : BitVec 64) (j : Nat) (h : has s j = true) : mpick s (mrank s j) = some j := by
  unfold mpick
  rw [if_neg (by omega), Int.toNat_natCast, rank_rk, List.getElem?_eq_getElem (Mk.rk_lt h), Mk.at_rk h]
theorem rank_pick (s : BitVec 64) (k : Int) (n : Nat) (h : mpick s k = some n) : ((mrank s n : Nat) : Int) = k ∧ 0 ≤ k ∧ k < (Mk.elems s).length := by
  unfold mpick at h
  split at h
  · cases h
  · have hk : k.toNat < (Mk.elems s).length := by
      rcases Nat.lt_or_ge k.toNat (Mk.elems s).length with h1 | h1
      · exact h1
      · rw [List.getElem?_eq_none h1] at h; cases h
    rw [List.getElem?_eq_getElem hk, Option.some.injEq] at h
    rw [← h, rank_rk, Mk.rk_at s hk]
    omega
theorem pick_none (s : BitVec 64) (k : Int) (h : mpick s k = none) : ¬ (0 ≤ k ∧ k < (Mk.elems s).length) := by
  rintro ⟨h1, h2⟩
  unfold mpick at h
  rw [if_neg (by omega), List.getElem?_eq_none_iff] at h
  omega

abbrev PickIs (s : BitVec 64) (k : Int) (x : Nat) (b : Bool) : Prop := ∀ w, Tab w → Calls Tryd.prog 38 #[.int .u64 (iv s), .int .i64 k] w fun e w' => e = .returned (.tuple #[.int .i64 x, .bool b]) ∧ Below w.heap.size w w'
theorem pick_is {s : BitVec 64} {k : Int} {x : Nat} (h0 : -9223372036854775808 ≤ k) (h1 : k ≤ 9223372036854775807) (h : mpick s k = some x) : PickIs s k x true := fun w hT => by
  have := c_Pick s k w hT h0 h1; rw [h] at this; exact this
theorem pick_isnt {s : BitVec 64} {k : Int} (h0 : -9223372036854775808 ≤ k) (h1 : k ≤ 9223372036854775807) (h : mpick s k = none) : PickIs s k 0 false := fun w hT => by
  have := c_Pick s k w hT h0 h1; rw [h] at this; exact this

set_option maxRecDepth 8000 in
set_option maxHeartbeats 1000000 in
theorem rank_tt (s : BitVec 64) (a k : Int) (m : Nat) (w : World) (hT : Tab w) (ha0 : 0 ≤ a) (ha1 : a ≤ 255) (hk0 : -9223372036854775808 ≤ k) (hk1 : k ≤ 9223372036854775807) (j : Nat) (hj : j < 64) (haj : a % 64 = (j : Int)) (hb : has s j = true) (hpk : mpick s k = some m) :
    Calls Tryd.prog 6 #[.int .u64 (iv s), .int .u8 a, .int .i64 k] w fun e w' => e = .returned (.bool true) ∧ Below w.heap.size w w' := by
  have r1 := rank_succ s j hj
  rw [hb] at r1
  have r64 := rank_top s
  have r0 := rank_bottom s
  obtain ⟨n, ln, en, HL⟩ := v_Len s
  rw [← en] at r64
  have l1 := rank_le s (j : Int)
  have l2 := rank_le s ((j : Int) + 1)
  have HPi := Lib.hid (pick_is (by omega) (by omega) (pick_rank s j hb))
  have q1 : ((mrank s ((j : Int) + 1) : Int) != (mrank s (j : Int) : Int) + 1) = false := by rw [r1]; simp
  have q2 : ((j : Int) != (j : Int)) = false := by simp
  obtain ⟨e1, e2, e3⟩ := rank_pick s k m hpk
  have q3 : ((mrank s (m : Int) : Int) == k) = true := by rw [e1]; simp
  rw [← en] at e3
  have HPk := Lib.hid (pick_is hk0 hk1 hpk)
  clear e1
  have q4 : ((mrank s 64 : Int) == (n : Int)) = true := by rw [r64]; simp
  have q5 : ((mrank s 0 : Int) == 0) = true := by rw [r0]; rfl
  have HK0 := Lib.hid hk0
  have HK1 := Lib.hid hk1
  have hB := Below.refl w.heap.size w
  clear r1 r64 r0 en hk0 hk1 hpk
  go_enter Tryd.func6, Tryd.ntmps6
  go_wp2_with (first | (go_at_call 33; (with_reducible refine (c_Rank _ _ _ (by assumption)).mono ?_); rintro e wn ⟨rfl, hb⟩; have hT := Tab.below' hb (by assumption); have hB := Below.chain (by assumption : Below w.heap.size w _) hb; clear hb) | (go_at_call 32; (with_reducible refine (HL.out _ (by assumption)).mono ?_); rintro e wn ⟨rfl, hb⟩; have hT := Tab.below' hb (by assumption); have hB := Below.chain (by assumption : Below w.heap.size w _) hb; clear hb) | (go_at_call 24; (with_reducible refine (c_awake1 _ (by assumption)).mono ?_); rintro e wn ⟨rfl, hb⟩; have hT := Tab.below' hb (by assumption); have hB := Below.chain (by assumption : Below w.heap.size w _) hb; clear hb) | (go_at_call 38; (with_reducible refine (HPk.out _ (by assumption)).mono ?_); rintro e wn ⟨rfl, hb⟩; have hT := Tab.below' hb (by assumption); have hB := Below.chain (by assumption : Below w.heap.size w _) hb; clear hb) | (go_at_call 38; (with_reducible refine (HPi.out _ (by assumption)).mono ?_); rintro e wn ⟨rfl, hb⟩; have hT := Tab.below' hb (by assumption); have hB := Below.chain (by assumption : Below w.heap.size w _) hb; clear hb))
  all_goals go_ret
  all_goals exact ⟨rfl, by assumption⟩

set_option maxRecDepth 8000 in
set_option maxHeartbeats 1000000 in
theorem rank_tf (s : BitVec 64) (a k : Int) (w : World) (hT : Tab w) (ha0 : 0 ≤ a) (ha1 : a ≤ 255) (hk0 : -9223372036854775808 ≤ k) (hk1 : k ≤ 9223372036854775807) (j : Nat) (hj : j < 64) (haj : a % 64 = (j : Int)) (hb : has s j = true) (hpk : mpick s k = none) :
    Calls Tryd.prog 6 #[.int .u64 (iv s), .int .u8 a, .int .i64 k] w fun e w' => e = .returned (.bool true) ∧ Below w.heap.size w w' := by
  have r1 := rank_succ s j hj
  rw [hb] at r1
  have r64 := rank_top s
  have r0 := rank_bottom s
  obtain ⟨n, ln, en, HL⟩ := v_Len s
  rw [← en] at r64
  have l1 := rank_le s (j : Int)
  have l2 := rank_le s ((j : Int) + 1)
  have HPi := Lib.hid (pick_is (by omega) (by omega) (pick_rank s j hb))
  have q1 : ((mrank s ((j : Int) + 1) : Int) != (mrank s (j : Int) : Int) + 1) = false := by rw [r1]; simp
  have q2 : ((j : Int) != (j : Int)) = false := by simp
  have e1 := pick_none s k hpk
  rw [← en] at e1
  have HPk := Lib.hid (pick_isnt hk0 hk1 hpk)
  have q4 : ((mrank s 64 : Int) == (n : Int)) = true := by rw [r64]; simp
  have q5 : ((mrank s 0 : Int) == 0) = true := by rw [r0]; rfl
  have HK0 := Lib.hid hk0
  have HK1 := Lib.hid hk1
  have hB := Below.refl w.heap.size w
  clear r1 r64 r0 en hk0 hk1 hpk
  by_cases hk : 0 ≤ k
  · have hkn : (n : Int) ≤ k := by omega
    have hd : decide (k < (n : Int)) = false := by simp; omega
    clear e1
    go_enter Tryd.func6, Tryd.ntmps6
    go_wp2_with (first | (go_at_call 33; (with_reducible refine (c_Rank _ _ _ (by assumption)).mono ?_); rintro e wn ⟨rfl, hb⟩; have hT := Tab.below' hb (by assumption); have hB := Below.chain (by assumption : Below w.heap.size w _) hb; clear hb) | (go_at_call 32; (with_reducible refine (HL.out _ (by assumption)).mono ?_); rintro e wn ⟨rfl, hb⟩; have hT := Tab.below' hb (by assumption); have hB := Below.chain (by assumption : Below w.heap.size w _) hb; clear hb) | (go_at_call 24; (with_reducible refine (c_awake1 _ (by assumption)).mono ?_); rintro e wn ⟨rfl, hb⟩; have hT := Tab.below' hb (by assumption); have hB := Below.chain (by assumption : Below w.heap.size w _) hb; clear hb) | (go_at_call 38; (with_reducible refine (HPk.out _ (by assumption)).mono ?_); rintro e wn ⟨rfl, hb⟩; have hT := Tab.below' hb (by assumption); have hB := Below.chain (by assumption : Below w.heap.size w _) hb; clear hb) | (go_at_call 38; (with_reducible refine (HPi.out _ (by assumption)).mono ?_); rintro e wn ⟨rfl, hb⟩; have hT := Tab.below' hb (by assumption); have hB := Below.chain (by assumption : Below w.heap.size w _) hb; clear hb))
    all_goals go_ret
    all_goals exact ⟨rfl, by assumption⟩
  · clear e1
    go_enter Tryd.func6, Tryd.ntmps6
    go_wp2_with (first | (go_at_call 33; (with_reducible refine (c_Rank _ _ _ (by assumption)).mono ?_); rintro e wn ⟨rfl, hb⟩; have hT := Tab.below' hb (by assumption); have hB := Below.chain (by assumption : Below w.heap.size w _) hb; clear hb) | (go_at_call 32; (with_reducible refine (HL.out _ (by assumption)).mono ?_); rintro e wn ⟨rfl, hb⟩; have hT := Tab.below' hb (by assumption); have hB := Below.chain (by assumption : Below w.heap.size w _) hb; clear hb) | (go_at_call 24; (with_reducible refine (c_awake1 _ (by assumption)).mono ?_); rintro e wn ⟨rfl, hb⟩; have hT := Tab.below' hb (by assumption); have hB := Below.chain (by assumption : Below w.heap.size w _) hb; clear hb) | (go_at_call 38; (with_reducible refine (HPk.out _ (by assumption)).mono ?_); rintro e wn ⟨rfl, hb⟩; have hT := Tab.below' hb (by assumption); have hB := Below.chain (by assumption : Below w.heap.size w _) hb; clear hb) | (go_at_call 38; (with_reducible refine (HPi.out _ (by assumption)).mono ?_); rintro e wn ⟨rfl, hb⟩; have hT := Tab.below' hb (by assumption); have hB := Below.chain (by assumption : Below w.heap.size w _) hb; clear hb))
    all_goals go_ret
    all_goals exact ⟨rfl, by assumption⟩

set_option maxRecDepth 8000 in
set_option maxHeartbeats 1000000 in
theorem rank_ft (s : BitVec 64) (a k : Int) (m : Nat) (w : World) (hT : Tab w) (ha0 : 0 ≤ a) (ha1 : a ≤ 255) (hk0 : -9223372036854775808 ≤ k) (hk1 : k ≤ 9223372036854775807) (j : Nat) (hj : j < 64) (haj : a % 64 = (j : Int)) (hb : has s j = false) (hpk : mpick s k = some m) :
    Calls Tryd.prog 6 #[.int .u64 (iv s), .int .u8 a, .int .i64 k] w fun e w' => e = .returned (.bool true) ∧ Below w.heap.size w w' := by
  have r1 := rank_succ s j hj
  rw [hb] at r1
  have r64 := rank_top s
  have r0 := rank_bottom s
  obtain ⟨n, ln, en, HL⟩ := v_Len s
  rw [← en] at r64
  have l1 := rank_le s (j : Int)
  have l2 := rank_le s ((j : Int) + 1)
  have q1 : ((mrank s ((j : Int) + 1) : Int) != (mrank s (j : Int) : Int)) = false := by rw [r1]; simp
  obtain ⟨e1, e2, e3⟩ := rank_pick s k m hpk
  have q3 : ((mrank s (m : Int) : Int) == k) = true := by rw [e1]; simp
  rw [← en] at e3
  have HPk := Lib.hid (pick_is hk0 hk1 hpk)
  clear e1
  have q4 : ((mrank s 64 : Int) == (n : Int)) = true := by rw [r64]; simp
  have q5 : ((mrank s 0 : Int) == 0) = true := by rw [r0]; rfl
  have HK0 := Lib.hid hk0
  have HK1 := Lib.hid hk1
  have hB := Below.refl w.heap.size w
  clear r1 r64 r0 en hk0 hk1 hpk
  go_enter Tryd.func6, Tryd.ntmps6
  go_wp2_with (first | (go_at_call 33; (with_reducible refine (c_Rank _ _ _ (by assumption)).mono ?_); rintro e wn ⟨rfl, hb⟩; have hT := Tab.below' hb (by assumption); have hB := Below.chain (by assumption : Below w.heap.size w _) hb; clear hb) | (go_at_call 32; (with_reducible refine (HL.out _ (by assumption)).mono ?_); rintro e wn ⟨rfl, hb⟩; have hT := Tab.below' hb (by assumption); have hB := Below.chain (by assumption : Below w.heap.size w _) hb; clear hb) | (go_at_call 24; (with_reducible refine (c_awake1 _ (by assumption)).mono ?_); rintro e wn ⟨rfl, hb⟩; have hT := Tab.below' hb (by assumption); have hB := Below.chain (by assumption : Below w.heap.size w _) hb; clear hb) | (go_at_call 38; (with_reducible refine (HPk.out _ (by assumption)).mono ?_); rintro e wn ⟨rfl, hb⟩; have hT := Tab.below' hb (by assumption); have hB := Below.chain (by assumption : Below w.heap.size w _) hb; clear hb))
  all_goals go_ret
  all_goals exact ⟨rfl, by assumption⟩

set_option maxRecDepth 8000 in
set_option maxHeartbeats 1000000 in
theorem rank_ff (s : BitVec 64) (a k : Int) (w : World) (hT : Tab w) (ha0 : 0 ≤ a) (ha1 : a ≤ 255) (hk0 : -9223372036854775808 ≤ k) (hk1 : k ≤ 9223372036854775807) (j : Nat) (hj : j < 64) (haj : a % 64 = (j : Int)) (hb : has s j = false) (hpk : mpick s k = none) :
    Calls Tryd.prog 6 #[.int .u64 (iv s), .int .u8 a, .int .i64 k] w fun e w' => e = .returned (.bool true) ∧ Below w.heap.size w w' := by
  have r1 := rank_succ s j hj
  rw [hb] at r1
  have r64 := rank_top s
  have r0 := rank_bottom s
  obtain ⟨n, ln, en, HL⟩ := v_Len s
  rw [← en] at r64
  have l1 := rank_le s (j : Int)
  have l2 := rank_le s ((j : Int) + 1)
  have q1 : ((mrank s ((j : Int) + 1) : Int) != (mrank s (j : Int) : Int)) = false := by rw [r1]; simp
  have e1 := pick_none s k hpk
  rw [← en] at e1
  have HPk := Lib.hid (pick_isnt hk0 hk1 hpk)
  have q4 : ((mrank s 64 : Int) == (n : Int)) = true := by rw [r64]; simp
  have q5 : ((mrank s 0 : Int) == 0) = true := by rw [r0]; rfl
  have HK0 := Lib.hid hk0
  have HK1 := Lib.hid hk1
  have hB := Below.refl w.heap.size w
  clear r1 r64 r0 en hk0 hk1 hpk
  by_cases hk : 0 ≤ k
  · have hkn : (n : Int) ≤ k := by omega
    have hd : decide (k < (n : Int)) = false := by simp; omega
    clear e1
    go_enter Tryd.func6, Tryd.ntmps6
    go_wp2_with (first | (go_at_call 33; (with_reducible refine (c_Rank _ _ _ (by assumption)).mono ?_); rintro e wn ⟨rfl, hb⟩; have hT := Tab.below' hb (by assumption); have hB := Below.chain (by assumption : Below w.heap.size w _) hb; clear hb) | (go_at_call 32; (with_reducible refine (HL.out _ (by assumption)).mono ?_); rintro e wn ⟨rfl, hb⟩; have hT := Tab.below' hb (by assumption); have hB := Below.chain (by assumption : Below w.heap.size w _) hb; clear hb) | (go_at_call 24; (with_reducible refine (c_awake1 _ (by assumption)).mono ?_); rintro e wn ⟨rfl, hb⟩; have hT := Tab.below' hb (by assumption); have hB := Below.chain (by assumption : Below w.heap.size w _) hb; clear hb) | (go_at_call 38; (with_reducible refine (HPk.out _ (by assumption)).mono ?_); rintro e wn ⟨rfl, hb⟩; have hT := Tab.below' hb (by assumption); have hB := Below.chain (by assumption : Below w.heap.size w _) hb; clear hb))
    all_goals go_ret
    all_goals exact ⟨rfl, by assumption⟩
  · clear e1
    go_enter Tryd.func6, Tryd.ntmps6
    go_wp2_with (first | (go_at_call 33; (with_reducible refine (c_Rank _ _ _ (by assumption)).mono ?_); rintro e wn ⟨rfl, hb⟩; have hT := Tab.below' hb (by assumption); have hB := Below.chain (by assumption : Below w.heap.size w _) hb; clear hb) | (go_at_call 32; (with_reducible refine (HL.out _ (by assumption)).mono ?_); rintro e wn ⟨rfl, hb⟩; have hT := Tab.below' hb (by assumption); have hB := Below.chain (by assumption : Below w.heap.size w _) hb; clear hb) | (go_at_call 24; (with_reducible refine (c_awake1 _ (by assumption)).mono ?_); rintro e wn ⟨rfl, hb⟩; have hT := Tab.below' hb (by assumption); have hB := Below.chain (by assumption : Below w.heap.size w _) hb; clear hb) | (go_at_call 38; (with_reducible refine (HPk.out _ (by assumption)).mono ?_); rintro e wn ⟨rfl, hb⟩; have hT := Tab.below' hb (by assumption); have hB := Below.chain (by assumption : Below w.heap.size w _) hb; clear hb))
    all_goals go_ret
    all_goals exact ⟨rfl, by assumption⟩

/-- **MarksRank.** -/
theorem w_MarksRank (s : BitVec 64) (a k : Int) (w : World) (hT : Tab w) (ha0 : 0 ≤ a) (ha1 : a ≤ 255) (hk0 : -9223372036854775808 ≤ k) (hk1 : k ≤ 9223372036854775807) :
    Calls Tryd.prog 6 #[.int .u64 (iv s), .int .u8 a, .int .i64 k] w fun e w' => e = .returned (.bool true) ∧ Below w.heap.size w w' := by
  have haj : a % 64 = (((a % 64).toNat : Nat) : Int) := by omega
  have hj : (a % 64).toNat < 64 := by omega
  generalize (a % 64).toNat = j at *
  cases hb : has s j with
  | true =>
    cases hp : mpick s k with
    | some m => exact rank_tt s a k m w hT ha0 ha1 hk0 hk1 j hj haj hb hp
    | none => exact rank_tf s a k w hT ha0 ha1 hk0 hk1 j hj haj hb hp
  | false =>
    cases hp : mpick s k with
    | some m => exact rank_ft s a k m w hT ha0 ha1 hk0 hk1 j hj haj hb hp
    | none => exact rank_ff s a k w hT ha0 ha1 hk0 hk1 j hj haj hb hp
end Go.Proofs.YtgegmoedgegkcaaDoor
