/-
  seisinlaw01.MarksSubsets returns true for every two sets, if the library table is laid.
-/
import Derived.Test.YtgegmoedgegkcaaDoorLRank
import Derived.Test.YtgegmoedgegkcaaDoorLNext
namespace Go.Proofs.YtgegmoedgegkcaaDoor
open Go.RowKit

/-- The number of a subset. -/
theorem dep_onto (s o : BitVec 64) (h : ∀ j, has o j = true → has s j = true) : ∃ m, m < 2 ^ (Mk.elems s).length ∧ Mk.dep s m = o := by
  have hn := Mk.elems_length_le s
  obtain ⟨t, ht⟩ : ∃ t, t = Mk.setOf (fun i => decide (i < (Mk.elems s).length) && has o ((Mk.elems s)[i]?.getD 0)) := ⟨_, rfl⟩
  have hbit : ∀ i, t.toNat.testBit i = (decide (i < (Mk.elems s).length) && has o ((Mk.elems s)[i]?.getD 0)) := by
    intro i
    have := Mk.has_setOf (fun i => decide (i < (Mk.elems s).length) && has o ((Mk.elems s)[i]?.getD 0)) i
    rw [← ht] at this
    unfold has at this
    rw [BitVec.testBit_toNat, this]
    by_cases h1 : i < (Mk.elems s).length
    · rw [decide_eq_true (show i < 64 by omega), Bool.true_and]; rfl
    · simp [h1]
  refine ⟨t.toNat, Nat.lt_pow_two_of_testBit _ fun i hi => by rw [hbit, decide_eq_false (by omega), Bool.false_and], ?_⟩
  apply Mk.has_ext'
  intro j
  rw [Mk.has_dep, hbit]
  cases hj : has s j with
  | false =>
    cases ho : has o j with
    | false => rfl
    | true => rw [h j ho] at hj; cases hj
  | true =>
    rw [decide_eq_true (Mk.rk_lt hj), List.getElem?_eq_getElem (Mk.rk_lt hj), Option.getD_some, Mk.at_rk hj, Bool.true_and, Bool.true_and]
theorem dep_in (s : BitVec 64) (m : Nat) : Mk.dep s m &&& ~~~s = 0#64 := by
  apply Mk.has_ext'
  intro j
  rw [has_and, has_not, Mk.has_dep, has_zero]
  cases has s j <;> simp
/-- Is it among the first k? -/
def fnd (s o : BitVec 64) (k : Nat) : Bool := (List.range k).any fun m => Mk.dep s m == o
theorem fnd_succ (s o : BitVec 64) (k : Nat) : fnd s o (k + 1) = (fnd s o k || (Mk.dep s k == o)) := by
  unfold fnd; rw [List.range_succ, List.any_append]; simp
theorem fnd_all (s o : BitVec 64) : fnd s (o &&& s) (2 ^ (Mk.elems s).length) = true := by
  obtain ⟨m, hm, e⟩ := dep_onto s (o &&& s) (fun j h => by rw [has_and, Bool.and_eq_true] at h; exact h.2)
  unfold fnd
  rw [List.any_eq_true]
  exact ⟨m, by simpa using hm, by simpa using e⟩

theorem v_Subsets (s : BitVec 64) (most : Int) (l : List (BitVec 64)) (c : Int) (n : Nat) (h : msubs s most = (l, c)) (hn : l.length = n) (w : World) (hT : Tab w) : Calls Tryd.prog 40 #[.int .u64 (iv s), .int .i64 most] w fun e w' =>
    ∃ ad cap, e = .returned (.tuple #[.slice ad n cap, .int .i64 c]) ∧ SlAt w' w'.heap.size ad (vs l) ∧ Below w.heap.size w w' := by
  have h2 := c_Subsets s most w hT
  rw [h] at h2
  refine h2.mono fun e w' ⟨v, he, ho, hb⟩ => ?_
  obtain ⟨ad, cap, rfl, hs⟩ := SlAt.of_owns ho
  exact ⟨ad, cap, by rw [← hn]; exact he, hs, hb⟩

set_option maxRecDepth 8000 in
set_option maxHeartbeats 2000000 in
/-- The part behind the first statement. -/
theorem subsets_core (s0 s o : BitVec 64) (w : World) (hT : Tab w) (hn10 : (Mk.elems s).length ≤ 10)
    (hpick : (PickIs s0 10 0 false ∧ s = s0) ∨ ∃ k, PickIs s0 10 k true ∧ s = s0 &&& mall (k : Nat)) :
    Calls Tryd.prog 8 #[.int .u64 (iv s0), .int .u64 (iv o)] w fun e w' => e = .returned (.bool true) ∧ Below w.heap.size w w' := by
  have HLen := Lib.hid (fun w hT => c_Len s w hT)
  have hpow : 2 ^ (Mk.elems s).length ≤ 1024 := Nat.pow_le_pow_right (n := 2) (j := 10) (by omega) hn10
  have hpos : 0 < 2 ^ (Mk.elems s).length := Nat.two_pow_pos _
  have hwp := wrap_pow (Mk.elems s).length (by omega)
  have m1 : msubs s ((2 ^ (Mk.elems s).length : Nat) : Int) = (subsL s, 0) := by unfold msubs; rw [if_neg (by omega), if_neg (by omega)]
  have m2 : msubs s (((2 ^ (Mk.elems s).length : Nat) : Int) - 1) = ([], 5) := by unfold msubs; rw [if_neg (by omega), if_pos (by omega)]
  have m3 : msubs s 65537 = ([], 2) := by unfold msubs; rw [if_pos (by omega)]
  have HS1 := Lib.hid (fun w hT => v_Subsets s _ _ _ (2 ^ (Mk.elems s).length) m1 (by unfold subsL; simp) w hT)
  have HS2 := Lib.hid (fun w hT => v_Subsets s _ _ _ 0 m2 rfl w hT)
  have HS3 := Lib.hid (fun w hT => v_Subsets s _ _ _ 0 m3 rfl w hT)
  have hfall := fnd_all s o
  have hstep : ∀ k, k < 2 ^ (Mk.elems s).length → 0 < k → iv (Mk.dep s (k - 1)) < iv (Mk.dep s k) := fun k hk h0 => by
    have := (Mk.dep_succ s (k - 1) (by omega)).2.2
    rw [show k - 1 + 1 = k by omega] at this
    unfold iv; omega
  have hget : ∀ k, k < 2 ^ (Mk.elems s).length → (subsL s)[k]? = some (Mk.dep s k) := fun k hk => by unfold subsL; simp [hk]
  have hslen : (subsL s).length = 2 ^ (Mk.elems s).length := by unfold subsL; simp
  generalize hn : (Mk.elems s).length = n at *
  generalize hM : 2 ^ n = M at *
  have HFall := Lib.hid hfall
  have HStep := Lib.hid hstep
  have HGet := Lib.hid hget
  have HSl := Lib.hid hslen
  have hB := Below.refl w.heap.size w
  clear m1 m2 m3 hfall hstep hget hn hM hslen
  rcases hpick with ⟨hp, rfl⟩ | ⟨k, hp, hs⟩
  · have HP := Lib.hid hp
    clear hp
    go_enter Tryd.func8, Tryd.ntmps8
    go_wp2_with (first | (go_at_call 38; (with_reducible refine (HP.out _ (by assumption)).mono ?_); rintro e wn ⟨rfl, hb⟩; have hT := Tab.below' hb (by assumption); have hB := Below.chain (by assumption : Below w.heap.size w _) hb; clear hb) | (go_at_call 27; (with_reducible refine (c_All _ _).mono ?_); rintro e wn ⟨rfl, rfl⟩) | (go_at_call 32; (with_reducible refine (HLen.out _ (by assumption)).mono ?_); rintro e wn ⟨rfl, hb⟩; have hT := Tab.below' hb (by assumption); have hB := Below.chain (by assumption : Below w.heap.size w _) hb; clear hb) | (go_at_call 40; (with_reducible refine (HS1.out _ (by assumption)).mono ?_); rintro e w1 ⟨ad, cap, rfl, hsl, hb⟩; have HSL := Lib.hid hsl; clear hsl; have hB1 := Below.refl w1.heap.size w1; have hT := Tab.below' hb (by assumption); have hB := Below.chain (by assumption : Below w.heap.size w _) hb; clear hb) | (go_at_call 40; (with_reducible refine (HS2.out _ (by assumption)).mono ?_); rintro e wn ⟨ad2, cap2, rfl, _, hb⟩; have hB1 := Below.chain (by assumption : Below w1.heap.size w1 _) hb; have hT := Tab.below' hb (by assumption); have hB := Below.chain (by assumption : Below w.heap.size w _) hb; clear hb) | (go_at_call 40; (with_reducible refine (HS3.out _ (by assumption)).mono ?_); rintro e w4 ⟨ad3, cap3, rfl, _, hb⟩; have hB1 := Below.chain (by assumption : Below w1.heap.size w1 _) hb; have hT := Tab.below' hb (by assumption); have hB := Below.chain (by assumption : Below w.heap.size w _) hb; clear hb))
    go_loopw [14, 73] (fun f i wr => ∃ k : Nat, k ≤ M ∧ i = .int .i64 k ∧ f = .bool (fnd s (o &&& s) k) ∧ wr = w4) (fun _ i _ => M - (intOf i).toNat)
    case atStart => exact ⟨0, by omega, rfl, rfl, rfl⟩
    case round =>
      obtain ⟨i, hi, rfl, rfl, rfl⟩ := hrel
      have hB : Below w.heap.size w wr := by assumption
      have hT : Tab wr := by assumption
      by_cases hlt : i < M
      · have hlt' : i < (subsL s).length := by have := HSl.out; omega
        have hget := HGet.out i hlt
        have hB1 : Below w1.heap.size w1 wr := by assumption
        obtain ⟨b, off, rfl, hblt, hc0⟩ := HSL.out.set (j := i) hlt'
        have hc := (hB1.cell (p := ⟨b, off + i, none⟩) hblt).trans hc0
        rw [List.getElem?_eq_getElem hlt', Option.some.injEq] at hget
        rw [hget] at hc
        have hin := dep_in s i
        have hsucc := fnd_succ s (o &&& s) i
        by_cases hi0 : 0 < i
        · have hst := HStep.out i hlt hi0
          have hlt2 : i - 1 < (subsL s).length := by omega
          obtain ⟨b', off', e', _, hc0'⟩ := HSL.out.set (j := i - 1) hlt2
          obtain ⟨rfl, rfl⟩ : b = b' ∧ off = off' := by simpa using e'
          have hc' := (hB1.cell (p := ⟨b, off + (i - 1), none⟩) hblt).trans hc0'
          have hget' := HGet.out (i - 1) (by omega)
          rw [List.getElem?_eq_getElem hlt2, Option.some.injEq] at hget'
          rw [hget'] at hc'
          obtain ⟨x, hx⟩ : ∃ x, x = Mk.dep s i := ⟨_, rfl⟩
          obtain ⟨y, hy⟩ : ∃ y, y = Mk.dep s (i - 1) := ⟨_, rfl⟩
          obtain ⟨f, hf⟩ : ∃ f, f = fnd s (o &&& s) i := ⟨_, rfl⟩
          rw [← hx] at hc hin hsucc hst
          rw [← hy] at hc' hst
          rw [← hf] at hsucc ⊢
          have hin' : (x &&& ~~~s != 0#64) = false := by simpa using hin
          have Hs := Lib.hid hsucc
          clear hget hget' hc0 hc0' e' hx hy hf hin hsucc
          cases f with
          | true =>
            go_wp2
            go_roundw
            case rel => exact ⟨i + 1, by omega, by go_num, by rw [Hs.out]; rfl, trivial⟩
            case measure => simp [intOf]; omega
          | false =>
            go_wp2
            go_roundw
            case rel => exact ⟨i + 1, by omega, by go_num, by rw [Hs.out]; rfl, trivial⟩
            case measure => simp [intOf]; omega
        · have hd : decide (0 < i) = false := by simpa using hi0
          obtain ⟨x, hx⟩ : ∃ x, x = Mk.dep s i := ⟨_, rfl⟩
          obtain ⟨f, hf⟩ : ∃ f, f = fnd s (o &&& s) i := ⟨_, rfl⟩
          rw [← hx] at hc hin hsucc
          rw [← hf] at hsucc ⊢
          have hin' : (x &&& ~~~s != 0#64) = false := by simpa using hin
          have Hs := Lib.hid hsucc
          clear hget hc0 hx hf hin hsucc
          cases f with
          | true =>
            go_wp2
            go_roundw
            case rel => exact ⟨i + 1, by omega, by go_num, by rw [Hs.out]; rfl, trivial⟩
            case measure => simp [intOf]; omega
          | false =>
            go_wp2
            go_roundw
            case rel => exact ⟨i + 1, by omega, by go_num, by rw [Hs.out]; rfl, trivial⟩
            case measure => simp [intOf]; omega
      · obtain rfl : i = M := by omega
        rw [HFall.out]
        clear hi
        go_wp2_with ((go_at_call 24; (with_reducible refine (c_awake1 _ (by assumption)).mono ?_); rintro e wn ⟨rfl, hb⟩; have hT := Tab.below' hb (by assumption); have hB := Below.chain (by assumption : Below w.heap.size w _) hb; clear hb))
        go_ret
        exact ⟨rfl, by assumption⟩
  · have HP := Lib.hid hp
    have HS := Lib.hid hs
    clear hp
    rw [hs] at HLen HS1 HS2 HS3 HFall HStep HGet HSl
    clear hs
    obtain ⟨s1, hs1⟩ : ∃ s1, s1 = s0 &&& mall (k : Int) := ⟨_, rfl⟩
    have hs1' : s0 &&& mall (k : Int) = s1 := hs1.symm
    rw [hs1'] at HLen HS1 HS2 HS3 HFall HStep HGet HSl
    clear hs1 HS
    go_enter Tryd.func8, Tryd.ntmps8
    go_wp2_with (first | (go_at_call 38; (with_reducible refine (HP.out _ (by assumption)).mono ?_); rintro e wn ⟨rfl, hb⟩; have hT := Tab.below' hb (by assumption); have hB := Below.chain (by assumption : Below w.heap.size w _) hb; clear hb) | (go_at_call 27; (with_reducible refine (c_All _ _).mono ?_); rintro e wn ⟨rfl, rfl⟩) | (go_at_call 32; (with_reducible refine (HLen.out _ (by assumption)).mono ?_); rintro e wn ⟨rfl, hb⟩; have hT := Tab.below' hb (by assumption); have hB := Below.chain (by assumption : Below w.heap.size w _) hb; clear hb) | (go_at_call 40; (with_reducible refine (HS1.out _ (by assumption)).mono ?_); rintro e w1 ⟨ad, cap, rfl, hsl, hb⟩; have HSL := Lib.hid hsl; clear hsl; have hB1 := Below.refl w1.heap.size w1; have hT := Tab.below' hb (by assumption); have hB := Below.chain (by assumption : Below w.heap.size w _) hb; clear hb) | (go_at_call 40; (with_reducible refine (HS2.out _ (by assumption)).mono ?_); rintro e wn ⟨ad2, cap2, rfl, _, hb⟩; have hB1 := Below.chain (by assumption : Below w1.heap.size w1 _) hb; have hT := Tab.below' hb (by assumption); have hB := Below.chain (by assumption : Below w.heap.size w _) hb; clear hb) | (go_at_call 40; (with_reducible refine (HS3.out _ (by assumption)).mono ?_); rintro e w4 ⟨ad3, cap3, rfl, _, hb⟩; have hB1 := Below.chain (by assumption : Below w1.heap.size w1 _) hb; have hT := Tab.below' hb (by assumption); have hB := Below.chain (by assumption : Below w.heap.size w _) hb; clear hb))
    go_loopw [14, 73] (fun f i wr => ∃ k : Nat, k ≤ M ∧ i = .int .i64 k ∧ f = .bool (fnd s1 (o &&& s1) k) ∧ wr = w4) (fun _ i _ => M - (intOf i).toNat)
    case atStart => exact ⟨0, by omega, rfl, rfl, rfl⟩
    case round =>
      obtain ⟨i, hi, rfl, rfl, rfl⟩ := hrel
      have hB : Below w.heap.size w wr := by assumption
      have hT : Tab wr := by assumption
      by_cases hlt : i < M
      · have hlt' : i < (subsL s1).length := by have := HSl.out; omega
        have hget := HGet.out i hlt
        have hB1 : Below w1.heap.size w1 wr := by assumption
        obtain ⟨b, off, rfl, hblt, hc0⟩ := HSL.out.set (j := i) hlt'
        have hc := (hB1.cell (p := ⟨b, off + i, none⟩) hblt).trans hc0
        rw [List.getElem?_eq_getElem hlt', Option.some.injEq] at hget
        rw [hget] at hc
        have hin := dep_in s1 i
        have hsucc := fnd_succ s1 (o &&& s1) i
        by_cases hi0 : 0 < i
        · have hst := HStep.out i hlt hi0
          have hlt2 : i - 1 < (subsL s1).length := by omega
          obtain ⟨b', off', e', _, hc0'⟩ := HSL.out.set (j := i - 1) hlt2
          obtain ⟨rfl, rfl⟩ : b = b' ∧ off = off' := by simpa using e'
          have hc' := (hB1.cell (p := ⟨b, off + (i - 1), none⟩) hblt).trans hc0'
          have hget' := HGet.out (i - 1) (by omega)
          rw [List.getElem?_eq_getElem hlt2, Option.some.injEq] at hget'
          rw [hget'] at hc'
          obtain ⟨x, hx⟩ : ∃ x, x = Mk.dep s1 i := ⟨_, rfl⟩
          obtain ⟨y, hy⟩ : ∃ y, y = Mk.dep s1 (i - 1) := ⟨_, rfl⟩
          obtain ⟨f, hf⟩ : ∃ f, f = fnd s1 (o &&& s1) i := ⟨_, rfl⟩
          rw [← hx] at hc hin hsucc hst
          rw [← hy] at hc' hst
          rw [← hf] at hsucc ⊢
          have hin' : (x &&& ~~~s1 != 0#64) = false := by simpa using hin
          have Hs := Lib.hid hsucc
          clear hget hget' hc0 hc0' e' hx hy hf hin hsucc
          cases f with
          | true =>
            go_wp2
            go_roundw
            case rel => exact ⟨i + 1, by omega, by go_num, by rw [Hs.out]; rfl, trivial⟩
            case measure => simp [intOf]; omega
          | false =>
            go_wp2
            go_roundw
            case rel => exact ⟨i + 1, by omega, by go_num, by rw [Hs.out]; rfl, trivial⟩
            case measure => simp [intOf]; omega
        · have hd : decide (0 < i) = false := by simpa using hi0
          obtain ⟨x, hx⟩ : ∃ x, x = Mk.dep s1 i := ⟨_, rfl⟩
          obtain ⟨f, hf⟩ : ∃ f, f = fnd s1 (o &&& s1) i := ⟨_, rfl⟩
          rw [← hx] at hc hin hsucc
          rw [← hf] at hsucc ⊢
          have hin' : (x &&& ~~~s1 != 0#64) = false := by simpa using hin
          have Hs := Lib.hid hsucc
          clear hget hc0 hx hf hin hsucc
          cases f with
          | true =>
            go_wp2
            go_roundw
            case rel => exact ⟨i + 1, by omega, by go_num, by rw [Hs.out]; rfl, trivial⟩
            case measure => simp [intOf]; omega
          | false =>
            go_wp2
            go_roundw
            case rel => exact ⟨i + 1, by omega, by go_num, by rw [Hs.out]; rfl, trivial⟩
            case measure => simp [intOf]; omega
      · obtain rfl : i = M := by omega
        rw [HFall.out]
        clear hi
        go_wp2_with ((go_at_call 24; (with_reducible refine (c_awake1 _ (by assumption)).mono ?_); rintro e wn ⟨rfl, hb⟩; have hT := Tab.below' hb (by assumption); have hB := Below.chain (by assumption : Below w.heap.size w _) hb; clear hb))
        go_ret
        exact ⟨rfl, by assumption⟩

/-- **MarksSubsets.** -/
theorem w_MarksSubsets (s o : BitVec 64) (w : World) (hT : Tab w) : Calls Tryd.prog 8 #[.int .u64 (iv s), .int .u64 (iv o)] w fun e w' => e = .returned (.bool true) ∧ Below w.heap.size w w' := by
  cases hp : mpick s 10 with
  | none =>
    have h1 := pick_none s 10 hp
    exact subsets_core s s o w hT (by omega) (.inl ⟨pick_isnt (by omega) (by omega) hp, rfl⟩)
  | some k =>
    have h1 := (rank_pick s 10 k hp).1
    have h2 := rank_len s (k : Int)
    exact subsets_core s _ o w hT (by omega) (.inr ⟨k, pick_is (by omega) (by omega) hp, rfl⟩)
end Go.Proofs.YtgegmoedgegkcaaDoor
