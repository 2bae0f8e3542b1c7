/-
  seisinlaw01.MarksTells returns true for every set, all ints and every list of ints, if the library table is laid.
-/
import Derived.Test.YtgegmoedgegkcaaDoorLRank
import Derived.Test.YtgegmoedgegkcaaDoorLNext
namespace Go.Proofs.YtgegmoedgegkcaaDoor
open Go.RowKit

theorem has_wth (s : BitVec 64) (i : Nat) (hi : i < 64) (j : Nat) : has (wth s i) j = (has s j || decide (j = i)) := by
  unfold wth
  rw [if_pos (by omega), has_or, Int.toNat_natCast, has_one i j hi]
theorem has_rallUp (n : Int) (k : Nat) (hk : k ≤ 64) (j : Nat) : has (rallUp n k) j = (decide (j < k) && decide ((j : Int) < n)) := by
  induction k with
  | zero => simp [rallUp, has_zero]
  | succ k ih =>
    unfold rallUp
    split
    · rename_i h
      rw [has_wth _ _ (by omega), ih (by omega)]
      by_cases h1 : j = k
      · subst h1; simp [h]
      · by_cases h2 : j < k
        · simp [h1, h2, show j < k + 1 by omega]
        · simp [h1, h2, show ¬ j < k + 1 by omega]
    · rename_i h
      rw [ih (by omega)]
      by_cases h1 : j = k
      · subst h1; simp [h]
      · by_cases h2 : j < k
        · simp [h2, show j < k + 1 by omega]
        · simp [h2, show ¬ j < k + 1 by omega]
theorem rall_mall (n : Int) : rallUp n 64 = mall n := Mk.has_ext' fun j => by rw [has_rallUp n 64 (by omega), has_mall]
theorem next_minus (s : BitVec 64) : mnext s (-1) = (Mk.elems s).head? := by
  unfold mnext
  cases he : Mk.elems s with
  | nil => rfl
  | cons a l => rw [List.find?_cons, decide_eq_true (by omega)]; rfl
theorem msubs_code (s : BitVec 64) (m : Int) : 0 ≤ (msubs s m).2 ∧ (msubs s m).2 ≤ 5 := by
  unfold msubs; split
  · simp
  · split <;> simp
theorem msubs_len (s : BitVec 64) (m : Int) : (msubs s m).1.length ≤ 65536 := by
  unfold msubs; split
  · simp
  · split
    · simp
    · rename_i h1 h2
      have : (subsL s).length = 2 ^ (Mk.elems s).length := by unfold subsL; simp
      simp only [this]; omega

theorem vn_vi (l : List Nat) : vn l = vi (l.map fun (x : Nat) => (x : Int)) := by
  unfold vn vi; rw [List.map_map]; rfl
theorem v_List (s : BitVec 64) (n : Nat) (hn : (Mk.elems s).length = n) (w : World) (hT : Tab w) : Calls Tryd.prog 30 #[.int .u64 (iv s)] w fun e w' =>
    ∃ ad cap, e = .returned (.slice ad n cap) ∧ SlAt w' w'.heap.size ad (vi ((Mk.elems s).map fun (x : Nat) => (x : Int))) ∧ Below w.heap.size w w' := by
  refine (c_List s w hT).mono fun e w' ⟨v, he, ho, hb⟩ => ?_
  rw [vn_vi] at ho
  obtain ⟨ad, cap, rfl, hs⟩ := SlAt.of_owns ho
  exact ⟨ad, cap, by rw [← hn]; exact he, hs, hb⟩
theorem v_refList (s : BitVec 64) (n : Nat) (hn : (Mk.elems s).length = n) (w : World) : Calls Tryd.prog 31 #[.int .u64 (iv s)] w fun e w' =>
    ∃ ad cap, e = .returned (.slice ad n cap) ∧ SlAt w' w'.heap.size ad (vi ((Mk.elems s).map fun (x : Nat) => (x : Int))) ∧ Below w.heap.size w w' := by
  refine (c_refList s w).mono fun e w' ⟨v, he, ho, hb⟩ => ?_
  rw [vn_vi] at ho
  obtain ⟨ad, cap, rfl, hs⟩ := SlAt.of_owns ho
  exact ⟨ad, cap, by rw [← hn]; exact he, hs, hb⟩
theorem v_Sub (s : BitVec 64) (m : Int) (l : List (BitVec 64)) (c : Int) (n : Nat) (h1 : msubs s m = (l, c)) (hn : l.length = n) (w : World) (hT : Tab w) : Calls Tryd.prog 40 #[.int .u64 (iv s), .int .i64 m] w fun e w' =>
    ∃ ad cap, e = .returned (.tuple #[.slice ad n cap, .int .i64 c]) ∧ SlAt w' w'.heap.size ad (vs l) ∧ Below w.heap.size w w' := by
  have h2 := c_Subsets s m w hT
  rw [h1] at h2
  refine h2.mono fun e w' ⟨v, he, ho, hb⟩ => ?_
  obtain ⟨ad, cap, rfl, hs⟩ := SlAt.of_owns ho
  exact ⟨ad, cap, by rw [← hn]; exact he, hs, hb⟩
theorem v_refSub (s : BitVec 64) (m : Int) (l : List (BitVec 64)) (c : Int) (n : Nat) (h1 : msubs s m = (l, c)) (hn : l.length = n) (w : World) : Calls Tryd.prog 41 #[.int .u64 (iv s), .int .i64 m] w fun e w' =>
    ∃ ad cap, e = .returned (.tuple #[.slice ad n cap, .int .i64 c]) ∧ SlAt w' w'.heap.size ad (vs l) ∧ Below w.heap.size w w' := by
  have h2 := c_refSubsets s m w
  rw [h1] at h2
  refine h2.mono fun e w' ⟨v, he, ho, hb⟩ => ?_
  obtain ⟨ad, cap, rfl, hs⟩ := SlAt.of_owns ho
  exact ⟨ad, cap, by rw [← hn]; exact he, hs, hb⟩
theorem mof_both (ad : Option Addr) (n c : Nat) (xs : List Int) (w0 : World) (hn : xs.length = n) (hmax : n ≤ maxLen) (hx : SlAt w0 w0.heap.size ad (vi xs)) :
    (∃ t, (∀ w, Below w0.heap.size w0 w → Calls Tryd.prog 25 #[.slice ad n c] w fun e w' => e = .returned (.tuple #[.int .u64 (iv t), .int .i64 0]) ∧ w = w') ∧
      (∀ w, Below w0.heap.size w0 w → Calls Tryd.prog 26 #[.slice ad n c] w fun e w' => e = .returned (.tuple #[.int .u64 (iv t), .bool true]) ∧ w = w')) ∨
    ((∀ w, Below w0.heap.size w0 w → Calls Tryd.prog 25 #[.slice ad n c] w fun e w' => e = .returned (.tuple #[.int .u64 0, .int .i64 2]) ∧ w = w') ∧
      (∀ w, Below w0.heap.size w0 w → Calls Tryd.prog 26 #[.slice ad n c] w fun e w' => e = .returned (.tuple #[.int .u64 0, .bool false]) ∧ w = w')) := by
  have h1 := fun w hb => c_Of ad n c xs w w0.heap.size hn hmax (hx.below hb)
  have h2 := fun w hb => c_refOf ad n c xs w w0.heap.size hn hmax (hx.below hb)
  cases hm : mof xs with
  | none => rw [hm] at h1 h2; exact .inr ⟨h1, h2⟩
  | some t => rw [hm] at h1 h2; exact .inl ⟨t, h1, h2⟩


set_option maxRecDepth 8000 in
set_option maxHeartbeats 2000000 in
theorem tells_ya (s : BitVec 64) (i k most : Int) (ad : Option Addr) (n c : Nat) (w : World) (hT : Tab w) (hn : ¬ 100 < n) (hk0 : -9223372036854775808 ≤ k) (hk1 : k ≤ 9223372036854775807) (hm : 65536 < most) (t : BitVec 64) 
    (h1 : ∀ w1, Below w.heap.size w w1 → Calls Tryd.prog 25 #[.slice ad n c] w1 fun e w' => e = .returned (.tuple #[.int .u64 (iv t), .int .i64 0]) ∧ w1 = w')
    (h2 : ∀ w1, Below w.heap.size w w1 → Calls Tryd.prog 26 #[.slice ad n c] w1 fun e w' => e = .returned (.tuple #[.int .u64 (iv t), .bool true]) ∧ w1 = w') :
    Calls Tryd.prog 3 #[.int .u64 (iv s), .int .i64 i, .int .i64 k, .slice ad n c, .int .i64 most] w fun e w' => e = .returned (.bool true) ∧ Below w.heap.size w w' := by
  have hB := Below.refl w.heap.size w
  obtain ⟨m, ml, em, HL⟩ := v_Len s
  have HOf := Lib.hid h1
  have HRef := Lib.hid h2
  have hrall := fun w => c_refAll i w
  rw [rall_mall] at hrall
  have HRall := Lib.hid hrall
  have HList := Lib.hid (fun w hT => v_List s m em.symm w hT)
  have HRList := Lib.hid (fun w => v_refList s m em.symm w)
  have hel : ((Mk.elems s).map fun (x : Nat) => (x : Int)).length = m := by rw [List.length_map, em]
  have hints := fun ad bd ca cb w N hx hy => c_Ints ad bd m m ca cb ((Mk.elems s).map fun (x : Nat) => (x : Int)) _ w N hel hel (by unfold maxLen; omega) hx hy
  simp only [beq_self_eq_true] at hints
  have HInts := Lib.hid hints
  have hrn1 := fun w => c_refNext s (-1) w
  rw [next_minus] at hrn1
  have HRN1 := Lib.hid hrn1
  have HPick := Lib.hid (fun w hT => c_Pick s k w hT hk0 hk1)
  have hcode := msubs_code s most
  have hlen := msubs_len s most
  obtain ⟨l, cc, hlc⟩ : ∃ l cc, msubs s most = (l, cc) := ⟨_, _, rfl⟩
  rw [hlc] at hcode hlen
  simp only at hcode hlen
  obtain ⟨hc0, hc5⟩ := hcode
  obtain ⟨ll, hll⟩ : ∃ ll, l.length = ll := ⟨_, rfl⟩
  have HSub := Lib.hid (fun w hT => v_Sub s most l cc ll hlc hll w hT)
  have HRSub := Lib.hid (fun w => v_refSub s most l cc ll hlc hll w)
  have hsets := fun ad bd ca cb w N hx hy => c_Sets ad bd ll ll ca cb l l w N hll hll (by unfold maxLen; omega) hx hy
  simp only [beq_self_eq_true] at hsets
  have HSets := Lib.hid hsets
  clear h1 h2 hrall hel hints hrn1 hlc hll hsets hlen em hk0 hk1
  go_enter Tryd.func3, Tryd.ntmps3
  go_wp2_with (first | (go_at_call 25; (with_reducible refine (HOf.out _ (by assumption)).mono ?_); rintro e wn ⟨rfl, rfl⟩) | (go_at_call 26; (with_reducible refine (HRef.out _ (by assumption)).mono ?_); rintro e wn ⟨rfl, rfl⟩) | (go_at_call 27; (with_reducible refine (c_All _ _).mono ?_); rintro e wn ⟨rfl, rfl⟩) | (go_at_call 28; (with_reducible refine (HRall.out _).mono ?_); rintro e wn ⟨rfl, rfl⟩) | (go_at_call 30; (with_reducible refine (HList.out _ (by assumption)).mono ?_); rintro e w1 ⟨ad1, cap1, rfl, hsl, hb⟩; have HSL := Lib.hid hsl; clear hsl; have hT := Tab.below' hb (by assumption); have hB := Below.chain (by assumption : Below w.heap.size w _) hb; clear hb) | (go_at_call 31; (with_reducible refine (HRList.out _).mono ?_); rintro e w2 ⟨ad2, cap2, rfl, hsl, hb⟩; have HSL1 := Lib.hid ((HSL.out.below hb).mono hb.size); have HSL2 := Lib.hid hsl; clear hsl; have hT := Tab.below' hb (by assumption); have hB := Below.chain (by assumption : Below w.heap.size w _) hb; clear hb) | (go_at_call 31; (with_reducible refine (HRList.out _).mono ?_); rintro e w3 ⟨ad3, cap3, rfl, _, hb⟩; have hT := Tab.below' hb (by assumption); have hB := Below.chain (by assumption : Below w.heap.size w _) hb; clear hb) | (go_at_call 29; (with_reducible refine (HInts.out _ _ _ _ _ _ HSL1.out HSL2.out).mono ?_); rintro e wn ⟨rfl, d, rfl⟩; have hT := Tab.drewN (by assumption : Tab w2) d; have hB := below_drewN (by assumption : Below w.heap.size w w2) d) | (go_at_call 32; (with_reducible refine (HL.out _ (by assumption)).mono ?_); rintro e wn ⟨rfl, hb⟩; have hT := Tab.below' hb (by assumption); have hB := Below.chain (by assumption : Below w.heap.size w _) hb; clear hb) | (go_at_call 33; (with_reducible refine (c_Rank _ _ _ (by assumption)).mono ?_); rintro e wn ⟨rfl, hb⟩; have hT := Tab.below' hb (by assumption); have hB := Below.chain (by assumption : Below w.heap.size w _) hb; clear hb) | (go_at_call 34; (with_reducible refine (c_refRank _ _ _).mono ?_); rintro e wn ⟨rfl, rfl⟩) | (go_at_call 35; (with_reducible refine (c_First _ _ (by assumption)).mono ?_); rintro e wn ⟨rfl, hb⟩; have hT := Tab.below' hb (by assumption); have hB := Below.chain (by assumption : Below w.heap.size w _) hb; clear hb) | (go_at_call 36; (with_reducible refine (HRN1.out _).mono ?_); rintro e wn ⟨rfl, rfl⟩) | (go_at_call 36; (with_reducible refine (c_refNext _ _ _).mono ?_); rintro e wn ⟨rfl, rfl⟩) | (go_at_call 37; (with_reducible refine (c_Next _ _ _ (by assumption)).mono ?_); rintro e wn ⟨rfl, hb⟩; have hT := Tab.below' hb (by assumption); have hB := Below.chain (by assumption : Below w.heap.size w _) hb; clear hb) | (go_at_call 38; (with_reducible refine (HPick.out _ (by assumption)).mono ?_); rintro e wn ⟨rfl, hb⟩; have hT := Tab.below' hb (by assumption); have hB := Below.chain (by assumption : Below w.heap.size w _) hb; clear hb) | (go_at_call 39; (with_reducible refine (c_refPick _ _ _).mono ?_); rintro e wn ⟨rfl, hb⟩; have hT := Tab.below' hb (by assumption); have hB := Below.chain (by assumption : Below w.heap.size w _) hb; clear hb) | (go_at_call 40; (with_reducible refine (HSub.out _ (by assumption)).mono ?_); rintro e w4 ⟨ad4, cap4, rfl, hsl, hb⟩; have HSL4 := Lib.hid hsl; clear hsl; have hT := Tab.below' hb (by assumption); have hB := Below.chain (by assumption : Below w.heap.size w _) hb; clear hb) | (go_at_call 41; (with_reducible refine (HRSub.out _).mono ?_); rintro e w5 ⟨ad5, cap5, rfl, hsl, hb⟩; have HSL5 := Lib.hid ((HSL4.out.below hb).mono hb.size); have HSL6 := Lib.hid hsl; clear hsl; have hT := Tab.below' hb (by assumption); have hB := Below.chain (by assumption : Below w.heap.size w _) hb; clear hb) | (go_at_call 42; (with_reducible refine (HSets.out _ _ _ _ _ _ HSL5.out HSL6.out).mono ?_); rintro e wn ⟨rfl, d, rfl⟩; have hT := Tab.drewN (by assumption : Tab w5) d; have hB := below_drewN (by assumption : Below w.heap.size w w5) d) | (go_at_call 24; (with_reducible refine (c_awake1 _ (by assumption)).mono ?_); rintro e wn ⟨rfl, hb⟩; have hT := Tab.below' hb (by assumption); have hB := Below.chain (by assumption : Below w.heap.size w _) hb; clear hb))
  all_goals go_ret
  all_goals exact ⟨rfl, by assumption⟩

set_option maxRecDepth 8000 in
set_option maxHeartbeats 2000000 in
theorem tells_yb (s : BitVec 64) (i k most : Int) (ad : Option Addr) (n c : Nat) (w : World) (hT : Tab w) (hn : ¬ 100 < n) (hk0 : -9223372036854775808 ≤ k) (hk1 : k ≤ 9223372036854775807) (hm : most ≤ 4096) (t : BitVec 64) 
    (h1 : ∀ w1, Below w.heap.size w w1 → Calls Tryd.prog 25 #[.slice ad n c] w1 fun e w' => e = .returned (.tuple #[.int .u64 (iv t), .int .i64 0]) ∧ w1 = w')
    (h2 : ∀ w1, Below w.heap.size w w1 → Calls Tryd.prog 26 #[.slice ad n c] w1 fun e w' => e = .returned (.tuple #[.int .u64 (iv t), .bool true]) ∧ w1 = w') :
    Calls Tryd.prog 3 #[.int .u64 (iv s), .int .i64 i, .int .i64 k, .slice ad n c, .int .i64 most] w fun e w' => e = .returned (.bool true) ∧ Below w.heap.size w w' := by
  have hB := Below.refl w.heap.size w
  obtain ⟨m, ml, em, HL⟩ := v_Len s
  have HOf := Lib.hid h1
  have HRef := Lib.hid h2
  have hrall := fun w => c_refAll i w
  rw [rall_mall] at hrall
  have HRall := Lib.hid hrall
  have HList := Lib.hid (fun w hT => v_List s m em.symm w hT)
  have HRList := Lib.hid (fun w => v_refList s m em.symm w)
  have hel : ((Mk.elems s).map fun (x : Nat) => (x : Int)).length = m := by rw [List.length_map, em]
  have hints := fun ad bd ca cb w N hx hy => c_Ints ad bd m m ca cb ((Mk.elems s).map fun (x : Nat) => (x : Int)) _ w N hel hel (by unfold maxLen; omega) hx hy
  simp only [beq_self_eq_true] at hints
  have HInts := Lib.hid hints
  have hrn1 := fun w => c_refNext s (-1) w
  rw [next_minus] at hrn1
  have HRN1 := Lib.hid hrn1
  have HPick := Lib.hid (fun w hT => c_Pick s k w hT hk0 hk1)
  have hcode := msubs_code s most
  have hlen := msubs_len s most
  obtain ⟨l, cc, hlc⟩ : ∃ l cc, msubs s most = (l, cc) := ⟨_, _, rfl⟩
  rw [hlc] at hcode hlen
  simp only at hcode hlen
  obtain ⟨hc0, hc5⟩ := hcode
  obtain ⟨ll, hll⟩ : ∃ ll, l.length = ll := ⟨_, rfl⟩
  have HSub := Lib.hid (fun w hT => v_Sub s most l cc ll hlc hll w hT)
  have HRSub := Lib.hid (fun w => v_refSub s most l cc ll hlc hll w)
  have hsets := fun ad bd ca cb w N hx hy => c_Sets ad bd ll ll ca cb l l w N hll hll (by unfold maxLen; omega) hx hy
  simp only [beq_self_eq_true] at hsets
  have HSets := Lib.hid hsets
  clear h1 h2 hrall hel hints hrn1 hlc hll hsets hlen em hk0 hk1
  go_enter Tryd.func3, Tryd.ntmps3
  go_wp2_with (first | (go_at_call 25; (with_reducible refine (HOf.out _ (by assumption)).mono ?_); rintro e wn ⟨rfl, rfl⟩) | (go_at_call 26; (with_reducible refine (HRef.out _ (by assumption)).mono ?_); rintro e wn ⟨rfl, rfl⟩) | (go_at_call 27; (with_reducible refine (c_All _ _).mono ?_); rintro e wn ⟨rfl, rfl⟩) | (go_at_call 28; (with_reducible refine (HRall.out _).mono ?_); rintro e wn ⟨rfl, rfl⟩) | (go_at_call 30; (with_reducible refine (HList.out _ (by assumption)).mono ?_); rintro e w1 ⟨ad1, cap1, rfl, hsl, hb⟩; have HSL := Lib.hid hsl; clear hsl; have hT := Tab.below' hb (by assumption); have hB := Below.chain (by assumption : Below w.heap.size w _) hb; clear hb) | (go_at_call 31; (with_reducible refine (HRList.out _).mono ?_); rintro e w2 ⟨ad2, cap2, rfl, hsl, hb⟩; have HSL1 := Lib.hid ((HSL.out.below hb).mono hb.size); have HSL2 := Lib.hid hsl; clear hsl; have hT := Tab.below' hb (by assumption); have hB := Below.chain (by assumption : Below w.heap.size w _) hb; clear hb) | (go_at_call 31; (with_reducible refine (HRList.out _).mono ?_); rintro e w3 ⟨ad3, cap3, rfl, _, hb⟩; have hT := Tab.below' hb (by assumption); have hB := Below.chain (by assumption : Below w.heap.size w _) hb; clear hb) | (go_at_call 29; (with_reducible refine (HInts.out _ _ _ _ _ _ HSL1.out HSL2.out).mono ?_); rintro e wn ⟨rfl, d, rfl⟩; have hT := Tab.drewN (by assumption : Tab w2) d; have hB := below_drewN (by assumption : Below w.heap.size w w2) d) | (go_at_call 32; (with_reducible refine (HL.out _ (by assumption)).mono ?_); rintro e wn ⟨rfl, hb⟩; have hT := Tab.below' hb (by assumption); have hB := Below.chain (by assumption : Below w.heap.size w _) hb; clear hb) | (go_at_call 33; (with_reducible refine (c_Rank _ _ _ (by assumption)).mono ?_); rintro e wn ⟨rfl, hb⟩; have hT := Tab.below' hb (by assumption); have hB := Below.chain (by assumption : Below w.heap.size w _) hb; clear hb) | (go_at_call 34; (with_reducible refine (c_refRank _ _ _).mono ?_); rintro e wn ⟨rfl, rfl⟩) | (go_at_call 35; (with_reducible refine (c_First _ _ (by assumption)).mono ?_); rintro e wn ⟨rfl, hb⟩; have hT := Tab.below' hb (by assumption); have hB := Below.chain (by assumption : Below w.heap.size w _) hb; clear hb) | (go_at_call 36; (with_reducible refine (HRN1.out _).mono ?_); rintro e wn ⟨rfl, rfl⟩) | (go_at_call 36; (with_reducible refine (c_refNext _ _ _).mono ?_); rintro e wn ⟨rfl, rfl⟩) | (go_at_call 37; (with_reducible refine (c_Next _ _ _ (by assumption)).mono ?_); rintro e wn ⟨rfl, hb⟩; have hT := Tab.below' hb (by assumption); have hB := Below.chain (by assumption : Below w.heap.size w _) hb; clear hb) | (go_at_call 38; (with_reducible refine (HPick.out _ (by assumption)).mono ?_); rintro e wn ⟨rfl, hb⟩; have hT := Tab.below' hb (by assumption); have hB := Below.chain (by assumption : Below w.heap.size w _) hb; clear hb) | (go_at_call 39; (with_reducible refine (c_refPick _ _ _).mono ?_); rintro e wn ⟨rfl, hb⟩; have hT := Tab.below' hb (by assumption); have hB := Below.chain (by assumption : Below w.heap.size w _) hb; clear hb) | (go_at_call 40; (with_reducible refine (HSub.out _ (by assumption)).mono ?_); rintro e w4 ⟨ad4, cap4, rfl, hsl, hb⟩; have HSL4 := Lib.hid hsl; clear hsl; have hT := Tab.below' hb (by assumption); have hB := Below.chain (by assumption : Below w.heap.size w _) hb; clear hb) | (go_at_call 41; (with_reducible refine (HRSub.out _).mono ?_); rintro e w5 ⟨ad5, cap5, rfl, hsl, hb⟩; have HSL5 := Lib.hid ((HSL4.out.below hb).mono hb.size); have HSL6 := Lib.hid hsl; clear hsl; have hT := Tab.below' hb (by assumption); have hB := Below.chain (by assumption : Below w.heap.size w _) hb; clear hb) | (go_at_call 42; (with_reducible refine (HSets.out _ _ _ _ _ _ HSL5.out HSL6.out).mono ?_); rintro e wn ⟨rfl, d, rfl⟩; have hT := Tab.drewN (by assumption : Tab w5) d; have hB := below_drewN (by assumption : Below w.heap.size w w5) d) | (go_at_call 24; (with_reducible refine (c_awake1 _ (by assumption)).mono ?_); rintro e wn ⟨rfl, hb⟩; have hT := Tab.below' hb (by assumption); have hB := Below.chain (by assumption : Below w.heap.size w _) hb; clear hb))
  all_goals go_ret
  all_goals exact ⟨rfl, by assumption⟩

set_option maxRecDepth 8000 in
set_option maxHeartbeats 2000000 in
theorem tells_yc (s : BitVec 64) (i k most : Int) (ad : Option Addr) (n c : Nat) (w : World) (hT : Tab w) (hn : ¬ 100 < n) (hk0 : -9223372036854775808 ≤ k) (hk1 : k ≤ 9223372036854775807) (hm : 4096 < most) (hm2 : most ≤ 65536) (t : BitVec 64) 
    (h1 : ∀ w1, Below w.heap.size w w1 → Calls Tryd.prog 25 #[.slice ad n c] w1 fun e w' => e = .returned (.tuple #[.int .u64 (iv t), .int .i64 0]) ∧ w1 = w')
    (h2 : ∀ w1, Below w.heap.size w w1 → Calls Tryd.prog 26 #[.slice ad n c] w1 fun e w' => e = .returned (.tuple #[.int .u64 (iv t), .bool true]) ∧ w1 = w') :
    Calls Tryd.prog 3 #[.int .u64 (iv s), .int .i64 i, .int .i64 k, .slice ad n c, .int .i64 most] w fun e w' => e = .returned (.bool true) ∧ Below w.heap.size w w' := by
  have hB := Below.refl w.heap.size w
  obtain ⟨m, ml, em, HL⟩ := v_Len s
  have HOf := Lib.hid h1
  have HRef := Lib.hid h2
  have hrall := fun w => c_refAll i w
  rw [rall_mall] at hrall
  have HRall := Lib.hid hrall
  have HList := Lib.hid (fun w hT => v_List s m em.symm w hT)
  have HRList := Lib.hid (fun w => v_refList s m em.symm w)
  have hel : ((Mk.elems s).map fun (x : Nat) => (x : Int)).length = m := by rw [List.length_map, em]
  have hints := fun ad bd ca cb w N hx hy => c_Ints ad bd m m ca cb ((Mk.elems s).map fun (x : Nat) => (x : Int)) _ w N hel hel (by unfold maxLen; omega) hx hy
  simp only [beq_self_eq_true] at hints
  have HInts := Lib.hid hints
  have hrn1 := fun w => c_refNext s (-1) w
  rw [next_minus] at hrn1
  have HRN1 := Lib.hid hrn1
  have HPick := Lib.hid (fun w hT => c_Pick s k w hT hk0 hk1)
  have hcode := msubs_code s 4096
  have hlen := msubs_len s 4096
  obtain ⟨l, cc, hlc⟩ : ∃ l cc, msubs s 4096 = (l, cc) := ⟨_, _, rfl⟩
  rw [hlc] at hcode hlen
  simp only at hcode hlen
  obtain ⟨hc0, hc5⟩ := hcode
  obtain ⟨ll, hll⟩ : ∃ ll, l.length = ll := ⟨_, rfl⟩
  have HSub := Lib.hid (fun w hT => v_Sub s 4096 l cc ll hlc hll w hT)
  have HRSub := Lib.hid (fun w => v_refSub s 4096 l cc ll hlc hll w)
  have hsets := fun ad bd ca cb w N hx hy => c_Sets ad bd ll ll ca cb l l w N hll hll (by unfold maxLen; omega) hx hy
  simp only [beq_self_eq_true] at hsets
  have HSets := Lib.hid hsets
  clear h1 h2 hrall hel hints hrn1 hlc hll hsets hlen em hk0 hk1
  go_enter Tryd.func3, Tryd.ntmps3
  go_wp2_with (first | (go_at_call 25; (with_reducible refine (HOf.out _ (by assumption)).mono ?_); rintro e wn ⟨rfl, rfl⟩) | (go_at_call 26; (with_reducible refine (HRef.out _ (by assumption)).mono ?_); rintro e wn ⟨rfl, rfl⟩) | (go_at_call 27; (with_reducible refine (c_All _ _).mono ?_); rintro e wn ⟨rfl, rfl⟩) | (go_at_call 28; (with_reducible refine (HRall.out _).mono ?_); rintro e wn ⟨rfl, rfl⟩) | (go_at_call 30; (with_reducible refine (HList.out _ (by assumption)).mono ?_); rintro e w1 ⟨ad1, cap1, rfl, hsl, hb⟩; have HSL := Lib.hid hsl; clear hsl; have hT := Tab.below' hb (by assumption); have hB := Below.chain (by assumption : Below w.heap.size w _) hb; clear hb) | (go_at_call 31; (with_reducible refine (HRList.out _).mono ?_); rintro e w2 ⟨ad2, cap2, rfl, hsl, hb⟩; have HSL1 := Lib.hid ((HSL.out.below hb).mono hb.size); have HSL2 := Lib.hid hsl; clear hsl; have hT := Tab.below' hb (by assumption); have hB := Below.chain (by assumption : Below w.heap.size w _) hb; clear hb) | (go_at_call 31; (with_reducible refine (HRList.out _).mono ?_); rintro e w3 ⟨ad3, cap3, rfl, _, hb⟩; have hT := Tab.below' hb (by assumption); have hB := Below.chain (by assumption : Below w.heap.size w _) hb; clear hb) | (go_at_call 29; (with_reducible refine (HInts.out _ _ _ _ _ _ HSL1.out HSL2.out).mono ?_); rintro e wn ⟨rfl, d, rfl⟩; have hT := Tab.drewN (by assumption : Tab w2) d; have hB := below_drewN (by assumption : Below w.heap.size w w2) d) | (go_at_call 32; (with_reducible refine (HL.out _ (by assumption)).mono ?_); rintro e wn ⟨rfl, hb⟩; have hT := Tab.below' hb (by assumption); have hB := Below.chain (by assumption : Below w.heap.size w _) hb; clear hb) | (go_at_call 33; (with_reducible refine (c_Rank _ _ _ (by assumption)).mono ?_); rintro e wn ⟨rfl, hb⟩; have hT := Tab.below' hb (by assumption); have hB := Below.chain (by assumption : Below w.heap.size w _) hb; clear hb) | (go_at_call 34; (with_reducible refine (c_refRank _ _ _).mono ?_); rintro e wn ⟨rfl, rfl⟩) | (go_at_call 35; (with_reducible refine (c_First _ _ (by assumption)).mono ?_); rintro e wn ⟨rfl, hb⟩; have hT := Tab.below' hb (by assumption); have hB := Below.chain (by assumption : Below w.heap.size w _) hb; clear hb) | (go_at_call 36; (with_reducible refine (HRN1.out _).mono ?_); rintro e wn ⟨rfl, rfl⟩) | (go_at_call 36; (with_reducible refine (c_refNext _ _ _).mono ?_); rintro e wn ⟨rfl, rfl⟩) | (go_at_call 37; (with_reducible refine (c_Next _ _ _ (by assumption)).mono ?_); rintro e wn ⟨rfl, hb⟩; have hT := Tab.below' hb (by assumption); have hB := Below.chain (by assumption : Below w.heap.size w _) hb; clear hb) | (go_at_call 38; (with_reducible refine (HPick.out _ (by assumption)).mono ?_); rintro e wn ⟨rfl, hb⟩; have hT := Tab.below' hb (by assumption); have hB := Below.chain (by assumption : Below w.heap.size w _) hb; clear hb) | (go_at_call 39; (with_reducible refine (c_refPick _ _ _).mono ?_); rintro e wn ⟨rfl, hb⟩; have hT := Tab.below' hb (by assumption); have hB := Below.chain (by assumption : Below w.heap.size w _) hb; clear hb) | (go_at_call 40; (with_reducible refine (HSub.out _ (by assumption)).mono ?_); rintro e w4 ⟨ad4, cap4, rfl, hsl, hb⟩; have HSL4 := Lib.hid hsl; clear hsl; have hT := Tab.below' hb (by assumption); have hB := Below.chain (by assumption : Below w.heap.size w _) hb; clear hb) | (go_at_call 41; (with_reducible refine (HRSub.out _).mono ?_); rintro e w5 ⟨ad5, cap5, rfl, hsl, hb⟩; have HSL5 := Lib.hid ((HSL4.out.below hb).mono hb.size); have HSL6 := Lib.hid hsl; clear hsl; have hT := Tab.below' hb (by assumption); have hB := Below.chain (by assumption : Below w.heap.size w _) hb; clear hb) | (go_at_call 42; (with_reducible refine (HSets.out _ _ _ _ _ _ HSL5.out HSL6.out).mono ?_); rintro e wn ⟨rfl, d, rfl⟩; have hT := Tab.drewN (by assumption : Tab w5) d; have hB := below_drewN (by assumption : Below w.heap.size w w5) d) | (go_at_call 24; (with_reducible refine (c_awake1 _ (by assumption)).mono ?_); rintro e wn ⟨rfl, hb⟩; have hT := Tab.below' hb (by assumption); have hB := Below.chain (by assumption : Below w.heap.size w _) hb; clear hb))
  all_goals go_ret
  all_goals exact ⟨rfl, by assumption⟩

set_option maxRecDepth 8000 in
set_option maxHeartbeats 2000000 in
theorem tells_na (s : BitVec 64) (i k most : Int) (ad : Option Addr) (n c : Nat) (w : World) (hT : Tab w) (hn : ¬ 100 < n) (hk0 : -9223372036854775808 ≤ k) (hk1 : k ≤ 9223372036854775807) (hm : 65536 < most) 
    (h1 : ∀ w1, Below w.heap.size w w1 → Calls Tryd.prog 25 #[.slice ad n c] w1 fun e w' => e = .returned (.tuple #[.int .u64 (0), .int .i64 2]) ∧ w1 = w')
    (h2 : ∀ w1, Below w.heap.size w w1 → Calls Tryd.prog 26 #[.slice ad n c] w1 fun e w' => e = .returned (.tuple #[.int .u64 (0), .bool false]) ∧ w1 = w') :
    Calls Tryd.prog 3 #[.int .u64 (iv s), .int .i64 i, .int .i64 k, .slice ad n c, .int .i64 most] w fun e w' => e = .returned (.bool true) ∧ Below w.heap.size w w' := by
  have hB := Below.refl w.heap.size w
  obtain ⟨m, ml, em, HL⟩ := v_Len s
  have HOf := Lib.hid h1
  have HRef := Lib.hid h2
  have hrall := fun w => c_refAll i w
  rw [rall_mall] at hrall
  have HRall := Lib.hid hrall
  have HList := Lib.hid (fun w hT => v_List s m em.symm w hT)
  have HRList := Lib.hid (fun w => v_refList s m em.symm w)
  have hel : ((Mk.elems s).map fun (x : Nat) => (x : Int)).length = m := by rw [List.length_map, em]
  have hints := fun ad bd ca cb w N hx hy => c_Ints ad bd m m ca cb ((Mk.elems s).map fun (x : Nat) => (x : Int)) _ w N hel hel (by unfold maxLen; omega) hx hy
  simp only [beq_self_eq_true] at hints
  have HInts := Lib.hid hints
  have hrn1 := fun w => c_refNext s (-1) w
  rw [next_minus] at hrn1
  have HRN1 := Lib.hid hrn1
  have HPick := Lib.hid (fun w hT => c_Pick s k w hT hk0 hk1)
  have hcode := msubs_code s most
  have hlen := msubs_len s most
  obtain ⟨l, cc, hlc⟩ : ∃ l cc, msubs s most = (l, cc) := ⟨_, _, rfl⟩
  rw [hlc] at hcode hlen
  simp only at hcode hlen
  obtain ⟨hc0, hc5⟩ := hcode
  obtain ⟨ll, hll⟩ : ∃ ll, l.length = ll := ⟨_, rfl⟩
  have HSub := Lib.hid (fun w hT => v_Sub s most l cc ll hlc hll w hT)
  have HRSub := Lib.hid (fun w => v_refSub s most l cc ll hlc hll w)
  have hsets := fun ad bd ca cb w N hx hy => c_Sets ad bd ll ll ca cb l l w N hll hll (by unfold maxLen; omega) hx hy
  simp only [beq_self_eq_true] at hsets
  have HSets := Lib.hid hsets
  clear h1 h2 hrall hel hints hrn1 hlc hll hsets hlen em hk0 hk1
  go_enter Tryd.func3, Tryd.ntmps3
  go_wp2_with (first | (go_at_call 25; (with_reducible refine (HOf.out _ (by assumption)).mono ?_); rintro e wn ⟨rfl, rfl⟩) | (go_at_call 26; (with_reducible refine (HRef.out _ (by assumption)).mono ?_); rintro e wn ⟨rfl, rfl⟩) | (go_at_call 27; (with_reducible refine (c_All _ _).mono ?_); rintro e wn ⟨rfl, rfl⟩) | (go_at_call 28; (with_reducible refine (HRall.out _).mono ?_); rintro e wn ⟨rfl, rfl⟩) | (go_at_call 30; (with_reducible refine (HList.out _ (by assumption)).mono ?_); rintro e w1 ⟨ad1, cap1, rfl, hsl, hb⟩; have HSL := Lib.hid hsl; clear hsl; have hT := Tab.below' hb (by assumption); have hB := Below.chain (by assumption : Below w.heap.size w _) hb; clear hb) | (go_at_call 31; (with_reducible refine (HRList.out _).mono ?_); rintro e w2 ⟨ad2, cap2, rfl, hsl, hb⟩; have HSL1 := Lib.hid ((HSL.out.below hb).mono hb.size); have HSL2 := Lib.hid hsl; clear hsl; have hT := Tab.below' hb (by assumption); have hB := Below.chain (by assumption : Below w.heap.size w _) hb; clear hb) | (go_at_call 31; (with_reducible refine (HRList.out _).mono ?_); rintro e w3 ⟨ad3, cap3, rfl, _, hb⟩; have hT := Tab.below' hb (by assumption); have hB := Below.chain (by assumption : Below w.heap.size w _) hb; clear hb) | (go_at_call 29; (with_reducible refine (HInts.out _ _ _ _ _ _ HSL1.out HSL2.out).mono ?_); rintro e wn ⟨rfl, d, rfl⟩; have hT := Tab.drewN (by assumption : Tab w2) d; have hB := below_drewN (by assumption : Below w.heap.size w w2) d) | (go_at_call 32; (with_reducible refine (HL.out _ (by assumption)).mono ?_); rintro e wn ⟨rfl, hb⟩; have hT := Tab.below' hb (by assumption); have hB := Below.chain (by assumption : Below w.heap.size w _) hb; clear hb) | (go_at_call 33; (with_reducible refine (c_Rank _ _ _ (by assumption)).mono ?_); rintro e wn ⟨rfl, hb⟩; have hT := Tab.below' hb (by assumption); have hB := Below.chain (by assumption : Below w.heap.size w _) hb; clear hb) | (go_at_call 34; (with_reducible refine (c_refRank _ _ _).mono ?_); rintro e wn ⟨rfl, rfl⟩) | (go_at_call 35; (with_reducible refine (c_First _ _ (by assumption)).mono ?_); rintro e wn ⟨rfl, hb⟩; have hT := Tab.below' hb (by assumption); have hB := Below.chain (by assumption : Below w.heap.size w _) hb; clear hb) | (go_at_call 36; (with_reducible refine (HRN1.out _).mono ?_); rintro e wn ⟨rfl, rfl⟩) | (go_at_call 36; (with_reducible refine (c_refNext _ _ _).mono ?_); rintro e wn ⟨rfl, rfl⟩) | (go_at_call 37; (with_reducible refine (c_Next _ _ _ (by assumption)).mono ?_); rintro e wn ⟨rfl, hb⟩; have hT := Tab.below' hb (by assumption); have hB := Below.chain (by assumption : Below w.heap.size w _) hb; clear hb) | (go_at_call 38; (with_reducible refine (HPick.out _ (by assumption)).mono ?_); rintro e wn ⟨rfl, hb⟩; have hT := Tab.below' hb (by assumption); have hB := Below.chain (by assumption : Below w.heap.size w _) hb; clear hb) | (go_at_call 39; (with_reducible refine (c_refPick _ _ _).mono ?_); rintro e wn ⟨rfl, hb⟩; have hT := Tab.below' hb (by assumption); have hB := Below.chain (by assumption : Below w.heap.size w _) hb; clear hb) | (go_at_call 40; (with_reducible refine (HSub.out _ (by assumption)).mono ?_); rintro e w4 ⟨ad4, cap4, rfl, hsl, hb⟩; have HSL4 := Lib.hid hsl; clear hsl; have hT := Tab.below' hb (by assumption); have hB := Below.chain (by assumption : Below w.heap.size w _) hb; clear hb) | (go_at_call 41; (with_reducible refine (HRSub.out _).mono ?_); rintro e w5 ⟨ad5, cap5, rfl, hsl, hb⟩; have HSL5 := Lib.hid ((HSL4.out.below hb).mono hb.size); have HSL6 := Lib.hid hsl; clear hsl; have hT := Tab.below' hb (by assumption); have hB := Below.chain (by assumption : Below w.heap.size w _) hb; clear hb) | (go_at_call 42; (with_reducible refine (HSets.out _ _ _ _ _ _ HSL5.out HSL6.out).mono ?_); rintro e wn ⟨rfl, d, rfl⟩; have hT := Tab.drewN (by assumption : Tab w5) d; have hB := below_drewN (by assumption : Below w.heap.size w w5) d) | (go_at_call 24; (with_reducible refine (c_awake1 _ (by assumption)).mono ?_); rintro e wn ⟨rfl, hb⟩; have hT := Tab.below' hb (by assumption); have hB := Below.chain (by assumption : Below w.heap.size w _) hb; clear hb))
  all_goals go_ret
  all_goals exact ⟨rfl, by assumption⟩

set_option maxRecDepth 8000 in
set_option maxHeartbeats 2000000 in
theorem tells_nb (s : BitVec 64) (i k most : Int) (ad : Option Addr) (n c : Nat) (w : World) (hT : Tab w) (hn : ¬ 100 < n) (hk0 : -9223372036854775808 ≤ k) (hk1 : k ≤ 9223372036854775807) (hm : most ≤ 4096) 
    (h1 : ∀ w1, Below w.heap.size w w1 → Calls Tryd.prog 25 #[.slice ad n c] w1 fun e w' => e = .returned (.tuple #[.int .u64 (0), .int .i64 2]) ∧ w1 = w')
    (h2 : ∀ w1, Below w.heap.size w w1 → Calls Tryd.prog 26 #[.slice ad n c] w1 fun e w' => e = .returned (.tuple #[.int .u64 (0), .bool false]) ∧ w1 = w') :
    Calls Tryd.prog 3 #[.int .u64 (iv s), .int .i64 i, .int .i64 k, .slice ad n c, .int .i64 most] w fun e w' => e = .returned (.bool true) ∧ Below w.heap.size w w' := by
  have hB := Below.refl w.heap.size w
  obtain ⟨m, ml, em, HL⟩ := v_Len s
  have HOf := Lib.hid h1
  have HRef := Lib.hid h2
  have hrall := fun w => c_refAll i w
  rw [rall_mall] at hrall
  have HRall := Lib.hid hrall
  have HList := Lib.hid (fun w hT => v_List s m em.symm w hT)
  have HRList := Lib.hid (fun w => v_refList s m em.symm w)
  have hel : ((Mk.elems s).map fun (x : Nat) => (x : Int)).length = m := by rw [List.length_map, em]
  have hints := fun ad bd ca cb w N hx hy => c_Ints ad bd m m ca cb ((Mk.elems s).map fun (x : Nat) => (x : Int)) _ w N hel hel (by unfold maxLen; omega) hx hy
  simp only [beq_self_eq_true] at hints
  have HInts := Lib.hid hints
  have hrn1 := fun w => c_refNext s (-1) w
  rw [next_minus] at hrn1
  have HRN1 := Lib.hid hrn1
  have HPick := Lib.hid (fun w hT => c_Pick s k w hT hk0 hk1)
  have hcode := msubs_code s most
  have hlen := msubs_len s most
  obtain ⟨l, cc, hlc⟩ : ∃ l cc, msubs s most = (l, cc) := ⟨_, _, rfl⟩
  rw [hlc] at hcode hlen
  simp only at hcode hlen
  obtain ⟨hc0, hc5⟩ := hcode
  obtain ⟨ll, hll⟩ : ∃ ll, l.length = ll := ⟨_, rfl⟩
  have HSub := Lib.hid (fun w hT => v_Sub s most l cc ll hlc hll w hT)
  have HRSub := Lib.hid (fun w => v_refSub s most l cc ll hlc hll w)
  have hsets := fun ad bd ca cb w N hx hy => c_Sets ad bd ll ll ca cb l l w N hll hll (by unfold maxLen; omega) hx hy
  simp only [beq_self_eq_true] at hsets
  have HSets := Lib.hid hsets
  clear h1 h2 hrall hel hints hrn1 hlc hll hsets hlen em hk0 hk1
  go_enter Tryd.func3, Tryd.ntmps3
  go_wp2_with (first | (go_at_call 25; (with_reducible refine (HOf.out _ (by assumption)).mono ?_); rintro e wn ⟨rfl, rfl⟩) | (go_at_call 26; (with_reducible refine (HRef.out _ (by assumption)).mono ?_); rintro e wn ⟨rfl, rfl⟩) | (go_at_call 27; (with_reducible refine (c_All _ _).mono ?_); rintro e wn ⟨rfl, rfl⟩) | (go_at_call 28; (with_reducible refine (HRall.out _).mono ?_); rintro e wn ⟨rfl, rfl⟩) | (go_at_call 30; (with_reducible refine (HList.out _ (by assumption)).mono ?_); rintro e w1 ⟨ad1, cap1, rfl, hsl, hb⟩; have HSL := Lib.hid hsl; clear hsl; have hT := Tab.below' hb (by assumption); have hB := Below.chain (by assumption : Below w.heap.size w _) hb; clear hb) | (go_at_call 31; (with_reducible refine (HRList.out _).mono ?_); rintro e w2 ⟨ad2, cap2, rfl, hsl, hb⟩; have HSL1 := Lib.hid ((HSL.out.below hb).mono hb.size); have HSL2 := Lib.hid hsl; clear hsl; have hT := Tab.below' hb (by assumption); have hB := Below.chain (by assumption : Below w.heap.size w _) hb; clear hb) | (go_at_call 31; (with_reducible refine (HRList.out _).mono ?_); rintro e w3 ⟨ad3, cap3, rfl, _, hb⟩; have hT := Tab.below' hb (by assumption); have hB := Below.chain (by assumption : Below w.heap.size w _) hb; clear hb) | (go_at_call 29; (with_reducible refine (HInts.out _ _ _ _ _ _ HSL1.out HSL2.out).mono ?_); rintro e wn ⟨rfl, d, rfl⟩; have hT := Tab.drewN (by assumption : Tab w2) d; have hB := below_drewN (by assumption : Below w.heap.size w w2) d) | (go_at_call 32; (with_reducible refine (HL.out _ (by assumption)).mono ?_); rintro e wn ⟨rfl, hb⟩; have hT := Tab.below' hb (by assumption); have hB := Below.chain (by assumption : Below w.heap.size w _) hb; clear hb) | (go_at_call 33; (with_reducible refine (c_Rank _ _ _ (by assumption)).mono ?_); rintro e wn ⟨rfl, hb⟩; have hT := Tab.below' hb (by assumption); have hB := Below.chain (by assumption : Below w.heap.size w _) hb; clear hb) | (go_at_call 34; (with_reducible refine (c_refRank _ _ _).mono ?_); rintro e wn ⟨rfl, rfl⟩) | (go_at_call 35; (with_reducible refine (c_First _ _ (by assumption)).mono ?_); rintro e wn ⟨rfl, hb⟩; have hT := Tab.below' hb (by assumption); have hB := Below.chain (by assumption : Below w.heap.size w _) hb; clear hb) | (go_at_call 36; (with_reducible refine (HRN1.out _).mono ?_); rintro e wn ⟨rfl, rfl⟩) | (go_at_call 36; (with_reducible refine (c_refNext _ _ _).mono ?_); rintro e wn ⟨rfl, rfl⟩) | (go_at_call 37; (with_reducible refine (c_Next _ _ _ (by assumption)).mono ?_); rintro e wn ⟨rfl, hb⟩; have hT := Tab.below' hb (by assumption); have hB := Below.chain (by assumption : Below w.heap.size w _) hb; clear hb) | (go_at_call 38; (with_reducible refine (HPick.out _ (by assumption)).mono ?_); rintro e wn ⟨rfl, hb⟩; have hT := Tab.below' hb (by assumption); have hB := Below.chain (by assumption : Below w.heap.size w _) hb; clear hb) | (go_at_call 39; (with_reducible refine (c_refPick _ _ _).mono ?_); rintro e wn ⟨rfl, hb⟩; have hT := Tab.below' hb (by assumption); have hB := Below.chain (by assumption : Below w.heap.size w _) hb; clear hb) | (go_at_call 40; (with_reducible refine (HSub.out _ (by assumption)).mono ?_); rintro e w4 ⟨ad4, cap4, rfl, hsl, hb⟩; have HSL4 := Lib.hid hsl; clear hsl; have hT := Tab.below' hb (by assumption); have hB := Below.chain (by assumption : Below w.heap.size w _) hb; clear hb) | (go_at_call 41; (with_reducible refine (HRSub.out _).mono ?_); rintro e w5 ⟨ad5, cap5, rfl, hsl, hb⟩; have HSL5 := Lib.hid ((HSL4.out.below hb).mono hb.size); have HSL6 := Lib.hid hsl; clear hsl; have hT := Tab.below' hb (by assumption); have hB := Below.chain (by assumption : Below w.heap.size w _) hb; clear hb) | (go_at_call 42; (with_reducible refine (HSets.out _ _ _ _ _ _ HSL5.out HSL6.out).mono ?_); rintro e wn ⟨rfl, d, rfl⟩; have hT := Tab.drewN (by assumption : Tab w5) d; have hB := below_drewN (by assumption : Below w.heap.size w w5) d) | (go_at_call 24; (with_reducible refine (c_awake1 _ (by assumption)).mono ?_); rintro e wn ⟨rfl, hb⟩; have hT := Tab.below' hb (by assumption); have hB := Below.chain (by assumption : Below w.heap.size w _) hb; clear hb))
  all_goals go_ret
  all_goals exact ⟨rfl, by assumption⟩

set_option maxRecDepth 8000 in
set_option maxHeartbeats 2000000 in
theorem tells_nc (s : BitVec 64) (i k most : Int) (ad : Option Addr) (n c : Nat) (w : World) (hT : Tab w) (hn : ¬ 100 < n) (hk0 : -9223372036854775808 ≤ k) (hk1 : k ≤ 9223372036854775807) (hm : 4096 < most) (hm2 : most ≤ 65536) 
    (h1 : ∀ w1, Below w.heap.size w w1 → Calls Tryd.prog 25 #[.slice ad n c] w1 fun e w' => e = .returned (.tuple #[.int .u64 (0), .int .i64 2]) ∧ w1 = w')
    (h2 : ∀ w1, Below w.heap.size w w1 → Calls Tryd.prog 26 #[.slice ad n c] w1 fun e w' => e = .returned (.tuple #[.int .u64 (0), .bool false]) ∧ w1 = w') :
    Calls Tryd.prog 3 #[.int .u64 (iv s), .int .i64 i, .int .i64 k, .slice ad n c, .int .i64 most] w fun e w' => e = .returned (.bool true) ∧ Below w.heap.size w w' := by
  have hB := Below.refl w.heap.size w
  obtain ⟨m, ml, em, HL⟩ := v_Len s
  have HOf := Lib.hid h1
  have HRef := Lib.hid h2
  have hrall := fun w => c_refAll i w
  rw [rall_mall] at hrall
  have HRall := Lib.hid hrall
  have HList := Lib.hid (fun w hT => v_List s m em.symm w hT)
  have HRList := Lib.hid (fun w => v_refList s m em.symm w)
  have hel : ((Mk.elems s).map fun (x : Nat) => (x : Int)).length = m := by rw [List.length_map, em]
  have hints := fun ad bd ca cb w N hx hy => c_Ints ad bd m m ca cb ((Mk.elems s).map fun (x : Nat) => (x : Int)) _ w N hel hel (by unfold maxLen; omega) hx hy
  simp only [beq_self_eq_true] at hints
  have HInts := Lib.hid hints
  have hrn1 := fun w => c_refNext s (-1) w
  rw [next_minus] at hrn1
  have HRN1 := Lib.hid hrn1
  have HPick := Lib.hid (fun w hT => c_Pick s k w hT hk0 hk1)
  have hcode := msubs_code s 4096
  have hlen := msubs_len s 4096
  obtain ⟨l, cc, hlc⟩ : ∃ l cc, msubs s 4096 = (l, cc) := ⟨_, _, rfl⟩
  rw [hlc] at hcode hlen
  simp only at hcode hlen
  obtain ⟨hc0, hc5⟩ := hcode
  obtain ⟨ll, hll⟩ : ∃ ll, l.length = ll := ⟨_, rfl⟩
  have HSub := Lib.hid (fun w hT => v_Sub s 4096 l cc ll hlc hll w hT)
  have HRSub := Lib.hid (fun w => v_refSub s 4096 l cc ll hlc hll w)
  have hsets := fun ad bd ca cb w N hx hy => c_Sets ad bd ll ll ca cb l l w N hll hll (by unfold maxLen; omega) hx hy
  simp only [beq_self_eq_true] at hsets
  have HSets := Lib.hid hsets
  clear h1 h2 hrall hel hints hrn1 hlc hll hsets hlen em hk0 hk1
  go_enter Tryd.func3, Tryd.ntmps3
  go_wp2_with (first | (go_at_call 25; (with_reducible refine (HOf.out _ (by assumption)).mono ?_); rintro e wn ⟨rfl, rfl⟩) | (go_at_call 26; (with_reducible refine (HRef.out _ (by assumption)).mono ?_); rintro e wn ⟨rfl, rfl⟩) | (go_at_call 27; (with_reducible refine (c_All _ _).mono ?_); rintro e wn ⟨rfl, rfl⟩) | (go_at_call 28; (with_reducible refine (HRall.out _).mono ?_); rintro e wn ⟨rfl, rfl⟩) | (go_at_call 30; (with_reducible refine (HList.out _ (by assumption)).mono ?_); rintro e w1 ⟨ad1, cap1, rfl, hsl, hb⟩; have HSL := Lib.hid hsl; clear hsl; have hT := Tab.below' hb (by assumption); have hB := Below.chain (by assumption : Below w.heap.size w _) hb; clear hb) | (go_at_call 31; (with_reducible refine (HRList.out _).mono ?_); rintro e w2 ⟨ad2, cap2, rfl, hsl, hb⟩; have HSL1 := Lib.hid ((HSL.out.below hb).mono hb.size); have HSL2 := Lib.hid hsl; clear hsl; have hT := Tab.below' hb (by assumption); have hB := Below.chain (by assumption : Below w.heap.size w _) hb; clear hb) | (go_at_call 31; (with_reducible refine (HRList.out _).mono ?_); rintro e w3 ⟨ad3, cap3, rfl, _, hb⟩; have hT := Tab.below' hb (by assumption); have hB := Below.chain (by assumption : Below w.heap.size w _) hb; clear hb) | (go_at_call 29; (with_reducible refine (HInts.out _ _ _ _ _ _ HSL1.out HSL2.out).mono ?_); rintro e wn ⟨rfl, d, rfl⟩; have hT := Tab.drewN (by assumption : Tab w2) d; have hB := below_drewN (by assumption : Below w.heap.size w w2) d) | (go_at_call 32; (with_reducible refine (HL.out _ (by assumption)).mono ?_); rintro e wn ⟨rfl, hb⟩; have hT := Tab.below' hb (by assumption); have hB := Below.chain (by assumption : Below w.heap.size w _) hb; clear hb) | (go_at_call 33; (with_reducible refine (c_Rank _ _ _ (by assumption)).mono ?_); rintro e wn ⟨rfl, hb⟩; have hT := Tab.below' hb (by assumption); have hB := Below.chain (by assumption : Below w.heap.size w _) hb; clear hb) | (go_at_call 34; (with_reducible refine (c_refRank _ _ _).mono ?_); rintro e wn ⟨rfl, rfl⟩) | (go_at_call 35; (with_reducible refine (c_First _ _ (by assumption)).mono ?_); rintro e wn ⟨rfl, hb⟩; have hT := Tab.below' hb (by assumption); have hB := Below.chain (by assumption : Below w.heap.size w _) hb; clear hb) | (go_at_call 36; (with_reducible refine (HRN1.out _).mono ?_); rintro e wn ⟨rfl, rfl⟩) | (go_at_call 36; (with_reducible refine (c_refNext _ _ _).mono ?_); rintro e wn ⟨rfl, rfl⟩) | (go_at_call 37; (with_reducible refine (c_Next _ _ _ (by assumption)).mono ?_); rintro e wn ⟨rfl, hb⟩; have hT := Tab.below' hb (by assumption); have hB := Below.chain (by assumption : Below w.heap.size w _) hb; clear hb) | (go_at_call 38; (with_reducible refine (HPick.out _ (by assumption)).mono ?_); rintro e wn ⟨rfl, hb⟩; have hT := Tab.below' hb (by assumption); have hB := Below.chain (by assumption : Below w.heap.size w _) hb; clear hb) | (go_at_call 39; (with_reducible refine (c_refPick _ _ _).mono ?_); rintro e wn ⟨rfl, hb⟩; have hT := Tab.below' hb (by assumption); have hB := Below.chain (by assumption : Below w.heap.size w _) hb; clear hb) | (go_at_call 40; (with_reducible refine (HSub.out _ (by assumption)).mono ?_); rintro e w4 ⟨ad4, cap4, rfl, hsl, hb⟩; have HSL4 := Lib.hid hsl; clear hsl; have hT := Tab.below' hb (by assumption); have hB := Below.chain (by assumption : Below w.heap.size w _) hb; clear hb) | (go_at_call 41; (with_reducible refine (HRSub.out _).mono ?_); rintro e w5 ⟨ad5, cap5, rfl, hsl, hb⟩; have HSL5 := Lib.hid ((HSL4.out.below hb).mono hb.size); have HSL6 := Lib.hid hsl; clear hsl; have hT := Tab.below' hb (by assumption); have hB := Below.chain (by assumption : Below w.heap.size w _) hb; clear hb) | (go_at_call 42; (with_reducible refine (HSets.out _ _ _ _ _ _ HSL5.out HSL6.out).mono ?_); rintro e wn ⟨rfl, d, rfl⟩; have hT := Tab.drewN (by assumption : Tab w5) d; have hB := below_drewN (by assumption : Below w.heap.size w w5) d) | (go_at_call 24; (with_reducible refine (c_awake1 _ (by assumption)).mono ?_); rintro e wn ⟨rfl, hb⟩; have hT := Tab.below' hb (by assumption); have hB := Below.chain (by assumption : Below w.heap.size w _) hb; clear hb))
  all_goals go_ret
  all_goals exact ⟨rfl, by assumption⟩

set_option maxRecDepth 8000 in
/-- **MarksTells.** -/
theorem w_MarksTells (s : BitVec 64) (i k most : Int) (ad : Option Addr) (n c : Nat) (xs : List Int) (w : World) (hT : Tab w) (hx : SlAt w w.heap.size ad (vi xs)) (hn : xs.length = n) (hmax : n ≤ maxLen) (hk0 : -9223372036854775808 ≤ k) (hk1 : k ≤ 9223372036854775807) :
    Calls Tryd.prog 3 #[.int .u64 (iv s), .int .i64 i, .int .i64 k, .slice ad n c, .int .i64 most] w fun e w' => e = .returned (.bool true) ∧ Below w.heap.size w w' := by
  by_cases hbig : 100 < n
  · have hB := Below.refl w.heap.size w
    unfold maxLen at hmax
    clear hx hn hk0 hk1
    go_enter Tryd.func3, Tryd.ntmps3
    go_wp2_with ((go_at_call 24; (with_reducible refine (c_awake1 _ (by assumption)).mono ?_); rintro e wn ⟨rfl, hb⟩; have hT := Tab.below' hb (by assumption); have hB := Below.chain (by assumption : Below w.heap.size w _) hb; clear hb))
    go_ret
    exact ⟨rfl, by assumption⟩
  · rcases mof_both ad n c xs w hn hmax hx with ⟨t, h1, h2⟩ | ⟨h1, h2⟩
    · rcases Int.lt_or_le 65536 most with hm | hm
      · exact tells_ya s i k most ad n c w hT hbig hk0 hk1 hm t h1 h2
      · rcases Int.lt_or_le 4096 most with hm2 | hm2
        · exact tells_yc s i k most ad n c w hT hbig hk0 hk1 hm2 hm t h1 h2
        · exact tells_yb s i k most ad n c w hT hbig hk0 hk1 hm2 t h1 h2
    · rcases Int.lt_or_le 65536 most with hm | hm
      · exact tells_na s i k most ad n c w hT hbig hk0 hk1 hm h1 h2
      · rcases Int.lt_or_le 4096 most with hm2 | hm2
        · exact tells_nc s i k most ad n c w hT hbig hk0 hk1 hm2 hm h1 h2
        · exact tells_nb s i k most ad n c w hT hbig hk0 hk1 hm2 h1 h2
end Go.Proofs.YtgegmoedgegkcaaDoor
