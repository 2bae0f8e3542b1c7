/-
  seisinlaw02.RelThen returns true for every three relations, if the library table is laid.
-/
import Derived.Test.YtgegmoedgegkcaaDoorLThen
namespace Go.Proofs.YtgegmoedgegkcaaDoor
open Go.RowKit

/-- How many things Fine leaves. -/
theorem fine_k (n : Int) (M : Nat) : ∃ k : Nat, n % ((M : Int) + 1) = k ∧ k ≤ M ∧ (k : Int) % ((M : Int) + 1) = k := by
  obtain ⟨k, hk⟩ : ∃ k : Nat, n % ((M : Int) + 1) = k := ⟨(n % ((M : Int) + 1)).toNat, (Int.toNat_of_nonneg (Int.emod_nonneg _ (by omega))).symm⟩
  have h := Int.emod_lt_of_pos n (b := (M : Int) + 1) (by omega)
  exact ⟨k, hk, by omega, Int.emod_eq_of_lt (by omega) (by omega)⟩
theorem w_RelThen (n m q : Int) (f g h : Nat → BitVec 64) (w : World) (hT : Tab w) :
    Calls Tryd.prog 15 #[.agg (rcs n f), .agg (rcs m g), .agg (rcs q h)] w fun e w' => e = .returned (.bool true) ∧ Below w.heap.size w w' := by
  obtain ⟨k, hk, hk20, hkk⟩ := fine_k n 20
  have h48 : k ≤ 48 := by omega
  have hA := cl_fine k (by omega) f
  have hB := cl_fine k (by omega) g
  have hC := cl_fine k (by omega) h
  have hAB := cl_tH hA hB
  have hBC := cl_tH hB hC
  have hAC := cl_tH hA hC
  have hU := cl_unH hB hC
  have h6 := cc_Then h48 hAB hC
  rw [then_assoc hA hB] at h6
  have h11 := cc_Union h48 hAB hAC
  rw [← then_union hA hB hC] at h11
  have h17 := cc_Back h48 hAB
  rw [back_then h48 hA hB] at h17
  have h18 := cc_Back h48 (cl_bH h48 hA)
  rw [back_back h48 hA] at h18
  have h16 := cc_Then h48 hA (cl_idH (k := k) (by omega) (BitVec.allOnes 64))
  rw [then_id h48 hA] at h16
  exact then_walk n m q f g h k (fineF k f) (fineF k g) (fineF k h) _ _ _ _ _ _ _ _ _ _
    (cc_Fine n f 20 k (by omega) hk) (cc_Fine k g 20 k (by omega) hkk) (cc_Fine k h 20 k (by omega) hkk) (cc_Then h48 hA hB) (cc_Then h48 hB hC) h6 (cc_Then h48 hA hBC) (cc_Union h48 hB hC) (cc_Then h48 hA hU) (cc_Then h48 hA hC) h11
    (cc_Back h48 hB) (cc_Back h48 hA) (cc_Then h48 (cl_bH h48 hB) (cl_bH h48 hA)) (fun w => cc_Id h48 (BitVec.allOnes 64) w) h16 h17 h18 w hT
end Go.Proofs.YtgegmoedgegkcaaDoor
