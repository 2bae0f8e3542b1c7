/-
  seisinlaw02.RelPlus returns true for every two relations, if the library table is laid.
-/
import Derived.Test.YtgegmoedgegkcaaDoorLPlus
import Derived.Test.YtgegmoedgegkcaaDoorLThen2
namespace Go.Proofs.YtgegmoedgegkcaaDoor
open Go.RowKit

theorem w_RelPlus (n m : Int) (f g : Nat → BitVec 64) (w : World) (hT : Tab w) :
    Calls Tryd.prog 14 #[.agg (rcs n f), .agg (rcs m g)] w fun e w' => e = .returned (.bool true) ∧ Below w.heap.size w w' := by
  obtain ⟨k, hk, hk20, hkk⟩ := fine_k n 20
  obtain ⟨k2, hk2, hk220, _⟩ := fine_k m 20
  have h48 : k ≤ 48 := by omega
  have hA := cl_fine k (by omega) f
  have hO := cl_fine k (by omega) (fineF k2 g)
  have hP := cl_plus h48 hA
  have hPO := cl_plus h48 hO
  have hM := cl_unH hA hPO
  have hN := cl_plus h48 hM
  have h8 := cc_Plus h48 hP
  rw [plus_plus h48 hA] at h8
  exact plus_walk n m f g k k2 (fineF k f) (fineF k2 g) (fineF k (fineF k2 g)) _ _ _ _ _ _
    (cc_Fine n f 20 k (by omega) hk) (cc_Fine m g 20 k2 (by omega) hk2) (cc_Fine k (fineF k2 g) 20 k (by omega) hkk) (cc_Plus h48 hA) (cc_Then h48 hP hP) (cc_In h48 hA hP (plus_ge hA)) (cc_In h48 (cl_tH hP hP) hP (then_sub hP (plus_trans h48))) h8
    (cc_Plus h48 hO) (cc_Union h48 hA hPO) (cc_Plus h48 hM) (cc_In h48 hP hN (plus_mono h48 (fun a b h => (has_unH hA hPO a b).2 (.inl h)) hM)) (cc_Then h48 hN hN) (cc_In h48 (cl_tH hN hN) hN (then_sub hN (plus_trans h48))) w hT
end Go.Proofs.YtgegmoedgegkcaaDoor
