/-
  seisinlaw02.RelCross returns true for every byte and every three sets, if the library table is laid.
-/
import Derived.Test.YtgegmoedgegkcaaDoorLCross
namespace Go.Proofs.YtgegmoedgegkcaaDoor
open Go.RowKit

theorem cc_Irr {k : Nat} {f : Nat → BitVec 64} {v : Bool} (h : irrR k f = v) : CIr k f v := fun w hT => by
  have := c_Irr k f w hT
  rw [h] at this; exact this
theorem w_RelCross (x : Int) (a b c : BitVec 64) (w : World) (hT : Tab w) (h0 : 0 ≤ x) (h1 : x ≤ 255) :
    Calls Tryd.prog 17 #[.int .u8 x, .int .u64 (iv a), .int .u64 (iv b), .int .u64 (iv c)] w fun e w' => e = .returned (.bool true) ∧ Below w.heap.size w w' := by
  obtain ⟨m, rfl⟩ : ∃ m : Nat, x = m := ⟨x.toNat, (Int.toNat_of_nonneg h0).symm⟩
  obtain ⟨k, hk⟩ : ∃ k, m % 49 = k := ⟨_, rfl⟩
  have h48 : k ≤ 48 := by omega
  have hX := cl_crH h48 a b
  have hY := cl_crH h48 a c
  have hB := cl_crH h48 b c
  have h3 := cc_Union h48 hX hY
  rw [cross_union h48] at h3
  have h4 := cc_Less h48 hX hY
  rw [cross_less h48] at h4
  have h11 := cc_Back h48 hX
  rw [cross_back h48] at h11
  refine cross_walk m k a b c _ _ _ _ _ _ (crH k 0#64 0#64) _ (by omega) hk _ rfl (b &&& (1#64 <<< k - 1#64) == 0#64) rfl (cc_Cross h48 a b) (cc_Cross h48 a c) h3 h4 (cc_Cross h48 b c) (cc_Then h48 hX hB) ?_ (fun w => cc_Cross h48 0#64 0#64 w) ?_ (cc_Cross h48 a (b ||| c)) (cc_Cross h48 a (b &&& ~~~ c))
    (cc_Irr (cross_irr h48 a b)) h11 (cc_Cross h48 b a) w hT
  · intro hz
    rw [cross_then h48, if_neg (beq_eq_false_iff_ne.1 hz)]
  · intro hz
    rw [cross_then h48, if_pos (eq_of_beq hz)]
end Go.Proofs.YtgegmoedgegkcaaDoor
