/-
  seisinlaw02.RelWrong returns true, whatever the two relations, the byte and the int.
-/
import Derived.Test.YtgegmoedgegkcaaDoorLWrong0
import Derived.Test.YtgegmoedgegkcaaDoorLWrong1
import Derived.Test.YtgegmoedgegkcaaDoorLWrong2
import Derived.Test.YtgegmoedgegkcaaDoorLWrong3
import Derived.Test.YtgegmoedgegkcaaDoorLThen2
namespace Go.Proofs.YtgegmoedgegkcaaDoor
open Go.RowKit

theorem right_less {n : Int} {f : Nat → BitVec 64} (h : n < 0) : right n f = false := by
  cases hr : right n f with
  | false => rfl
  | true => have := right_range hr; omega
theorem right_more {n : Int} {f : Nat → BitVec 64} (h : 48 < n) : right n f = false := by
  cases hr : right n f with
  | false => rfl
  | true => have := right_range hr; omega
theorem right_row {k : Nat} {f : Nat → BitVec 64} (a b : Nat) (h48 : a < 48) (hb : has (f a) b = true) (h : k ≤ a ∨ k ≤ b) : right k f = false := by
  cases hr : right k f with
  | false => rfl
  | true =>
    have := (right_iff.1 hr).2.2 a h48 b hb
    omega
theorem twoV_apart {n m : Int} (h : n ≠ m) (f g u : Nat → BitVec 64) : twoV n m f g u = .tuple #[.agg (rcs 0 fun _ => 0#64), .int .i64 2] := by
  unfold twoV twoOk
  rw [show (n == m) = false from beq_eq_false_iff_ne.2 h, Bool.and_false]; rfl
theorem w_RelWrong (n m : Int) (f g : Nat → BitVec 64) (x y : Int) (w : World) (hT : Tab w) (h0 : 0 ≤ x) (h1 : x ≤ 255) :
    Calls Tryd.prog 21 #[.agg (rcs n f), .agg (rcs m g), .int .u8 x, .int .i64 y] w fun e w' => e = .returned (.bool true) ∧ Below w.heap.size w w' := by
  obtain ⟨x, rfl⟩ : ∃ z : Nat, x = z := ⟨x.toNat, by omega⟩
  obtain ⟨k, hk, hk40, _⟩ := fine_k n 40
  have h48 : k ≤ 48 := by omega
  have hA := cl_fine k (by omega) f
  have hF := cc_Fine n f 40 k (by omega) hk
  have hB : ∀ w, Calls Tryd.prog 52 #[.agg (rcs k (fineF k f)), .agg (rcs (k + 1) fun _ => 0#64)] w fun e w' => e = .returned (.tuple #[.agg (rcs 0 fun _ => 0#64), .int .i64 2]) ∧ Below w.heap.size w w' := fun w => by
    have := c_Both k (k + 1) (fineF k f) (fun _ => 0#64) w
    rw [twoV_apart (by omega)] at this; exact this
  have hL : ∀ w, Calls Tryd.prog 71 #[.agg (rcs (k + 1) fun _ => 0#64), .agg (rcs k (fineF k f))] w fun e w' => e = .returned (.tuple #[.agg (rcs 0 fun _ => 0#64), .int .i64 2]) ∧ Below w.heap.size w w' := fun w => by
    have := c_Less (k + 1) k (fun _ => 0#64) (fineF k f) w
    rw [twoV_apart (by omega)] at this; exact this
  rcases (by omega : x % 4 = 0 ∨ x % 4 = 1 ∨ x % 4 = 2 ∨ x % 4 = 3) with hx | hx | hx | hx
  · exact wrong_walk0 n m f g k (fineF k f) x y _ _ hk40 (by omega) hx (right_less (by split <;> omega)) rfl rfl hF (hA.right h48) hB hL w hT
  · exact wrong_walk1 n m f g k (fineF k f) x y _ _ hk40 (by omega) hx (right_more (by split <;> omega)) rfl rfl hF (hA.right h48) hB hL w hT
  · exact wrong_walk2 n m f g k (fineF k f) x y _ _ hk40 (by omega) hx (right_row k 0 (by omega) (by unfold upd; rw [if_pos rfl]; rfl) (.inl (Nat.le_refl _))) rfl rfl hF (hA.right h48) hB hL w hT
  · exact wrong_walk3 n m f g k (fineF k f) x y _ _ hk40 (by omega) hx (right_row 0 k (by omega) (by unfold upd; rw [if_pos rfl, has_or, has_one k k (by omega)]; simp) (.inr (Nat.le_refl _))) rfl rfl hF (hA.right h48) hB hL w hT
end Go.Proofs.YtgegmoedgegkcaaDoor
