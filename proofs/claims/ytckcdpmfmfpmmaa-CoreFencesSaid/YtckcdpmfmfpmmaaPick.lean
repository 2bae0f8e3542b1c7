/-
  seisinkit.Pick.
-/
import Derived.Test.YtckcdpmfmfpmmaaFrame2
namespace Go.Proofs.Ytckcdpmfmfpmmaa
open Go.RowKit

/-- Pick among five. -/
theorem c_Pick (x : Int) (h0 : -9223372036854775808 ≤ x) (h1 : x ≤ 9223372036854775807) (w : World) : Calls Try.prog 20 #[.int .i64 x, .int .i64 5] w fun e w' => e = .returned (.int .i64 (x % 5)) ∧ w = w' := by
  by_cases hx : 0 ≤ x
  · have hd := Int.emod_nonneg x (show (5 : Int) ≠ 0 by omega)
    have e1 : x.tmod 5 = x % 5 := Int.tmod_eq_emod_of_nonneg hx
    have e2 : ¬ (x % 5 < 0) := by omega
    have H1 := Lib.hid e1
    go_enter Try.func20, Try.ntmps20
    go_wp2
    go_ret
    exact ⟨rfl, rfl⟩
  · have hm : x.tmod 5 = -((-x) % 5) := by
      have : x = -(-x) := by omega
      rw [this, Int.neg_tmod, Int.tmod_eq_emod_of_nonneg (by omega)]; simp
    by_cases hz : x % 5 = 0
    · have e1 : x.tmod 5 = 0 := by rw [hm]; omega
      have HZ := Lib.hid hz
      clear hz hm
      go_enter Try.func20, Try.ntmps20
      go_wp2
      go_ret
      exact ⟨by rw [HZ.out]; rfl, rfl⟩
    · obtain ⟨r, hr⟩ : ∃ r, x.tmod 5 = r := ⟨_, rfl⟩
      have hr2 : r < 0 := by rw [← hr, hm]; omega
      have HR := Lib.hid (show r + 5 = x % 5 by rw [← hr, hm]; omega)
      have hw : IntKind.i64.wrap (r + 5) = r + 5 := by rw [IntKind.wrap_i64]; have := HR.out; omega
      clear hz hm
      go_enter Try.func20, Try.ntmps20
      go_wp2
      go_ret
      exact ⟨by rw [← HR.out]; rfl, rfl⟩
end Go.Proofs.Ytckcdpmfmfpmmaa
