/-
  core.Calc, core.Test and the references, for every three bytes.
-/
import Derived.Test.YtckcdpmfmfpmmaaProg
import Derived.WalkKit
import Derived.Lib.Hide
import Derived.Laws.Bits64b
namespace Go.Proofs.Ytckcdpmfmfpmmaa
open Go.RowKit

/-- What a move computes. -/
def cal (fn a b : Int) : Int := if fn = 1 then (a + b) % 256 else if fn = 2 then (a - b) % 256 else if fn = 3 then bits .xor .u8 a b else 0
/-- What a skip asks. -/
def tst (fn a b : Int) : Bool := if fn = 4 then a == b else if fn = 5 then a != b else if fn = 6 then decide (a < b) else false
theorem xor_bd (a b : Int) : 0 ≤ bits .xor .u8 a b ∧ bits .xor .u8 a b < 256 := by
  have : ∀ x : Int, 0 ≤ IntKind.u8.wrap x ∧ IntKind.u8.wrap x < 256 := fun x => by rw [IntKind.wrap_u8]; omega
  exact this _
theorem ret_u8 {a b : Int} (h : a = b) : Ending.returned (.int .u8 a) = Ending.returned (.int .u8 b) := by rw [h]
theorem ret_b {a b : Bool} (h : a = b) : Ending.returned (.bool a) = Ending.returned (.bool b) := by rw [h]

set_option maxHeartbeats 400000 in
theorem c_Calc (fn a b : Int) (ha : 0 ≤ a ∧ a ≤ 255) (hb : 0 ≤ b ∧ b ≤ 255) (w : World) : Calls Try.prog 8 #[.int .u8 fn, .int .u8 a, .int .u8 b] w fun e w' => e = .returned (.int .u8 (cal fn a b)) ∧ w = w' := by
  obtain ⟨ha0, ha1⟩ := ha
  obtain ⟨hb0, hb1⟩ := hb
  by_cases h1 : fn = 1
  · subst h1
    have H := Lib.hid (show IntKind.u8.wrap (a + b) = cal 1 a b by rw [IntKind.wrap_u8]; rfl)
    go_enter Try.func8, Try.ntmps8
    go_wp2
    go_ret
    exact ⟨ret_u8 H.out, rfl⟩
  by_cases h2 : fn = 2
  · subst h2
    have H := Lib.hid (show IntKind.u8.wrap (a - b) = cal 2 a b by rw [IntKind.wrap_u8]; rfl)
    go_enter Try.func8, Try.ntmps8
    go_wp2
    go_ret
    exact ⟨ret_u8 H.out, rfl⟩
  by_cases h3 : fn = 3
  · subst h3
    have H := Lib.hid (show bits .xor .u8 a b = cal 3 a b from rfl)
    go_enter Try.func8, Try.ntmps8
    go_wp2
    go_ret
    exact ⟨ret_u8 H.out, rfl⟩
  have e1 : (fn == 1) = false := beq_eq_false_iff_ne.2 h1
  have e2 : (fn == 2) = false := beq_eq_false_iff_ne.2 h2
  have e3 : (fn == 3) = false := beq_eq_false_iff_ne.2 h3
  have H := Lib.hid (show 0 = cal fn a b by unfold cal; rw [if_neg h1, if_neg h2, if_neg h3])
  clear h1 h2 h3
  go_enter Try.func8, Try.ntmps8
  go_wp2
  go_ret
  exact ⟨ret_u8 H.out, rfl⟩
set_option maxHeartbeats 400000 in
theorem c_refCalc (fn a b : Int) (ha : 0 ≤ a ∧ a ≤ 255) (hb : 0 ≤ b ∧ b ≤ 255) (w : World) : Calls Try.prog 9 #[.int .u8 fn, .int .u8 a, .int .u8 b] w fun e w' => e = .returned (.int .u8 (cal fn a b)) ∧ w = w' := by
  obtain ⟨ha0, ha1⟩ := ha
  obtain ⟨hb0, hb1⟩ := hb
  by_cases h1 : fn = 1
  · subst h1
    have H := Lib.hid (show (a + b) % 256 = cal 1 a b from rfl)
    go_enter Try.func9, Try.ntmps9
    go_wp2
    go_ret
    exact ⟨ret_u8 H.out, rfl⟩
  by_cases h2 : fn = 2
  · subst h2
    have H := Lib.hid (show (a + 256 - b) % 256 = cal 2 a b by show _ = (a - b) % 256; omega)
    go_enter Try.func9, Try.ntmps9
    go_wp2
    go_ret
    exact ⟨ret_u8 H.out, rfl⟩
  by_cases h3 : fn = 3
  · subst h3
    obtain ⟨x, hx⟩ : ∃ x, bits .xor .u8 a b = x := ⟨_, rfl⟩
    have hb := xor_bd a b
    rw [hx] at hb
    obtain ⟨hx0, hx1⟩ := hb
    have H := Lib.hid (show x % 256 = cal 3 a b by show _ = bits .xor .u8 a b; rw [hx]; omega)
    go_enter Try.func9, Try.ntmps9
    go_wp2
    go_ret
    exact ⟨ret_u8 H.out, rfl⟩
  have e1 : (fn == 1) = false := beq_eq_false_iff_ne.2 h1
  have e2 : (fn == 2) = false := beq_eq_false_iff_ne.2 h2
  have e3 : (fn == 3) = false := beq_eq_false_iff_ne.2 h3
  have H := Lib.hid (show 0 = cal fn a b by unfold cal; rw [if_neg h1, if_neg h2, if_neg h3])
  clear h1 h2 h3
  go_enter Try.func9, Try.ntmps9
  go_wp2
  go_ret
  exact ⟨ret_u8 H.out, rfl⟩
set_option maxHeartbeats 400000 in
theorem c_Test (fn a b : Int) (w : World) : Calls Try.prog 10 #[.int .u8 fn, .int .u8 a, .int .u8 b] w fun e w' => e = .returned (.bool (tst fn a b)) ∧ w = w' := by
  by_cases h1 : fn = 4
  · subst h1
    go_enter Try.func10, Try.ntmps10
    go_wp2
    go_ret
    exact ⟨rfl, rfl⟩
  by_cases h2 : fn = 5
  · subst h2
    go_enter Try.func10, Try.ntmps10
    go_wp2
    go_ret
    exact ⟨rfl, rfl⟩
  by_cases h3 : fn = 6
  · subst h3
    go_enter Try.func10, Try.ntmps10
    go_wp2
    go_ret
    exact ⟨rfl, rfl⟩
  have e1 : (fn == 4) = false := beq_eq_false_iff_ne.2 h1
  have e2 : (fn == 5) = false := beq_eq_false_iff_ne.2 h2
  have e3 : (fn == 6) = false := beq_eq_false_iff_ne.2 h3
  have H := Lib.hid (show false = tst fn a b by unfold tst; rw [if_neg h1, if_neg h2, if_neg h3])
  clear h1 h2 h3
  go_enter Try.func10, Try.ntmps10
  go_wp2
  go_ret
  exact ⟨ret_b H.out, rfl⟩
set_option maxHeartbeats 1000000 in
theorem c_refTest (fn a b : Int) (w : World) : Calls Try.prog 11 #[.int .u8 fn, .int .u8 a, .int .u8 b] w fun e w' => e = .returned (.bool (tst fn a b)) ∧ w = w' := by
  have hd : ∀ (c d : Int), (c == d) = false → (c != d) = true := fun c d h => by simp [bne, h]
  by_cases h1 : fn = 4
  · subst h1
    cases hv : (a == b) with
    | true =>
      have H := Lib.hid (show true = tst 4 a b from hv.symm)
      go_enter Try.func11, Try.ntmps11
      go_wp2
      go_ret
      exact ⟨ret_b H.out, rfl⟩
    | false =>
      have H := Lib.hid (show false = tst 4 a b from hv.symm)
      clear hd
      go_enter Try.func11, Try.ntmps11
      go_wp2
      go_ret
      exact ⟨ret_b H.out, rfl⟩
  by_cases h2 : fn = 5
  · subst h2
    clear hd
    cases hv : (a != b) with
    | true =>
      have H := Lib.hid (show true = tst 5 a b from hv.symm)
      go_enter Try.func11, Try.ntmps11
      go_wp2
      go_ret
      exact ⟨ret_b H.out, rfl⟩
    | false =>
      have H := Lib.hid (show false = tst 5 a b from hv.symm)
      go_enter Try.func11, Try.ntmps11
      go_wp2
      go_ret
      exact ⟨ret_b H.out, rfl⟩
  have e1 : (fn == 4) = false := beq_eq_false_iff_ne.2 h1
  have e2 : (fn == 5) = false := beq_eq_false_iff_ne.2 h2
  clear hd
  by_cases h3 : fn = 6
  · subst h3
    cases hv : decide (a < b) with
    | true =>
      have H := Lib.hid (show true = tst 6 a b from hv.symm)
      clear e1 e2
      go_enter Try.func11, Try.ntmps11
      go_wp2
      go_ret
      exact ⟨ret_b H.out, rfl⟩
    | false =>
      have H := Lib.hid (show false = tst 6 a b from hv.symm)
      clear e1 e2
      go_enter Try.func11, Try.ntmps11
      go_wp2
      go_ret
      exact ⟨ret_b H.out, rfl⟩
  have e3 : (fn == 6) = false := beq_eq_false_iff_ne.2 h3
  have H := Lib.hid (show false = tst fn a b by unfold tst; rw [if_neg h1, if_neg h2, if_neg h3])
  clear h1 h2 h3
  go_enter Try.func11, Try.ntmps11
  go_wp2
  go_ret
  exact ⟨ret_b H.out, rfl⟩
end Go.Proofs.Ytckcdpmfmfpmmaa
