/-
  A relation that came in as an argument.
-/
import Derived.Test.YtgegmoedgegkcaaDoorFrame
import Derived.Test.YtgegmoedgegkcaaDoorRelA
namespace Go.Proofs.YtgegmoedgegkcaaDoor
open Go.ChangeShapes Go.WideShapes Go.ChangeAt Go.RowKit

theorem cells53 : Tryd.prog.cellsOf 53 = 49 := by kernel_rfl
theorem types53 : Tryd.prog.cellTypes Tryd.prog.depth 53 = some (3 :: List.replicate 48 23) := by kernel_rfl
theorem has_i64 {k : IntKind} {n : Int} (h : k.has n) : k.min ≤ n ∧ n ≤ k.max := h
set_option maxRecDepth 8000 in
theorem rel_of_ok {W : World} {base : Nat} {v : Value} (h : Value.okWide Tryd.prog W .any base 53 v) : ∃ (n : Int) (f : Nat → BitVec 64), v = .agg (rcs n f) ∧ -9223372036854775808 ≤ n ∧ n ≤ 9223372036854775807 := by
  unfold Value.okWide at h
  simp only [Tryd.underlying53] at h
  obtain ⟨cs, rfl, hsz, ts, hts, _, hcell⟩ := h
  rw [types53, Option.some.injEq] at hts
  subst hts
  rw [cells53] at hsz
  have hlen : (3 :: List.replicate 48 23 : List TypeId).length = 49 := rfl
  have h0 : ∃ n : Int, cs[0]? = some (.int .i64 n) ∧ -9223372036854775808 ≤ n ∧ n ≤ 9223372036854775807 := by
    obtain ⟨u, hu, hc⟩ := hcell 0 cs[0] (by simp)
    simp only [hlen, Nat.zero_mod, List.getElem?_cons_zero, Option.some.injEq] at hu
    subst hu
    unfold Cell.okWide at hc
    simp only [Tryd.underlying3] at hc
    unfold Cell.ok at hc
    simp only [Tryd.underlying3] at hc
    rw [Array.getElem?_eq_getElem (by omega)]
    cases hv : cs[0] <;> rw [hv] at hc <;> simp only at hc
    obtain ⟨rfl, h2⟩ := hc
    exact ⟨_, rfl, h2⟩
  have h1 : ∀ i, i < 48 → ∃ s : BitVec 64, cs[1 + i]? = some (.int .u64 (iv s)) := by
    intro i hi
    obtain ⟨u, hu, hc⟩ := hcell (1 + i) cs[1 + i] (by simp)
    rw [hlen, Nat.mod_eq_of_lt (by omega), Nat.add_comm, List.getElem?_cons_succ, List.getElem?_replicate_of_lt hi, Option.some.injEq] at hu
    subst hu
    unfold Cell.okWide at hc
    simp only [Tryd.underlying23] at hc
    unfold Cell.ok at hc
    simp only [Tryd.underlying23] at hc
    rw [Array.getElem?_eq_getElem (by omega)]
    cases hv : cs[1 + i] <;> rw [hv] at hc <;> simp only at hc
    obtain ⟨rfl, h2⟩ := hc
    rename_i z
    refine ⟨BitVec.ofInt 64 z, ?_⟩
    rw [iv_of h2.1 (by have h3 : z ≤ (18446744073709551615 : Int) := h2.2; omega)]
  obtain ⟨n, hn, hb⟩ := h0
  refine ⟨n, fun i => if h : i < 48 then Classical.choose (h1 i h) else 0#64, ?_, hb⟩
  congr 1
  refine Array.ext_getElem? fun i => ?_
  rcases Nat.eq_zero_or_pos i with h | h
  · subst h; rw [rcs_zero, hn]
  · obtain ⟨j, rfl⟩ : ∃ j, i = 1 + j := ⟨i - 1, by omega⟩
    by_cases hj : j < 48
    · rw [rcs_get _ _ hj, dif_pos hj]; exact Classical.choose_spec (h1 j hj)
    · rw [Array.getElem?_eq_none (by omega), Array.getElem?_eq_none (by rw [rcs_size]; omega)]
end Go.Proofs.YtgegmoedgegkcaaDoor
