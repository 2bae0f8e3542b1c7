/-
  What the rows of this seat share: arguments that came in, opened.
-/
import Derived.Test.YtckcdpmfmfpmmaaRows
import Derived.Test.YtckcdpmfmfpmmaaLCalcs
import Derived.WalkKit
import Derived.ProofKit
import Derived.OpenShut
import Derived.Deep.DeepHandedRow
import Derived.JoinedOf
import Derived.LaidLaws
namespace Go.Proofs.Ytckcdpmfmfpmmaa
open Go.ChangeShapes Go.WideShapes Go.ChangeAt Go.RowKit

theorem own : ownKnob Try.prog.godebug = none := by kernel_rfl
theorem laidOut : laidOutB Try.prog = true := by kernel_rfl
theorem cell_u8 {W : World} {base : Nat} {t : TypeId} {v : Value} (hu : Try.prog.underlying t = some (.int .u8)) (h : Cell.okWide Try.prog W .any base t v) : ∃ x : Int, v = .int .u8 x ∧ 0 ≤ x ∧ x ≤ 255 := by
  unfold Cell.okWide at h
  simp only [hu] at h
  unfold Cell.ok at h
  simp only [hu] at h
  cases v <;> simp only at h
  obtain ⟨rfl, h2⟩ := h
  exact ⟨_, rfl, h2⟩
theorem cell_i64 {W : World} {base : Nat} {t : TypeId} {v : Value} (hu : Try.prog.underlying t = some (.int .i64)) (h : Cell.okWide Try.prog W .any base t v) : ∃ x : Int, v = .int .i64 x ∧ -9223372036854775808 ≤ x ∧ x ≤ 9223372036854775807 := by
  unfold Cell.okWide at h
  simp only [hu] at h
  unfold Cell.ok at h
  simp only [hu] at h
  cases v <;> simp only at h
  obtain ⟨rfl, h2⟩ := h
  exact ⟨_, rfl, h2⟩
theorem cell_bool {W : World} {base : Nat} {t : TypeId} {v : Value} (hu : Try.prog.underlying t = some .bool) (h : Cell.okWide Try.prog W .any base t v) : ∃ x : Bool, v = .bool x := by
  unfold Cell.okWide at h
  simp only [hu] at h
  unfold Cell.ok at h
  simp only [hu] at h
  cases v <;> simp only at h
  exact ⟨_, rfl⟩
theorem cell_slice {W : World} {base : Nat} {t e : TypeId} {v : Value} (hu : Try.prog.underlying t = some (.slice e)) (h : Cell.okWide Try.prog W .any base t v) : ∃ a n c, v = .slice a n c := by
  unfold Cell.okWide at h
  simp only [hu] at h
  cases v <;> simp_all [Cell.ok]
/-- A struct or an array that came in, cell by cell. -/
theorem agg_of_ok {W : World} {base : Nat} {v : Value} {T : TypeId} {d : TypeDesc} {ts : List TypeId} (hd : (match d with | .struct _ | .array _ _ => true | _ => false) = true) (hu : Try.prog.underlying T = some d) (hc : Try.prog.cellsOf T = ts.length) (ht : Try.prog.cellTypes Try.prog.depth T = some ts)
    (h : Value.okWide Try.prog W .any base T v) : ∃ cs : Array Value, v = .agg cs ∧ cs.size = ts.length ∧ ∀ i (hi : i < cs.size) t, ts[i]? = some t → Cell.okWide Try.prog W .any base t cs[i] := by
  unfold Value.okWide at h
  have h2 : ∃ cs, v = .agg cs ∧ cs.size = Try.prog.cellsOf T ∧ Row.okWide Try.prog W .any base T cs := by
    rw [hu] at h
    cases d <;> first | exact h | (simp at hd)
  obtain ⟨cs, rfl, hsz, ts', hts, _, hcell⟩ := h2
  rw [ht, Option.some.injEq] at hts
  subst hts
  refine ⟨cs, rfl, by rw [hsz, hc], fun i hi t hti => ?_⟩
  obtain ⟨u, hu2, hok⟩ := hcell i cs[i] (by simp [hi])
  rw [Nat.mod_eq_of_lt (by rw [← hc, ← hsz]; exact hi), hti, Option.some.injEq] at hu2
  subst hu2
  exact hok
theorem arr2 {cs : Array Value} {a b : Value} (h : cs.size = 2) (h0 : cs[0]'(by omega) = a) (h1 : cs[1]'(by omega) = b) : cs = #[a, b] := by
  subst h0 h1
  refine Array.ext (by simpa using h) fun i h1 h2 => ?_
  match i with
  | 0 => rfl
  | 1 => rfl
  | i + 2 => exact absurd h2 (by simp)
theorem arg_of_ok {W : World} {base : Nat} {v : Value} (h : Value.okWide Try.prog W .any base 23 v) : ∃ (reg : Bool) (n : Int), v = .agg #[.bool reg, .int .u8 n] ∧ 0 ≤ n ∧ n ≤ 255 := by
  obtain ⟨cs, rfl, hs, hc⟩ := agg_of_ok (ts := [4, 5]) rfl Try.underlying23 (by kernel_rfl) (by kernel_rfl) h
  simp only [List.length_cons, List.length_nil] at hs
  obtain ⟨b, hb⟩ := cell_bool Try.underlying4 (hc 0 (by omega) 4 rfl)
  obtain ⟨n, hn, hb2⟩ := cell_u8 Try.underlying5 (hc 1 (by omega) 5 rfl)
  exact ⟨b, n, by rw [arr2 hs hb hn], hb2⟩
theorem regs_of_ok {W : World} {base : Nat} {v : Value} (h : Value.okWide Try.prog W .any base 24 v) : ∃ r : Nat → Int, v = .agg (rg8 r) ∧ ∀ i, 0 ≤ r i ∧ r i ≤ 255 := by
  obtain ⟨cs, rfl, hs, hc⟩ := agg_of_ok (ts := List.replicate 8 5) rfl Try.underlying24 (by kernel_rfl) (by kernel_rfl) h
  rw [List.length_replicate] at hs
  have h1 : ∀ i (hi : i < cs.size), ∃ x : Int, cs[i] = .int .u8 x ∧ 0 ≤ x ∧ x ≤ 255 := fun i hi => cell_u8 Try.underlying5 (hc i hi 5 (by rw [List.getElem?_replicate_of_lt (by omega)]))
  refine ⟨fun i => if hi : i < cs.size then (h1 i hi).choose else 0, ?_, fun i => ?_⟩
  · congr 1
    refine Array.ext (hs.trans rfl) fun i ha hb => ?_
    have hr : ∀ (r : Nat → Int) i (hi : i < 8), (rg8 r)[i]'(by show i < 8; omega) = .int .u8 (r i) := by
      intro r i hi
      have : i = 0 ∨ i = 1 ∨ i = 2 ∨ i = 3 ∨ i = 4 ∨ i = 5 ∨ i = 6 ∨ i = 7 := by omega
      rcases this with rfl | rfl | rfl | rfl | rfl | rfl | rfl | rfl <;> rfl
    rw [hr _ i (by omega), dif_pos ha]
    exact (h1 i ha).choose_spec.1
  · by_cases hi : i < cs.size
    · simp only [dif_pos hi]; exact (h1 i hi).choose_spec.2
    · simp only [dif_neg hi]; omega
end Go.Proofs.Ytckcdpmfmfpmmaa
