/-
  Plain facts on sets of 64 bits: the list of the elements, its least one, and what s and (s - 1) leave. No condition.
-/
import Derived.Lib.TrailingZeros
namespace Go.Proofs.YtgegmoedgegkcaaDoor

/-- Is a number in a set? (Not reducible: the walk does not look inside.) -/
def has (s : BitVec 64) (i : Nat) : Bool := s.getLsbD i
def b2i (c : Bool) : Int := if c then 1 else 0

namespace Mk

/-- The elements of a set of 64 bits, rising. -/
def elems (s : BitVec 64) : List Nat := (List.range 64).filter (fun i => s.getLsbD i)

theorem mem_elems {s : BitVec 64} {i : Nat} : i ∈ elems s ↔ s.getLsbD i = true := by
  simp only [elems, List.mem_filter, List.mem_range]
  exact ⟨fun h => h.2, fun h => ⟨BitVec.lt_of_getLsbD h, h⟩⟩

theorem elems_sorted (s : BitVec 64) : (elems s).Pairwise (· < ·) := List.Pairwise.filter _ List.pairwise_lt_range

theorem sorted_ext : ∀ {l m : List Nat}, l.Pairwise (· < ·) → m.Pairwise (· < ·) → (∀ x, x ∈ l ↔ x ∈ m) → l = m
  | [], [], _, _, _ => rfl
  | [], b :: m, _, _, h => by have := (h b).2 (by simp); simp at this
  | a :: l, [], _, _, h => by have := (h a).1 (by simp); simp at this
  | a :: l, b :: m, hl, hm, h => by
    rw [List.pairwise_cons] at hl hm
    have hab : a = b := by
      have h1 := (h a).1 (by simp)
      have h2 := (h b).2 (by simp)
      rcases List.mem_cons.1 h1 with h1 | h1
      · exact h1
      · rcases List.mem_cons.1 h2 with h2 | h2
        · exact h2.symm
        · have := hl.1 b h2; have := hm.1 a h1; omega
    subst hab
    congr 1
    refine sorted_ext hl.2 hm.2 fun x => ?_
    have hx := h x
    simp only [List.mem_cons] at hx
    constructor
    · intro hxl
      rcases hx.1 (.inr hxl) with h1 | h1
      · subst h1; exact absurd (hl.1 _ hxl) (by omega)
      · exact h1
    · intro hxm
      rcases hx.2 (.inr hxm) with h1 | h1
      · subst h1; exact absurd (hm.1 _ hxm) (by omega)
      · exact h1

theorem elems_lt {s : BitVec 64} {i : Nat} (h : i ∈ elems s) : i < 64 := BitVec.lt_of_getLsbD (mem_elems.1 h)

theorem elems_zero : elems 0#64 = [] := by decide

/-- The number of the least bit. -/
def low (s : BitVec 64) : Nat := Lib.ctz 64 s.toNat

theorem low_spec (s : BitVec 64) (h : s ≠ 0#64) : ∃ m, s.toNat = 2 ^ low s * (2 * m + 1) ∧ low s < 64 := by
  have h0 : 0 < s.toNat := by
    rcases Nat.eq_zero_or_pos s.toNat with e | e
    · exact absurd (BitVec.eq_of_toNat_eq (by simpa using e)) h
    · exact e
  have hlow : low s = Lib.ctzFrom 64 s.toNat := by simp only [low, Lib.ctz]; rw [if_neg (by omega)]
  rw [hlow]
  exact Lib.ctzFrom_spec 64 s.toNat h0 s.isLt

theorem bits_both (s : BitVec 64) (h : s ≠ 0#64) : ∃ m : Nat, (∀ j, s.getLsbD j = if j < low s then false else if j = low s then true else m.testBit (j - low s - 1)) ∧
    ∀ j, j < 64 → (s - 1#64).getLsbD j = if j < low s then true else if j = low s then false else m.testBit (j - low s - 1) := by
  obtain ⟨m, hm, hlt⟩ := low_spec s h
  generalize low s = c at *
  have hpos : 0 < 2 ^ c := Nat.two_pow_pos c
  refine ⟨m, fun j => ?_, fun j hj => ?_⟩
  · rw [← BitVec.testBit_toNat, hm]
    have := Nat.testBit_two_pow_mul_add (2 * m + 1) (b := 0) (i := c) hpos j
    simp only [Nat.add_zero] at this
    rw [this]
    split
    · simp
    · split
      · rename_i h1 h2; subst h2; simp
      · obtain ⟨d, hd⟩ : ∃ d, j - c = d + 1 := ⟨j - c - 1, by omega⟩
        rw [hd, show d + 1 - 1 = d from rfl, Nat.testBit_succ]
        congr 1; omega
  · rw [← BitVec.testBit_toNat, BitVec.toNat_sub]
    have e1 : (2 ^ 64 - (1#64).toNat + s.toNat) % 2 ^ 64 = 2 ^ c * (2 * m) + (2 ^ c - 1) := by
      have := s.isLt
      have e2 : (1#64).toNat = 1 := rfl
      rw [e2]
      have e3 : 2 ^ c * (2 * m + 1) = 2 ^ c * (2 * m) + 2 ^ c := by rw [Nat.mul_add, Nat.mul_one]
      omega
    rw [e1, Nat.testBit_two_pow_mul_add (2 * m) (by omega) j]
    split
    · rename_i h1; rw [Nat.testBit_two_pow_sub_one, decide_eq_true h1]
    · split
      · rename_i h1 h2; subst h2; simp
      · obtain ⟨d, hd⟩ : ∃ d, j - c = d + 1 := ⟨j - c - 1, by omega⟩
        rw [hd, show d + 1 - 1 = d from rfl, Nat.testBit_succ]
        congr 1; omega

theorem bits_pred (s : BitVec 64) (h : s ≠ 0#64) (j : Nat) (hj : j < 64) : (s - 1#64).getLsbD j = if j < low s then true else if j = low s then false else s.getLsbD j := by
  obtain ⟨m, h1, h2⟩ := bits_both s h
  rw [h2 j hj, h1 j]
  split
  · rfl
  · split <;> rfl

theorem bits_low (s : BitVec 64) (h : s ≠ 0#64) : low s < 64 ∧ s.getLsbD (low s) = true ∧ (∀ j, j < low s → s.getLsbD j = false) ∧
    ∀ j, (s &&& (s - 1#64)).getLsbD j = (s.getLsbD j && decide (j ≠ low s)) := by
  obtain ⟨_, _, hlt⟩ := low_spec s h
  obtain ⟨m, hbit, hpred⟩ := bits_both s h
  refine ⟨hlt, by rw [hbit]; simp, fun j hj => by rw [hbit, if_pos hj], fun j => ?_⟩
  rw [BitVec.getLsbD_and]
  by_cases hj : j < 64
  · rw [hbit, hpred j hj]
    split
    · simp
    · split
      · rename_i h1 h2; rw [decide_eq_false (by omega)]
      · rename_i h1 h2; rw [decide_eq_true (by omega), Bool.and_self, Bool.and_true]
  · rw [BitVec.getLsbD_of_ge s j (by omega)]; simp

theorem elems_step (s : BitVec 64) (h : s ≠ 0#64) : elems s = low s :: elems (s &&& (s - 1#64)) := by
  obtain ⟨_, h1, h2, h3⟩ := bits_low s h
  refine sorted_ext (elems_sorted s) ?_ fun x => ?_
  · rw [List.pairwise_cons]
    refine ⟨fun a ha => ?_, elems_sorted _⟩
    have := mem_elems.1 ha
    rw [h3] at this
    simp only [Bool.and_eq_true, decide_eq_true_eq] at this
    rcases Nat.lt_trichotomy a (low s) with hl | hl | hl
    · rw [h2 a hl] at this; simp at this
    · exact absurd hl this.2
    · exact hl
  · simp only [List.mem_cons, mem_elems, h3, Bool.and_eq_true, decide_eq_true_eq]
    constructor
    · intro hx
      by_cases e : x = low s
      · exact .inl e
      · exact .inr ⟨hx, e⟩
    · rintro (e | e)
      · rw [e]; exact h1
      · exact e.1

theorem elems_eq_nil {s : BitVec 64} : elems s = [] ↔ s = 0#64 := by
  constructor
  · intro h
    by_cases e : s = 0#64
    · exact e
    · rw [elems_step s e] at h; simp at h
  · rintro rfl; exact elems_zero

theorem elems_length_le (s : BitVec 64) : (elems s).length ≤ 64 := by
  have := List.length_filter_le (fun i => s.getLsbD i) (List.range 64)
  simpa [elems] using this

end Mk
end Go.Proofs.YtgegmoedgegkcaaDoor
