/-
  Plain: cross products of sets.
-/
import Derived.Test.YtgegmoedgegkcaaDoorPPlus2
namespace Go.Proofs.YtgegmoedgegkcaaDoor
open Go.RowKit

variable {k : Nat} {f g h : Nat → BitVec 64}
def crH (k : Nat) (s t : BitVec 64) : Nat → BitVec 64 := below48 (crossF k s t) k
theorem has_crH (hk : k ≤ 48) (s t : BitVec 64) (a b : Nat) : has (crH k s t a) b = true ↔ a < k ∧ b < k ∧ has s a = true ∧ has t b = true := by
  unfold crH
  rw [has_below48]
  unfold crossF
  constructor
  · rintro ⟨h1, h2⟩
    split at h2
    · rename_i hs
      rw [has_and', has_mall] at h2
      simp only [Bool.and_eq_true, decide_eq_true_eq] at h2
      exact ⟨h1, by omega, hs, h2.1⟩
    · rw [has_zero] at h2; cases h2
  · rintro ⟨h1, h2, h3, h4⟩
    refine ⟨h1, ?_⟩
    rw [if_pos h3, has_and', has_mall, h4]
    simp only [Bool.true_and, Bool.and_eq_true, decide_eq_true_eq]
    omega
theorem cl_crH (hk : k ≤ 48) (s t : BitVec 64) : Cl k (crH k s t) := fun a b h => by
  have := (has_crH hk s t a b).1 h; omega
theorem cross_union (hk : k ≤ 48) (a b c : BitVec 64) : unH k (crH k a b) (crH k a c) = crH k a (b ||| c) := by
  refine rel_ext fun x y => ?_
  rw [has_unH (cl_crH hk a b) (cl_crH hk a c), has_crH hk, has_crH hk, has_crH hk, has_or, Bool.or_eq_true]
  constructor
  · rintro (⟨h1, h2, h3, h4⟩ | ⟨h1, h2, h3, h4⟩)
    · exact ⟨h1, h2, h3, .inl h4⟩
    · exact ⟨h1, h2, h3, .inr h4⟩
  · rintro ⟨h1, h2, h3, h4 | h4⟩
    · exact .inl ⟨h1, h2, h3, h4⟩
    · exact .inr ⟨h1, h2, h3, h4⟩
theorem cross_less (hk : k ≤ 48) (a b c : BitVec 64) : leH k (crH k a b) (crH k a c) = crH k a (b &&& ~~~ c) := by
  refine rel_ext fun x y => ?_
  rw [has_leH (cl_crH hk a b), ← Bool.not_eq_true, has_crH hk, has_crH hk, has_crH hk, has_andNot, Bool.and_eq_true, Bool.not_eq_true', ← Bool.not_eq_true]
  constructor
  · rintro ⟨⟨h1, h2, h3, h4⟩, h5⟩; exact ⟨h1, h2, h3, h4, fun h6 => h5 ⟨h1, h2, h3, h6⟩⟩
  · rintro ⟨h1, h2, h3, h4, h5⟩; exact ⟨⟨h1, h2, h3, h4⟩, fun h6 => h5 h6.2.2.2⟩
theorem has_none {s : BitVec 64} (hk : k < 64) : s &&& (1#64 <<< k - 1#64) = 0#64 ↔ ∀ x, x < k → has s x = false := by
  constructor
  · intro h x hx
    have h1 : has (s &&& (1#64 <<< k - 1#64)) x = false := by rw [h, has_zero]
    rw [has_and', has_mask k hk, decide_eq_true hx, Bool.and_true] at h1
    exact h1
  · intro h
    refine Mk.has_ext' fun x => ?_
    rw [has_and', has_mask k hk, has_zero]
    by_cases hx : x < k
    · rw [h x hx]; rfl
    · rw [decide_eq_false hx, Bool.and_false]
theorem cross_then (hk : k ≤ 48) (a b c : BitVec 64) : tH k (crH k a b) (crH k b c) = if b &&& (1#64 <<< k - 1#64) = 0#64 then crH k 0#64 0#64 else crH k a c := by
  refine rel_ext fun x y => ?_
  rw [has_tH (cl_crH hk a b)]
  split
  · rename_i h
    rw [has_none (by omega)] at h
    rw [has_crH hk, has_zero]
    constructor
    · rintro ⟨z, h1, _⟩
      obtain ⟨_, h3, _, h4⟩ := (has_crH hk a b x z).1 h1
      rw [h z h3] at h4; cases h4
    · rintro ⟨_, _, h3, _⟩; cases h3
  · rename_i h
    rw [has_crH hk]
    constructor
    · rintro ⟨z, h1, h2⟩
      obtain ⟨h3, _, h4, _⟩ := (has_crH hk a b x z).1 h1
      obtain ⟨_, h5, _, h6⟩ := (has_crH hk b c z y).1 h2
      exact ⟨h3, h5, h4, h6⟩
    · rintro ⟨h1, h2, h3, h4⟩
      obtain ⟨z, hz, hb⟩ : ∃ z, z < k ∧ has b z = true := by
        apply Classical.byContradiction
        intro hn
        refine h ((has_none (by omega)).2 fun z hz => ?_)
        cases hb : has b z with
        | false => rfl
        | true => exact absurd ⟨z, hz, hb⟩ hn
      exact ⟨z, (has_crH hk a b x z).2 ⟨h1, hz, h3, hb⟩, (has_crH hk b c z y).2 ⟨hz, h2, hb, h4⟩⟩
theorem cross_back (hk : k ≤ 48) (a b : BitVec 64) : bH k (crH k a b) = crH k b a := by
  refine rel_ext fun x y => ?_
  rw [has_bH hk (cl_crH hk a b), has_crH hk, has_crH hk]
  constructor <;> (rintro ⟨h1, h2, h3, h4⟩; exact ⟨h2, h1, h4, h3⟩)
theorem irr_iff (hk : k ≤ 48) (hf : Cl k f) : irrR k f = true ↔ ∀ a, has (f a) a = false := by
  unfold irrR
  rw [hf.right hk, Bool.true_and, Bool.not_eq_true', ← Bool.not_eq_true, List.any_eq_true]
  constructor
  · intro h a
    cases hb : has (f a) a with
    | false => rfl
    | true => exact absurd ⟨(a, a), (mem_prsH hk hf a a).2 hb, by simp [selfP]⟩ h
  · rintro h ⟨⟨a, b⟩, hm, hs⟩
    have hab : a = b := by simpa [selfP] using hs
    subst hab
    have := (mem_prsH hk hf a a).1 hm
    rw [h a] at this; cases this
theorem cross_irr (hk : k ≤ 48) (a b : BitVec 64) : irrR k (crH k a b) = (a &&& b &&& (1#64 <<< k - 1#64) == 0#64) := by
  rw [Bool.eq_iff_iff, irr_iff hk (cl_crH hk a b), beq_iff_eq, has_none (by omega)]
  constructor
  · intro h x hx
    have := h x
    rw [← Bool.not_eq_true, has_crH hk] at this
    rw [has_and', Bool.and_eq_false_iff]
    cases ha : has a x with
    | false => exact .inl rfl
    | true =>
      cases hb : has b x with
      | false => exact .inr rfl
      | true => exact absurd ⟨hx, hx, ha, hb⟩ this
  · intro h x
    rw [← Bool.not_eq_true, has_crH hk]
    rintro ⟨hx, _, h3, h4⟩
    have := h x hx
    rw [has_and', h3, h4] at this; cases this
theorem cc_Cross (hk : k ≤ 48) (s t : BitVec 64) (w : World) : Calls Tryd.prog 50 #[.int .i64 k, .int .u64 (iv s), .int .u64 (iv t)] w fun e w' => e = .returned (.agg (rcs k (crH k s t))) ∧ Below w.heap.size w w' := by
  have := c_Cross k s t w
  unfold ofN at this
  rw [if_pos (by omega), Int.toNat_natCast] at this; exact this
end Go.Proofs.YtgegmoedgegkcaaDoor
