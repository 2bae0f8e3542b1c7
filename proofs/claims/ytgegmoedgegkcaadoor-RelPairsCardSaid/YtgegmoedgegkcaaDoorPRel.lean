/-
  Plain facts on relations: what each operation's rows hold, pair by pair.
-/
import Derived.Test.YtgegmoedgegkcaaDoorFresh
namespace Go.Proofs.YtgegmoedgegkcaaDoor

/-- Pairs of k things alone. -/
def Cl (k : Nat) (f : Nat → BitVec 64) : Prop := ∀ a b, has (f a) b = true → a < k ∧ b < k
theorem rel_ext {f g : Nat → BitVec 64} (h : ∀ a b, has (f a) b = true ↔ has (g a) b = true) : f = g := by
  funext a
  refine Mk.has_ext' fun b => ?_
  rw [Bool.eq_iff_iff]
  exact h a b
theorem has_below48 (h : Nat → BitVec 64) (k a b : Nat) : has (below48 h k a) b = true ↔ a < k ∧ has (h a) b = true := by
  unfold below48
  split
  · rename_i ha; simp [ha]
  · rename_i ha; simp [ha, has_zero]
theorem right_iff {n : Int} {f : Nat → BitVec 64} : right n f = true ↔ 0 ≤ n ∧ n ≤ 48 ∧ ∀ a, a < 48 → ∀ b, has (f a) b = true → (a : Int) < n ∧ (b : Int) < n := by
  constructor
  · intro h
    obtain ⟨h0, h48⟩ := right_range h
    refine ⟨h0, h48, fun a ha b hb => ⟨?_, elems_right h ha b (Mk.mem_elems.2 hb)⟩⟩
    unfold right at h
    simp only [Bool.and_eq_true] at h
    have h1 := List.all_eq_true.1 h.2 a (List.mem_range.2 ha)
    unfold rowOk at h1
    simp only [Bool.and_eq_true, Bool.or_eq_true, decide_eq_true_eq] at h1
    rcases h1.2 with h2 | h2
    · exact h2
    · rw [eq_of_beq h2, has_zero] at hb; cases hb
  · rintro ⟨h0, h48, h⟩
    unfold right
    rw [decide_eq_true h0, decide_eq_true h48, Bool.true_and, Bool.true_and, List.all_eq_true]
    intro a ha
    have ha := List.mem_range.1 ha
    unfold rowOk
    rw [Bool.and_eq_true, Bool.or_eq_true]
    constructor
    · rw [beq_iff_eq]
      refine Mk.has_ext' fun b => ?_
      rw [has_andNot, has_mall, has_zero]
      cases hb : has (f a) b with
      | false => rfl
      | true =>
        have := h a ha b hb
        have := has_lt hb
        simp only [Bool.true_and, Bool.not_eq_false', Bool.and_eq_true, decide_eq_true_eq]
        exact ⟨this, by omega⟩
    · by_cases hn : (a : Int) < n
      · exact .inl (decide_eq_true hn)
      · refine .inr ?_
        rw [beq_iff_eq]
        refine Mk.has_ext' fun b => ?_
        rw [has_zero]
        cases hb : has (f a) b with
        | false => rfl
        | true => exact absurd (h a ha b hb).1 hn
theorem Cl.right {k : Nat} {f : Nat → BitVec 64} (h : Cl k f) (hk : k ≤ 48) : right k f = true :=
  right_iff.2 ⟨by omega, by omega, fun a _ b hb => by have := h a b hb; omega⟩
theorem Cl.of_right {k : Nat} {f : Nat → BitVec 64} (h : Go.Proofs.YtgegmoedgegkcaaDoor.right k f = true) : Cl k (below48 f k) := by
  obtain ⟨_, h48, h1⟩ := right_iff.1 h
  intro a b hb
  rw [has_below48] at hb
  have := h1 a (by omega) b hb.2
  omega
theorem Cl.below48 {k : Nat} {f : Nat → BitVec 64} (h : Cl k f) : Go.Proofs.YtgegmoedgegkcaaDoor.below48 f k = f :=
  rel_ext fun a b => by rw [has_below48]; exact ⟨fun h => h.2, fun hb => ⟨(h a b hb).1, hb⟩⟩
theorem Cl.lt {k : Nat} {f : Nat → BitVec 64} (h : Cl k f) (hk : k ≤ 48) : ∀ a, ∀ x ∈ Mk.elems (f a), x < 48 := fun a x hx => by
  have := h a x (Mk.mem_elems.1 hx); omega

/-! Fine. -/
theorem has_mask (k : Nat) (hk : k < 64) (b : Nat) : has (1#64 <<< k - 1#64) b = decide (b < k) := by
  have h1 : (1#64 <<< k - 1#64) = mall (k : Int) := by
    unfold mall
    by_cases h0 : k = 0
    · subst h0; rfl
    · rw [if_neg (by omega), if_neg (by omega), Int.toNat_natCast]
  rw [h1, has_mall]
  by_cases h : b < k
  · rw [decide_eq_true h, decide_eq_true (by omega), decide_eq_true (by omega)]; rfl
  · rw [decide_eq_false h, decide_eq_false (p := (b : Int) < k) (by omega), Bool.and_false]
theorem has_fine (k : Nat) (hk : k < 64) (f : Nat → BitVec 64) (a b : Nat) : has (fineF k f a) b = true ↔ a < k ∧ b < k ∧ has (f a) b = true := by
  unfold fineF
  split
  · rename_i ha
    rw [has_and', has_mask k hk, Bool.and_eq_true, decide_eq_true_eq]
    constructor
    · rintro ⟨h1, h2⟩; exact ⟨ha, h2, h1⟩
    · rintro ⟨_, h2, h1⟩; exact ⟨h1, h2⟩
  · rename_i ha; simp [ha, has_zero]
theorem cl_fine (k : Nat) (hk : k < 64) (f : Nat → BitVec 64) : Cl k (fineF k f) := fun a b h => by
  have := (has_fine k hk f a b).1 h; exact ⟨this.1, this.2.1⟩

/-! The operations. -/
def unH (k : Nat) (f g : Nat → BitVec 64) : Nat → BitVec 64 := below48 (fun a => f a ||| g a) k
def boH (k : Nat) (f g : Nat → BitVec 64) : Nat → BitVec 64 := below48 (fun a => f a &&& g a) k
def leH (k : Nat) (f g : Nat → BitVec 64) : Nat → BitVec 64 := below48 (fun a => f a &&& ~~~ g a) k
def tH (k : Nat) (f g : Nat → BitVec 64) : Nat → BitVec 64 := below48 (fun a => stp g (f a)) k
def bH (k : Nat) (f : Nat → BitVec 64) : Nat → BitVec 64 := bk (prsR k f)
variable {k : Nat} {f g h : Nat → BitVec 64}
theorem has_unH (hf : Cl k f) (hg : Cl k g) (a b : Nat) : has (unH k f g a) b = true ↔ has (f a) b = true ∨ has (g a) b = true := by
  unfold unH
  rw [has_below48, has_or, Bool.or_eq_true]
  constructor
  · exact fun h => h.2
  · rintro (h | h)
    · exact ⟨(hf a b h).1, .inl h⟩
    · exact ⟨(hg a b h).1, .inr h⟩
theorem has_boH (hf : Cl k f) (a b : Nat) : has (boH k f g a) b = true ↔ has (f a) b = true ∧ has (g a) b = true := by
  unfold boH
  rw [has_below48, has_and', Bool.and_eq_true]
  exact ⟨fun h => h.2, fun h => ⟨(hf a b h.1).1, h⟩⟩
theorem has_leH (hf : Cl k f) (a b : Nat) : has (leH k f g a) b = true ↔ has (f a) b = true ∧ has (g a) b = false := by
  unfold leH
  rw [has_below48, has_andNot, Bool.and_eq_true, Bool.not_eq_true']
  exact ⟨fun h => h.2, fun h => ⟨(hf a b h.1).1, h⟩⟩
theorem has_tH (hf : Cl k f) (a b : Nat) : has (tH k f g a) b = true ↔ ∃ c, has (f a) c = true ∧ has (g c) b = true := by
  unfold tH
  rw [has_below48, has_stp]
  constructor
  · exact fun h => h.2
  · rintro ⟨c, h1, h2⟩; exact ⟨(hf a c h1).1, c, h1, h2⟩
theorem cl_unH (hf : Cl k f) (hg : Cl k g) : Cl k (unH k f g) := fun a b h => by
  rcases (has_unH hf hg a b).1 h with h | h
  · exact hf a b h
  · exact hg a b h
theorem cl_boH (hf : Cl k f) : Cl k (boH k f g) := fun a b h => hf a b ((has_boH hf a b).1 h).1
theorem cl_leH (hf : Cl k f) : Cl k (leH k f g) := fun a b h => hf a b ((has_leH hf a b).1 h).1
theorem cl_tH (hf : Cl k f) (hg : Cl k g) : Cl k (tH k f g) := fun a b h => by
  obtain ⟨c, h1, h2⟩ := (has_tH hf a b).1 h
  exact ⟨(hf a c h1).1, (hg c b h2).2⟩
theorem has_upd (g : Nat → BitVec 64) (x y a b : Nat) (hx : x < 64) : has (upd g y (g y ||| 1#64 <<< x) a) b = true ↔ has (g a) b = true ∨ (a = y ∧ b = x) := by
  unfold upd
  split
  · rename_i h
    subst h
    rw [has_or, has_one x b hx, Bool.or_eq_true, decide_eq_true_eq]
    simp
  · rename_i h; simp [h]
theorem has_bk_from (l : List (Nat × Nat)) (hl : ∀ p ∈ l, p.1 < 64) (g : Nat → BitVec 64) (a b : Nat) :
    has (l.foldl (fun g p => upd g p.2 (g p.2 ||| 1#64 <<< p.1)) g a) b = true ↔ has (g a) b = true ∨ (b, a) ∈ l := by
  induction l generalizing g with
  | nil => simp
  | cons p l ih =>
    rw [List.foldl_cons, ih (fun q hq => hl q (by simp [hq])), has_upd _ _ _ _ _ (hl p (by simp)), List.mem_cons, Prod.ext_iff]
    constructor
    · rintro ((h | ⟨h1, h2⟩) | h)
      · exact .inl h
      · exact .inr (.inl ⟨h2, h1⟩)
      · exact .inr (.inr h)
    · rintro (h | ⟨h1, h2⟩ | h)
      · exact .inl (.inl h)
      · exact .inl (.inr ⟨h2, h1⟩)
      · exact .inr h
theorem has_bk (l : List (Nat × Nat)) (hl : ∀ p ∈ l, p.1 < 64) (a b : Nat) : has (bk l a) b = true ↔ (b, a) ∈ l := by
  unfold bk
  rw [has_bk_from l hl, has_zero]
  simp
theorem mem_prsH (hk : k ≤ 48) (hf : Cl k f) (a b : Nat) : (a, b) ∈ prsR k f ↔ has (f a) b = true := by
  unfold prsR
  rw [hf.right hk, if_pos rfl, Int.toNat_natCast, mem_prs]
  exact ⟨fun h => h.2, fun h => ⟨(hf a b h).1, h⟩⟩
theorem has_bH (hk : k ≤ 48) (hf : Cl k f) (a b : Nat) : has (bH k f a) b = true ↔ has (f b) a = true := by
  unfold bH
  rw [has_bk _ (fun p hp => by have := mem_prsR hp; omega), mem_prsH hk hf]
theorem cl_bH (hk : k ≤ 48) (hf : Cl k f) : Cl k (bH k f) := fun a b h => ((hf b a ((has_bH hk hf a b).1 h))).symm
def idH (k : Nat) (s : BitVec 64) : Nat → BitVec 64 := below48 (fun a => s &&& 1#64 <<< a) k
theorem has_idH (hk : k ≤ 64) (s : BitVec 64) (a b : Nat) : has (idH k s a) b = true ↔ a < k ∧ b = a ∧ has s a = true := by
  unfold idH
  rw [has_below48]
  constructor
  · rintro ⟨h1, h2⟩
    rw [has_and', has_one a b (by omega), Bool.and_eq_true, decide_eq_true_eq] at h2
    exact ⟨h1, h2.2, h2.2 ▸ h2.1⟩
  · rintro ⟨h1, rfl, h3⟩
    refine ⟨h1, ?_⟩
    rw [has_and', has_one b b (by omega), h3]; simp
theorem cl_idH (hk : k ≤ 64) (s : BitVec 64) : Cl k (idH k s) := fun a b h => by
  have := (has_idH hk s a b).1 h; omega

/-! RelThen. -/
theorem then_assoc {A B C : Nat → BitVec 64} (hA : Cl k A) (hB : Cl k B) : tH k (tH k A B) C = tH k A (tH k B C) := by
  refine rel_ext fun a b => ?_
  rw [has_tH (cl_tH hA hB), has_tH hA]
  constructor
  · rintro ⟨c, h1, h2⟩
    obtain ⟨d, h3, h4⟩ := (has_tH hA a c).1 h1
    exact ⟨d, h3, (has_tH hB d b).2 ⟨c, h4, h2⟩⟩
  · rintro ⟨d, h3, h4⟩
    obtain ⟨c, h5, h6⟩ := (has_tH hB d b).1 h4
    exact ⟨c, (has_tH hA a c).2 ⟨d, h3, h5⟩, h6⟩
theorem then_union {A B C : Nat → BitVec 64} (hA : Cl k A) (hB : Cl k B) (hC : Cl k C) : tH k A (unH k B C) = unH k (tH k A B) (tH k A C) := by
  refine rel_ext fun a b => ?_
  rw [has_tH hA, has_unH (cl_tH hA hB) (cl_tH hA hC), has_tH hA, has_tH hA]
  constructor
  · rintro ⟨c, h1, h2⟩
    rcases (has_unH hB hC c b).1 h2 with h | h
    · exact .inl ⟨c, h1, h⟩
    · exact .inr ⟨c, h1, h⟩
  · rintro (⟨c, h1, h2⟩ | ⟨c, h1, h2⟩)
    · exact ⟨c, h1, (has_unH hB hC c b).2 (.inl h2)⟩
    · exact ⟨c, h1, (has_unH hB hC c b).2 (.inr h2)⟩
theorem back_then {A B : Nat → BitVec 64} (hk : k ≤ 48) (hA : Cl k A) (hB : Cl k B) : bH k (tH k A B) = tH k (bH k B) (bH k A) := by
  refine rel_ext fun a b => ?_
  rw [has_bH hk (cl_tH hA hB), has_tH hA, has_tH (cl_bH hk hB)]
  constructor
  · rintro ⟨c, h1, h2⟩; exact ⟨c, (has_bH hk hB a c).2 h2, (has_bH hk hA c b).2 h1⟩
  · rintro ⟨c, h1, h2⟩; exact ⟨c, (has_bH hk hA c b).1 h2, (has_bH hk hB a c).1 h1⟩
theorem back_back {A : Nat → BitVec 64} (hk : k ≤ 48) (hA : Cl k A) : bH k (bH k A) = A := by
  refine rel_ext fun a b => ?_
  rw [has_bH hk (cl_bH hk hA), has_bH hk hA]
theorem then_id {A : Nat → BitVec 64} (hk : k ≤ 48) (hA : Cl k A) : tH k A (idH k (BitVec.allOnes 64)) = A := by
  refine rel_ext fun a b => ?_
  rw [has_tH hA]
  constructor
  · rintro ⟨c, h1, h2⟩
    obtain ⟨_, rfl, _⟩ := (has_idH (by omega) _ c b).1 h2
    exact h1
  · intro h1
    have := hA a b h1
    exact ⟨b, h1, (has_idH (by omega) _ b b).2 ⟨this.2, rfl, by unfold has; rw [BitVec.getLsbD_allOnes]; simp; omega⟩⟩
end Go.Proofs.YtgegmoedgegkcaaDoor
