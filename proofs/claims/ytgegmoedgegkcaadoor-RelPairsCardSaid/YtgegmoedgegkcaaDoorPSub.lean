/-
  Plain facts on the subsets of a set of 64 bits: the step (sub - s) and s goes through them in rising order. No condition.
-/
import Derived.Test.YtgegmoedgegkcaaDoorPMarks
namespace Go.Proofs.YtgegmoedgegkcaaDoor.Mk

/-- How many elements are below a number. -/
def rk (s : BitVec 64) (j : Nat) : Nat := ((elems s).filter (fun x => decide (x < j))).length

theorem filter_sorted : ∀ (l : List Nat), l.Pairwise (· < ·) → ∀ i (h : i < l.length), (l.filter (fun x => decide (x < l[i]))).length = i
  | [], _, i, h => by simp at h
  | a :: l, hp, i, h => by
    rw [List.pairwise_cons] at hp
    cases i with
    | zero =>
      simp only [List.getElem_cons_zero, List.length_eq_zero_iff, List.filter_eq_nil_iff, List.mem_cons, decide_eq_true_eq]
      rintro x (rfl | hx)
      · omega
      · have := hp.1 x hx; omega
    | succ i =>
      have hi : i < l.length := by simpa using h
      simp only [List.getElem_cons_succ]
      rw [List.filter_cons, if_pos (by simpa using hp.1 _ (List.getElem_mem hi)), List.length_cons, filter_sorted l hp.2 i hi]

theorem rk_at (s : BitVec 64) {i : Nat} (h : i < (elems s).length) : rk s (elems s)[i] = i := filter_sorted _ (elems_sorted s) i h
theorem rk_lt {s : BitVec 64} {j : Nat} (h : has s j = true) : rk s j < (elems s).length := by
  obtain ⟨i, hi, e⟩ := List.getElem_of_mem (mem_elems.2 h)
  rw [← e, rk_at s hi]; exact hi
theorem at_rk {s : BitVec 64} {j : Nat} (h : has s j = true) : (elems s)[rk s j]'(rk_lt h) = j := by
  obtain ⟨i, hi, e⟩ := List.getElem_of_mem (mem_elems.2 h)
  simp only [← e, rk_at s hi]
theorem has_at (s : BitVec 64) {i : Nat} (h : i < (elems s).length) : has s (elems s)[i] = true := mem_elems.1 (List.getElem_mem h)
theorem rk_mono {s : BitVec 64} {a b : Nat} (ha : has s a = true) (hab : a < b) : rk s a < rk s b := by
  unfold rk
  have h1 : ∀ l : List Nat, (∃ x ∈ l, x = a) → (l.filter (fun x => decide (x < a))).length < (l.filter (fun x => decide (x < b))).length := by
    intro l
    have hle : ∀ l : List Nat, (l.filter (fun x => decide (x < a))).length ≤ (l.filter (fun x => decide (x < b))).length := by
      intro l
      induction l with
      | nil => simp
      | cons x l ih =>
        rw [List.filter_cons, List.filter_cons]
        by_cases h : x < a
        · rw [if_pos (by simpa using h), if_pos (by simp; omega)]; simpa using ih
        · rw [if_neg (by simpa using h)]; split
          · simp; omega
          · exact ih
    induction l with
    | nil => rintro ⟨x, hx, _⟩; simp at hx
    | cons x l ih =>
      rintro ⟨y, hy, rfl⟩
      rw [List.filter_cons, List.filter_cons]
      rcases List.mem_cons.1 hy with rfl | hy
      · rw [if_neg (by simp), if_pos (by simpa using hab), List.length_cons]
        have := hle l; omega
      · have := ih ⟨y, hy, rfl⟩
        by_cases h : x < y
        · rw [if_pos (by simpa using h), if_pos (by simp; omega)]; simpa using this
        · rw [if_neg (by simpa using h)]; split
          · simp; omega
          · exact this
  exact h1 _ ⟨a, mem_elems.2 ha, rfl⟩
theorem rk_lt_iff {s : BitVec 64} {a b : Nat} (ha : has s a = true) (hb : has s b = true) : rk s a < rk s b ↔ a < b := by
  constructor
  · intro h
    rcases Nat.lt_trichotomy a b with h1 | h1 | h1
    · exact h1
    · subst h1; omega
    · have := rk_mono hb h1; omega
  · exact rk_mono ha

/-- A set out of its test. -/
def setTo (f : Nat → Bool) : Nat → BitVec 64
  | 0 => 0#64
  | n + 1 => if f n then setTo f n ||| 1#64 <<< n else setTo f n
theorem bit_one (k j : Nat) (hk : k < 64) : (1#64 <<< k).getLsbD j = decide (j = k) := by
  rw [BitVec.getLsbD_shiftLeft, BitVec.getLsbD_one]
  by_cases h : j = k
  · subst h; simp [hk]
  · by_cases h2 : j < k
    · simp [h2, h]
    · simp [h]; intros; omega
theorem has_setTo (f : Nat → Bool) : ∀ n, n ≤ 64 → ∀ j, has (setTo f n) j = (decide (j < n) && f j)
  | 0, _, j => by simp [setTo, has]
  | n + 1, h, j => by
    have ih := has_setTo f n (by omega) j
    unfold setTo
    split
    · rename_i hf
      have e : has (setTo f n ||| 1#64 <<< n) j = (has (setTo f n) j || decide (j = n)) := by
        unfold has; rw [BitVec.getLsbD_or, bit_one n j (by omega)]
      rw [e, ih]
      by_cases h1 : j = n
      · subst h1; simp [hf]
      · by_cases h2 : j < n
        · simp [h1, h2, show j < n + 1 by omega]
        · simp [h1, h2, show ¬ j < n + 1 by omega]
    · rename_i hf
      rw [ih]
      by_cases h1 : j = n
      · subst h1; simp [hf]
      · by_cases h2 : j < n
        · simp [h2, show j < n + 1 by omega]
        · simp [h2, show ¬ j < n + 1 by omega]
def setOf (f : Nat → Bool) : BitVec 64 := setTo f 64
theorem has_setOf (f : Nat → Bool) (j : Nat) : has (setOf f) j = (decide (j < 64) && f j) := has_setTo f 64 (Nat.le_refl _) j

theorem lt_of_bit {x y i : Nat} (hx : x.testBit i = false) (hy : y.testBit i = true) (h : ∀ j, i < j → x.testBit j = y.testBit j) : x < y := by
  have h1 : x / 2 ^ (i + 1) = y / 2 ^ (i + 1) := Nat.eq_of_testBit_eq fun j => by
    rw [Nat.testBit_div_two_pow, Nat.testBit_div_two_pow]; exact h _ (by omega)
  rw [Nat.testBit_eq_decide_div_mod_eq] at hx hy
  simp only [decide_eq_false_iff_not, decide_eq_true_eq] at hx hy
  have e1 : x / 2 ^ (i + 1) = x / 2 ^ i / 2 := by rw [Nat.pow_succ, Nat.div_div_eq_div_mul]
  have e2 : y / 2 ^ (i + 1) = y / 2 ^ i / 2 := by rw [Nat.pow_succ, Nat.div_div_eq_div_mul]
  have h3 : x / 2 ^ i < y / 2 ^ i := by omega
  rcases Nat.lt_or_ge x y with h4 | h4
  · exact h4
  · have := Nat.div_le_div_right (c := 2 ^ i) h4; omega

/-- The subset of s whose number is m. -/
def dep (s : BitVec 64) (m : Nat) : BitVec 64 := setOf fun j => has s j && m.testBit (rk s j)
theorem has_lt {s : BitVec 64} {j : Nat} (h : has s j = true) : j < 64 := BitVec.lt_of_getLsbD h
theorem has_dep (s : BitVec 64) (m j : Nat) : has (dep s m) j = (has s j && m.testBit (rk s j)) := by
  unfold dep
  rw [has_setOf]
  cases h : has s j with
  | false => simp
  | true => simp [has_lt h]
theorem has_ext' {s t : BitVec 64} (h : ∀ j, has s j = has t j) : s = t := BitVec.eq_of_getLsbD_eq (fun j _ => h j)

theorem dep_zero (s : BitVec 64) : dep s 0 = 0#64 := has_ext' fun j => by rw [has_dep]; simp [has]
theorem dep_all (s : BitVec 64) : dep s (2 ^ (elems s).length - 1) = s := has_ext' fun j => by
  rw [has_dep, Nat.testBit_two_pow_sub_one]
  cases h : has s j with
  | false => rfl
  | true => simp [rk_lt h]

/-- The bits of a number and of the next one. -/
theorem bits_succ (m : Nat) : ∃ k, 2 ^ k ≤ m + 1 ∧ (∀ i, i < k → m.testBit i = true ∧ (m + 1).testBit i = false) ∧ (m.testBit k = false ∧ (m + 1).testBit k = true) ∧
    ∀ i, k < i → m.testBit i = (m + 1).testBit i := by
  obtain ⟨q, hq, _⟩ := Lib.ctzFrom_spec (m + 1) (m + 1) (by omega) (Nat.lt_two_pow_self)
  generalize Lib.ctzFrom (m + 1) (m + 1) = k at hq
  have hpos : 0 < 2 ^ k := Nat.two_pow_pos k
  have e3 : 2 ^ k * (2 * q + 1) = 2 ^ k * (2 * q) + 2 ^ k := by rw [Nat.mul_add, Nat.mul_one]
  have em : m = 2 ^ k * (2 * q) + (2 ^ k - 1) := by omega
  have b1 : ∀ j, (m + 1).testBit j = if j < k then false else (2 * q + 1).testBit (j - k) := by
    intro j
    rw [hq]
    have := Nat.testBit_two_pow_mul_add (2 * q + 1) (b := 0) (i := k) hpos j
    simp only [Nat.add_zero] at this
    rw [this]; simp
  have b2 : ∀ j, m.testBit j = if j < k then true else (2 * q).testBit (j - k) := by
    intro j
    have := Nat.testBit_two_pow_mul_add (2 * q) (b := 2 ^ k - 1) (i := k) (by omega) j
    rw [← em] at this
    rw [this]
    split
    · rename_i h; rw [Nat.testBit_two_pow_sub_one, decide_eq_true h]
    · rfl
  refine ⟨k, by rw [hq]; exact Nat.le_mul_of_pos_right _ (by omega), fun i hi => ⟨by rw [b2, if_pos hi], by rw [b1, if_pos hi]⟩, ⟨by rw [b2, if_neg (by omega)]; simp, by rw [b1, if_neg (by omega)]; simp⟩, fun i hi => ?_⟩
  rw [b1, b2, if_neg (by omega), if_neg (by omega)]
  obtain ⟨d, hd⟩ : ∃ d, i - k = d + 1 := ⟨i - k - 1, by omega⟩
  rw [hd, Nat.testBit_succ, Nat.testBit_succ]
  congr 1; omega

/-- The step from one subset to the next one: where it takes place, and what it does. -/
theorem dep_succ (s : BitVec 64) (m : Nat) (hm : m + 1 < 2 ^ (elems s).length) :
    (dep s m - s) &&& s = dep s (m + 1) ∧ dep s m ≠ s ∧ (dep s m).toNat < (dep s (m + 1)).toNat := by
  obtain ⟨k, hk, hlow, hat, hhigh⟩ := bits_succ m
  have hkn : k < (elems s).length := by
    rcases Nat.lt_or_ge k (elems s).length with h | h
    · exact h
    · have := Nat.pow_le_pow_right (n := 2) (by omega) h; omega
  obtain ⟨c, hc⟩ : ∃ c, c = (elems s)[k] := ⟨_, rfl⟩
  have hcs : has s c = true := by rw [hc]; exact has_at s hkn
  have hck : rk s c = k := by rw [hc]; exact rk_at s hkn
  have hord : ∀ j, has s j = true → (rk s j < k ↔ j < c) ∧ (k < rk s j ↔ c < j) := fun j hj => by
    rw [← hck]; exact ⟨rk_lt_iff hj hcs, rk_lt_iff hcs hj⟩
  -- the next one, element by element
  have hnext : ∀ j, has (dep s (m + 1)) j = if j < c then false else if j = c then true else has (dep s m) j := by
    intro j
    rw [has_dep, has_dep]
    cases hj : has s j with
    | false =>
      simp only [Bool.false_and]
      split
      · rfl
      · split
        · rename_i h1 h2; subst h2; rw [hcs] at hj; cases hj
        · rfl
    | true =>
      obtain ⟨o1, o2⟩ := hord j hj
      simp only [Bool.true_and]
      split
      · rename_i h1; exact (hlow _ (o1.2 h1)).2
      · split
        · rename_i h1 h2; subst h2; rw [hck]; exact hat.2
        · rename_i h1 h2; exact (hhigh _ (o2.2 (by omega))).symm
  have hcm : has (dep s m) c = false := by rw [has_dep, hcs, hck, hat.1]; rfl
  have hcm1 : has (dep s (m + 1)) c = true := by rw [hnext, if_neg (by omega), if_pos rfl]
  have hlt : (dep s m).toNat < (dep s (m + 1)).toNat := by
    refine lt_of_bit (i := c) ?_ ?_ fun j hj => ?_
    · have := hcm; unfold has at this; rwa [← BitVec.testBit_toNat] at this
    · have := hcm1; unfold has at this; rwa [← BitVec.testBit_toNat] at this
    · have := hnext j
      rw [if_neg (by omega), if_neg (by omega)] at this
      unfold has at this
      rw [← BitVec.testBit_toNat, ← BitVec.testBit_toNat] at this
      exact this.symm
  refine ⟨?_, fun h => (by rw [h] at hcm; rw [hcs] at hcm; cases hcm), hlt⟩
  -- what is missing
  obtain ⟨d, hd⟩ : ∃ d, d = s &&& ~~~dep s m := ⟨_, rfl⟩
  have hsub : dep s m - s = ~~~(d - 1#64) := by
    have e1 : s = dep s m + d := by
      rw [hd]
      have : dep s m + (s &&& ~~~dep s m) = dep s m ||| (s &&& ~~~dep s m) := by
        apply BitVec.add_eq_or_of_and_eq_zero
        apply BitVec.eq_of_getLsbD_eq
        intro j hj
        simp only [BitVec.getLsbD_and, BitVec.getLsbD_not, BitVec.getLsbD_zero]
        cases (dep s m).getLsbD j <;> simp
      rw [this]
      apply BitVec.eq_of_getLsbD_eq
      intro j hj
      have := has_dep s m j
      unfold has at this
      simp only [BitVec.getLsbD_or, BitVec.getLsbD_and, BitVec.getLsbD_not, this, hj, decide_true, Bool.true_and]
      cases s.getLsbD j <;> simp
    have e2 : dep s m - s = - d := by
      have : ∀ a b : BitVec 64, a - (a + b) = -b := fun a b => by
        apply BitVec.eq_of_toInt_eq
        rw [BitVec.toInt_sub, BitVec.toInt_neg, BitVec.toInt_add]
        simp only [Int.sub_bmod_bmod]
        congr 1; omega
      calc dep s m - s = dep s m - (dep s m + d) := by rw [← e1]
        _ = -d := this _ _
    rw [e2, BitVec.neg_eq_not_add, BitVec.not_sub_one_eq_not_add_one]
  have hd0 : d ≠ 0#64 := fun h => by
    have : has d c = true := by
      rw [hd]; unfold has at hcs hcm ⊢
      rw [BitVec.getLsbD_and, BitVec.getLsbD_not, hcs, hcm, decide_eq_true (BitVec.lt_of_getLsbD hcs)]; rfl
    rw [h] at this; simp [has] at this
  have hhd : ∀ j, has d j = (has s j && !m.testBit (rk s j)) := by
    intro j
    have h1 := has_dep s m j
    unfold has at h1 ⊢
    rw [hd, BitVec.getLsbD_and, BitVec.getLsbD_not, h1]
    cases hj : s.getLsbD j with
    | false => simp
    | true => simp [BitVec.lt_of_getLsbD hj]
  obtain ⟨hl64, hl1, hl2, hl3⟩ := bits_low d hd0
  have hlc : low d = c := by
    have h1 : has d (low d) = true := hl1
    rw [hhd] at h1
    simp only [Bool.and_eq_true, Bool.not_eq_true'] at h1
    have h2 : ¬ rk s (low d) < k := fun h => by rw [(hlow _ h).1] at h1; cases h1.2
    rcases Nat.lt_trichotomy (low d) c with h | h | h
    · exact absurd ((hord _ h1.1).1.2 h) h2
    · exact h
    · have := hl2 c h
      have h3 := hhd c
      rw [hcs, hck, hat.1] at h3
      unfold has at h3
      rw [h3] at this; cases this
  rw [hsub]
  apply has_ext'
  intro j
  rw [hnext]
  by_cases hj64 : j < 64
  · have hbit : has (d - 1#64) j = if j < c then true else if j = c then false else has d j := by
      have h3 := hl3 j
      rw [hlc] at h3 hl1
      rw [BitVec.getLsbD_and] at h3
      rcases Nat.lt_trichotomy j c with h | h | h
      · rw [if_pos h]
        have := bits_pred d hd0 j hj64
        rw [hlc, if_pos h] at this
        exact this
      · rw [if_neg (by omega), if_pos h]
        have := bits_pred d hd0 j hj64
        rw [hlc, if_neg (by omega), if_pos h] at this
        exact this
      · rw [if_neg (by omega), if_neg (by omega)]
        have := bits_pred d hd0 j hj64
        rw [hlc, if_neg (by omega), if_neg (by omega)] at this
        exact this
    have e : has (~~~(d - 1#64) &&& s) j = (!has (d - 1#64) j && has s j) := by
      unfold has; rw [BitVec.getLsbD_and, BitVec.getLsbD_not, decide_eq_true hj64, Bool.true_and]
    rw [e, hbit]
    split
    · simp
    · split
      · rename_i h1 h2; subst h2; simp [hcs]
      · rw [hhd, has_dep]
        cases has s j <;> simp
  · have hz : ∀ t : BitVec 64, has t j = false := fun t => BitVec.getLsbD_of_ge t j (by omega)
    have hc64 := has_lt hcs
    rw [hz, hz, if_neg (by omega), if_neg (by omega)]

end Go.Proofs.YtgegmoedgegkcaaDoor.Mk
