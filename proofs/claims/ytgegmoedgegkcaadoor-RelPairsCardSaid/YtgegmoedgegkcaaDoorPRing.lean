/-
  Plain: walks in a relation, the closure by walks; the ring is a shortest cycle, the order goes along the pairs.
-/
import Derived.Test.YtgegmoedgegkcaaDoorPPlus2
namespace Go.Proofs.YtgegmoedgegkcaaDoor

/-- There is a walk of j steps. -/
def Wk (f : Nat → BitVec 64) : Nat → Nat → Nat → Prop
  | 0, a, b => a = b
  | j + 1, a, b => ∃ c, has (f a) c = true ∧ Wk f j c b
variable {k : Nat} {f g : Nat → BitVec 64}
theorem Wk.app {j : Nat} {b c : Nat} (h2 : Wk f j b c) : ∀ {i a : Nat}, Wk f i a b → Wk f (i + j) a c
  | 0, a, h1 => by
    have h1 : a = b := h1
    subst h1; rw [Nat.zero_add]; exact h2
  | i + 1, a, ⟨d, h3, h4⟩ => by
    rw [show i + 1 + j = (i + j) + 1 by omega]
    exact ⟨d, h3, Wk.app h2 h4⟩
theorem Wk.one {a b : Nat} (h : has (f a) b = true) : Wk f 1 a b := ⟨b, h, rfl⟩
theorem Wk.snoc {i a b c : Nat} (h1 : Wk f i a b) (h2 : has (f b) c = true) : Wk f (i + 1) a c := Wk.app (Wk.one h2) h1
theorem Wk.last : ∀ {i a c : Nat}, Wk f (i + 1) a c → ∃ b, Wk f i a b ∧ has (f b) c = true
  | 0, a, c, ⟨d, h1, h2⟩ => by
    have h2 : d = c := h2
    subst h2; exact ⟨a, rfl, h1⟩
  | i + 1, a, c, ⟨d, h1, h2⟩ => by
    obtain ⟨b, h3, h4⟩ := Wk.last h2
    exact ⟨b, ⟨d, h1, h3⟩, h4⟩
theorem plus_wk (hk : k ≤ 48) (hf : Cl k f) (a b : Nat) : has (plusF k f a) b = true ↔ ∃ j, Wk f (j + 1) a b := by
  constructor
  · have key : ∀ J a b, has (pit k f J a) b = true → ∃ j, Wk f (j + 1) a b := by
      intro J
      induction J with
      | zero => intro a b h; exact ⟨0, Wk.one ((has_below48 f k a b).1 h).2⟩
      | succ J ih =>
        intro a b h
        rcases ((has_pstep _ a b).1 h).2 with h | ⟨c, h1, h2⟩
        · exact ih a b h
        · obtain ⟨i, h3⟩ := ih a c h1
          obtain ⟨j, h4⟩ := ih c b h2
          exact ⟨i + (j + 1), by rw [show i + (j + 1) + 1 = i + 1 + (j + 1) by omega]; exact Wk.app h4 h3⟩
    exact key _ a b
  · rintro ⟨j, h⟩
    induction j generalizing a with
    | zero =>
      obtain ⟨c, h1, h2⟩ := h
      have h2 : c = b := h2
      subst h2
      exact plus_ge hf a c h1
    | succ j ih =>
      obtain ⟨c, h1, h2⟩ := h
      exact plus_trans hk a c b (plus_ge hf a c h1) (ih c h2)
/-- A walk, thing by thing. -/
theorem Wk.path : ∀ {n a b : Nat}, Wk f n a b → ∃ p : Nat → Nat, p 0 = a ∧ p n = b ∧ ∀ i, i < n → has (f (p i)) (p (i + 1)) = true
  | 0, a, b, h => ⟨fun _ => a, rfl, h, fun i hi => by omega⟩
  | n + 1, a, b, ⟨c, h1, h2⟩ => by
    obtain ⟨p, h3, h4, h5⟩ := Wk.path h2
    refine ⟨fun i => match i with | 0 => a | i + 1 => p i, rfl, h4, fun i hi => ?_⟩
    match i with
    | 0 => show has (f a) (p 0) = true; rw [h3]; exact h1
    | i + 1 => exact h5 i (by omega)

/-! Powers. -/
def pw (k : Nat) (f : Nat → BitVec 64) : Nat → Nat → BitVec 64
  | 0 => f
  | i + 1 => tH k (pw k f i) f
theorem cl_pw (hf : Cl k f) : ∀ i, Cl k (pw k f i)
  | 0 => hf
  | i + 1 => cl_tH (cl_pw hf i) hf
theorem has_pw (hf : Cl k f) : ∀ i a b, has (pw k f i a) b = true ↔ Wk f (i + 1) a b
  | 0, a, b => ⟨fun h => Wk.one h, fun ⟨c, h1, h2⟩ => by
      have h2 : c = b := h2
      subst h2; exact h1⟩
  | i + 1, a, b => by
    show has (tH k (pw k f i) f a) b = true ↔ _
    rw [has_tH (cl_pw hf i)]
    constructor
    · rintro ⟨c, h1, h2⟩; exact ((has_pw hf i a c).1 h1).snoc h2
    · intro h
      obtain ⟨c, h1, h2⟩ := Wk.last h
      exact ⟨c, (has_pw hf i a c).2 h1, h2⟩

/-! Irreflexive. -/
theorem irr_iff (hk : k ≤ 48) (hf : Cl k f) : irrR k f = true ↔ ∀ x, has (f x) x = false := by
  unfold irrR
  rw [hf.right hk, Bool.true_and, Bool.not_eq_true']
  constructor
  · intro h x
    cases hx : has (f x) x with
    | false => rfl
    | true =>
      rw [List.any_eq_false] at h
      exact absurd (h (x, x) ((mem_prsH hk hf x x).2 hx)) (by simp [selfP])
  · intro h
    rw [List.any_eq_false]
    rintro ⟨a, b⟩ hm
    have := (mem_prsH hk hf a b).1 hm
    simp only [selfP, beq_iff_eq]
    rintro rfl
    rw [h] at this; cases this

/-! Walks to one thing through things of a set. -/
def Gw (f : Nat → BitVec 64) (G : BitVec 64) (fr : Nat) : Nat → Nat → Prop
  | 0, x => has G x = true ∧ has (f x) fr = true
  | i + 1, x => has G x = true ∧ ∃ z, has (f x) z = true ∧ Gw f G fr i z
/-- The things from which one comes in i + 1 steps, and not sooner. -/
def Lv (f : Nat → BitVec 64) (G : BitVec 64) (fr i x : Nat) : Prop := Gw f G fr i x ∧ ∀ j, j < i → ¬ Gw f G fr j x
variable {G : BitVec 64} {fr : Nat}
theorem Gw.mem {i x : Nat} (h : Gw f G fr i x) : has G x = true := by cases i <;> exact h.1
theorem Lv.uniq {i j x : Nat} (h1 : Lv f G fr i x) (h2 : Lv f G fr j x) : i = j := by
  rcases Nat.lt_trichotomy i j with h | h | h
  · exact absurd h1.1 (h2.2 i h)
  · exact h
  · exact absurd h2.1 (h1.2 j h)
theorem Lv.down {i x : Nat} (h : Lv f G fr (i + 1) x) : ∃ z, has (f x) z = true ∧ Lv f G fr i z := by
  obtain ⟨⟨hg, z, h1, h2⟩, h3⟩ := h
  exact ⟨z, h1, h2, fun j hj hz => h3 (j + 1) (by omega) ⟨hg, z, h1, hz⟩⟩
theorem lv_succ {i x : Nat} : Lv f G fr (i + 1) x ↔ (∃ z, Lv f G fr i z ∧ has (f x) z = true) ∧ has G x = true ∧ ¬ ∃ j, j < i + 1 ∧ Gw f G fr j x := by
  constructor
  · intro h
    obtain ⟨z, h1, h2⟩ := h.down
    exact ⟨⟨z, h2, h1⟩, h.1.mem, fun ⟨j, hj, hgj⟩ => h.2 j hj hgj⟩
  · rintro ⟨⟨z, h1, h2⟩, hg, h3⟩
    exact ⟨⟨hg, z, h2, h1.1⟩, fun j hj hgj => h3 ⟨j, hj, hgj⟩⟩
theorem lv_of_gw : ∀ (i : Nat) {x : Nat}, Gw f G fr i x → ∃ j, j ≤ i ∧ Lv f G fr j x := by
  intro i
  induction i using Nat.strongRecOn with
  | _ i ih =>
    intro x h
    by_cases hm : ∃ j, j < i ∧ Gw f G fr j x
    · obtain ⟨j, hj, hg⟩ := hm
      obtain ⟨l, hl, h2⟩ := ih j hj hg
      exact ⟨l, by omega, h2⟩
    · exact ⟨i, Nat.le_refl i, h, fun j hj hg => hm ⟨j, hj, hg⟩⟩
theorem lv_chain : ∀ (d i : Nat) {x : Nat}, Lv f G fr (i + d) x → ∃ y, Lv f G fr i y
  | 0, _, x, h => ⟨x, h⟩
  | d + 1, i, x, h => by
    obtain ⟨z, _, h2⟩ := Lv.down (i := i + d) h
    exact lv_chain d i h2

/-! around. -/
theorem arGo_some {B : Nat → BitVec 64} (hB : ∀ z x, has (B z) x = true ↔ has (f x) z = true) : ∀ (fu i : Nat) (now met : BitVec 64) (ats l : List (BitVec 64)), ats.length = i →
    (∀ x, has now x = true ↔ Lv f G fr i x) → (∀ x, has met x = true ↔ ∃ j, j < i ∧ Gw f G fr j x) → (∀ (j : Nat) s, ats[j]? = some s → ∀ x, has s x = true ↔ Lv f G fr j x) → (∀ j, j < i → ¬ Gw f G fr j fr) →
    arGo B G fr fu now met ats = some l → ∃ K, l.length = K + 1 ∧ (∀ (j : Nat) s, l[j]? = some s → ∀ x, has s x = true ↔ Lv f G fr j x) ∧ Lv f G fr K fr := by
  intro fu
  induction fu with
  | zero => intro i now met ats l _ _ _ _ _ h; cases h
  | succ fu ih =>
    intro i now met ats l hlen hnow hmet hats hno h
    unfold arGo at h
    split at h
    · cases h
    · have hnew : ∀ (j : Nat) s, (ats ++ [now])[j]? = some s → ∀ x, has s x = true ↔ Lv f G fr j x := by
        intro j s hs x
        rw [List.getElem?_append] at hs
        split at hs
        · exact hats j s hs x
        · rename_i hj
          have hji : j = i := by
            have h2 := (List.getElem?_eq_some_iff.1 hs).1
            simp only [List.length_cons, List.length_nil] at h2
            omega
          subst hji
          rw [hlen, Nat.sub_self] at hs
          simp only [List.getElem?_cons_zero, Option.some.injEq] at hs
          subst hs
          exact hnow x
      split at h
      · rename_i hfr
        simp only [Option.some.injEq] at h
        subst h
        exact ⟨i, by simp [hlen], hnew, (hnow fr).1 hfr⟩
      · rename_i hfr
        have hmet2 : ∀ x, has (met ||| now) x = true ↔ ∃ j, j < i + 1 ∧ Gw f G fr j x := by
          intro x
          rw [has_or, Bool.or_eq_true, hmet, hnow]
          constructor
          · rintro (⟨j, hj, hg⟩ | hl)
            · exact ⟨j, by omega, hg⟩
            · exact ⟨i, by omega, hl.1⟩
          · rintro ⟨j, hj, hg⟩
            by_cases hm : ∃ j, j < i ∧ Gw f G fr j x
            · exact .inl hm
            · have hji : j = i := Classical.byContradiction fun hne => hm ⟨j, by omega, hg⟩
              subst hji
              exact .inr ⟨hg, fun j' hj' hg' => hm ⟨j', hj', hg'⟩⟩
        refine ih (i + 1) _ _ _ l (by simp [hlen]) ?_ hmet2 hnew ?_ h
        · intro x
          rw [has_andNot, has_and', lv_succ, Bool.and_eq_true, Bool.and_eq_true, has_stp, Bool.not_eq_true', ← Bool.not_eq_true, hmet2]
          constructor
          · rintro ⟨⟨⟨z, h1, h2⟩, h3⟩, h4⟩; exact ⟨⟨z, (hnow z).1 h1, (hB z x).1 h2⟩, h3, h4⟩
          · rintro ⟨⟨z, h1, h2⟩, h3, h4⟩; exact ⟨⟨⟨z, (hnow z).2 h1, (hB z x).2 h2⟩, h3⟩, h4⟩
        · intro j hj hg
          by_cases hji : j < i
          · exact hno j hji hg
          · have : j = i := by omega
            subst this
            exact hfr ((hnow fr).2 ⟨hg, fun j' hj' => hno j' hj'⟩)
theorem arGo_none {B : Nat → BitVec 64} (hB : ∀ z x, has (B z) x = true ↔ has (f x) z = true) : ∀ (fu i : Nat) (now met : BitVec 64) (ats : List (BitVec 64)), ats.length = i → (Mk.elems (G &&& ~~~ met)).length < fu →
    (∀ x, has now x = true ↔ Lv f G fr i x) → (∀ x, has met x = true ↔ ∃ j, j < i ∧ Gw f G fr j x) → (∀ j, j < i → ¬ Gw f G fr j fr) →
    arGo B G fr fu now met ats = none → ∀ j, ¬ Gw f G fr j fr := by
  intro fu
  induction fu with
  | zero => intro i now met ats _ h; omega
  | succ fu ih =>
    intro i now met ats hlen hfu hnow hmet hno h
    unfold arGo at h
    split at h
    · rename_i hz
      have hz := eq_of_beq hz
      intro j hg
      obtain ⟨l, _, hl⟩ := lv_of_gw j hg
      by_cases hli : l < i
      · exact hno l hli hl.1
      · obtain ⟨d, rfl⟩ : ∃ d, l = i + d := ⟨l - i, by omega⟩
        obtain ⟨y, hy⟩ := lv_chain d i hl
        have := (hnow y).2 hy
        rw [hz, has_zero] at this; cases this
    · rename_i hz
      split at h
      · cases h
      · rename_i hfr
        have hmet2 : ∀ x, has (met ||| now) x = true ↔ ∃ j, j < i + 1 ∧ Gw f G fr j x := by
          intro x
          rw [has_or, Bool.or_eq_true, hmet, hnow]
          constructor
          · rintro (⟨j, hj, hg⟩ | hl)
            · exact ⟨j, by omega, hg⟩
            · exact ⟨i, by omega, hl.1⟩
          · rintro ⟨j, hj, hg⟩
            by_cases hm : ∃ j, j < i ∧ Gw f G fr j x
            · exact .inl hm
            · have hji : j = i := Classical.byContradiction fun hne => hm ⟨j, by omega, hg⟩
              subst hji
              exact .inr ⟨hg, fun j' hj' hg' => hm ⟨j', hj', hg'⟩⟩
        have hless := ar_less (G := G) (now := now) (met := met) (fun e => hz (by rw [e]; rfl)) (fun x hx => ⟨((hnow x).1 hx).1.mem, by
          cases hm : has met x with
          | false => rfl
          | true =>
            obtain ⟨j, hj, hg⟩ := (hmet x).1 hm
            exact absurd hg (((hnow x).1 hx).2 j hj)⟩)
        refine ih (i + 1) _ _ _ (by simp [hlen]) (by omega) ?_ hmet2 ?_ h
        · intro x
          rw [has_andNot, has_and', lv_succ, Bool.and_eq_true, Bool.and_eq_true, has_stp, Bool.not_eq_true', ← Bool.not_eq_true, hmet2]
          constructor
          · rintro ⟨⟨⟨z, h1, h2⟩, h3⟩, h4⟩; exact ⟨⟨z, (hnow z).1 h1, (hB z x).1 h2⟩, h3, h4⟩
          · rintro ⟨⟨z, h1, h2⟩, h3, h4⟩; exact ⟨⟨⟨z, (hnow z).2 h1, (hB z x).2 h2⟩, h3⟩, h4⟩
        · intro j hj hg
          by_cases hji : j < i
          · exact hno j hji hg
          · have : j = i := by omega
            subst this
            exact hfr ((hnow fr).2 ⟨hg, fun j' hj' => hno j' hj'⟩)

/-! walk. -/
/-- From x at level m down to level 0. -/
def Path (f : Nat → BitVec 64) (G : BitVec 64) (fr : Nat) : Nat → Nat → List Nat → Prop
  | 0, _, ys => ys = []
  | m + 1, x, ys => ∃ y ys', ys = y :: ys' ∧ has (f x) y = true ∧ Lv f G fr m y ∧ (∀ z, has (f x) z = true → Lv f G fr m z → y ≤ z) ∧ Path f G fr m y ys'
theorem head_elems {s : BitVec 64} {y : Nat} (h : has s y = true) : has s ((Mk.elems s).head?.getD 0) = true ∧ ∀ z, has s z = true → (Mk.elems s).head?.getD 0 ≤ z := by
  have hy := Mk.mem_elems.2 h
  cases he : Mk.elems s with
  | nil => rw [he] at hy; cases hy
  | cons a l =>
    refine ⟨Mk.mem_elems.1 (by rw [he]; simp), fun z hz => ?_⟩
    have hz := Mk.mem_elems.2 hz
    have hs : (Mk.elems s).Pairwise (· < ·) := by
      unfold Mk.elems
      exact List.Pairwise.filter _ List.pairwise_lt_range
    rw [he] at hz hs
    rcases List.mem_cons.1 hz with rfl | hz
    · exact Nat.le_refl _
    · exact Nat.le_of_lt ((List.pairwise_cons.1 hs).1 z hz)
theorem wkTail_path {l : List (BitVec 64)} (hl : ∀ (j : Nat) s, l[j]? = some s → ∀ x, has s x = true ↔ Lv f G fr j x) : ∀ (m x : Nat), m ≤ l.length → Lv f G fr m x → Path f G fr m x (wkTail f x (l.take m).reverse)
  | 0, x, _, _ => rfl
  | m + 1, x, hm, hx => by
    rw [take_rev (show m < l.length by omega)]
    obtain ⟨z, h1, h2⟩ := hx.down
    have hs := hl m l[m] (List.getElem?_eq_getElem (by omega))
    have hz : has (f x &&& l[m]) z = true := by rw [has_and', h1, (hs z).2 h2]; rfl
    obtain ⟨h3, h4⟩ := head_elems hz
    have h3' := h3
    rw [has_and', Bool.and_eq_true] at h3'
    have hy : Lv f G fr m (wkNext f x l[m]) := (hs _).1 h3'.2
    refine ⟨_, _, rfl, h3'.1, hy, fun z hz1 hz2 => h4 z ?_, wkTail_path hl m _ (by omega) hy⟩
    rw [has_and', hz1, (hs z).2 hz2]; rfl
theorem Path.at_ : ∀ {m x : Nat} {ys : List Nat}, Lv f G fr m x → Path f G fr m x ys → ys.length = m ∧ (∀ (i : Nat) y, (x :: ys)[i]? = some y → Lv f G fr (m - i) y) ∧ ∀ (i : Nat) y z, (x :: ys)[i]? = some y → (x :: ys)[i + 1]? = some z → has (f y) z = true
  | 0, x, ys, hx, h => by
    have h : ys = [] := h
    subst h
    refine ⟨rfl, fun i y hy => ?_, fun i y z _ hz => by simp at hz⟩
    match i with
    | 0 => simp only [List.getElem?_cons_zero, Option.some.injEq] at hy; subst hy; exact hx
    | i + 1 => simp at hy
  | m + 1, x, ys, hx, ⟨y, ys', e, h1, h2, _, h3⟩ => by
    subst e
    obtain ⟨k1, k2, k3⟩ := Path.at_ h2 h3
    refine ⟨by simp [k1], fun i z hz => ?_, fun i u z hu hz => ?_⟩
    · match i with
      | 0 => simp only [List.getElem?_cons_zero, Option.some.injEq] at hz; subst hz; exact hx
      | i + 1 =>
        have := k2 i z (by simpa using hz)
        rwa [show m + 1 - (i + 1) = m - i by omega]
    · match i with
      | 0 =>
        simp only [List.getElem?_cons_zero, Option.some.injEq, Nat.zero_add, List.getElem?_cons_succ] at hu hz
        subst hu hz; exact h1
      | i + 1 => exact k3 i u z (by simpa using hu) (by simpa using hz)

theorem has_arG {n : Nat} (hn : n ≤ 48) (hfr : fr < n) (x : Nat) : has (arG n fr) x = true ↔ fr ≤ x ∧ x < n := by
  unfold arG
  rw [has_or, has_andNot, has_mall, has_mall, has_one fr x (by omega)]
  simp only [Bool.or_eq_true, Bool.and_eq_true, decide_eq_true_eq, Bool.not_eq_true', Bool.and_eq_false_iff, decide_eq_false_iff_not]
  omega
/-- What around answers. -/
theorem arL_spec (hk : k ≤ 48) (hf : Cl k f) (hfr : fr < k) : (arL k f fr = [] ∧ ∀ j, ¬ Gw f (arG k fr) fr j fr) ∨
    ∃ K ys, arL k f fr = fr :: ys ∧ Lv f (arG k fr) fr K fr ∧ Path f (arG k fr) fr K fr ys := by
  have hB : ∀ z x, has (bk (prsR k f) z) x = true ↔ has (f x) z = true := fun z x => has_bH hk hf z x
  have h0 : ∀ x, has (bk (prsR k f) fr &&& arG k fr) x = true ↔ Lv f (arG k fr) fr 0 x := fun x => by
    rw [has_and', Bool.and_eq_true, hB]
    exact ⟨fun h => ⟨⟨h.2, h.1⟩, fun j hj => by omega⟩, fun h => ⟨h.1.2, h.1.1⟩⟩
  have hm : ∀ x, has 0#64 x = true ↔ ∃ j, j < 0 ∧ Gw f (arG k fr) fr j x := fun x => by
    rw [has_zero]
    exact ⟨fun h => (by cases h), fun ⟨j, hj, _⟩ => by omega⟩
  unfold arL
  cases ha : arAt k f fr with
  | none =>
    exact .inl ⟨rfl, arGo_none hB 65 0 _ _ [] rfl (by have := Mk.elems_length_le (arG k fr &&& ~~~ 0#64); omega) h0 hm (fun j hj => by omega) ha⟩
  | some l =>
    obtain ⟨K, h1, h2, h3⟩ := arGo_some hB 65 0 _ _ [] l rfl h0 hm (fun j s hs => by simp at hs) (fun j hj => by omega) ha
    refine .inr ⟨K, _, rfl, h3, ?_⟩
    have := wkTail_path h2 K fr (by omega) h3
    rwa [show l.dropLast = l.take K by rw [List.dropLast_eq_take, h1]; rfl]
end Go.Proofs.YtgegmoedgegkcaaDoor
