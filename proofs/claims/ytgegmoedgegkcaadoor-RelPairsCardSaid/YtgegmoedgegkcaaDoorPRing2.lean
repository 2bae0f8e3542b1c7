/-
  Plain: the ring is a shortest cycle; a relation is cyclic just if the closure relates a thing to itself; the order goes along the pairs.
-/
import Derived.Test.YtgegmoedgegkcaaDoorPRing
namespace Go.Proofs.YtgegmoedgegkcaaDoor
variable {k : Nat} {f g : Nat → BitVec 64} {G : BitVec 64} {fr : Nat}

/-- A cycle: its things are one another's, each leads to the next, the first is least. -/
structure Cyc (f : Nat → BitVec 64) (l : List Nat) : Prop where
  pos : 0 < l.length
  step : ∀ i (h : i < l.length), has (f l[i]) (l[(i + 1) % l.length]'(Nat.mod_lt _ (by omega))) = true
  dis : l.Nodup
  low : ∀ i (h : i < l.length), l[0]'(by omega) ≤ l[i]
theorem lv_zero {x : Nat} (h : Lv f G fr 0 x) : has (f x) fr = true := h.1.2
theorem cyc_of {n K : Nat} {ys : List Nat} (hn : n ≤ 48) (hfr : fr < n) (h1 : Lv f (arG n fr) fr K fr) (h2 : Path f (arG n fr) fr K fr ys) : Cyc f (fr :: ys) := by
  obtain ⟨k1, k2, k3⟩ := h2.at_ h1
  have hlen : (fr :: ys).length = K + 1 := by simp [k1]
  have hlv : ∀ i (h : i < (fr :: ys).length), Lv f (arG n fr) fr (K - i) (fr :: ys)[i] := fun i h => k2 i _ (List.getElem?_eq_getElem h)
  refine ⟨by simp, fun i h => ?_, ?_, fun i h => ?_⟩
  · by_cases hi : i + 1 < (fr :: ys).length
    · simp only [Nat.mod_eq_of_lt hi]
      exact k3 i _ _ (List.getElem?_eq_getElem h) (List.getElem?_eq_getElem hi)
    · have hiK : i = K := by omega
      subst hiK
      have : (i + 1) % (fr :: ys).length = 0 := by rw [hlen, Nat.mod_self]
      simp only [this, List.getElem_cons_zero]
      have := hlv i h
      rw [Nat.sub_self] at this
      exact lv_zero this
  · rw [List.nodup_iff_pairwise_ne, List.pairwise_iff_getElem]
    intro i j hi hj hij e
    have h3 := hlv i hi
    rw [e] at h3
    have := h3.uniq (hlv j hj)
    omega
  · have := ((has_arG hn hfr _).1 (hlv i h).1.mem).1
    simpa using this
/-- A cycle is a closed walk. -/
theorem Cyc.wk {l : List Nat} (h : Cyc f l) : Wk f l.length (l[0]'h.pos) (l[0]'h.pos) := by
  have key : ∀ i (hi : i < l.length), Wk f i (l[0]'h.pos) l[i] := by
    intro i
    induction i with
    | zero => intro hi; rfl
    | succ i ih =>
      intro hi
      have h1 := ih (by omega)
      have h2 := h.step i (by omega)
      simp only [Nat.mod_eq_of_lt hi] at h2
      exact h1.snoc h2
  have hp := h.pos
  have h1 := key (l.length - 1) (by omega)
  have h2 := h.step (l.length - 1) (by omega)
  have e : (l.length - 1 + 1) % l.length = 0 := by rw [show l.length - 1 + 1 = l.length by omega, Nat.mod_self]
  simp only [e] at h2
  have h3 := h1.snoc h2
  have h4 : ∀ n, n = l.length → Wk f n (l[0]'h.pos) (l[0]'h.pos) → Wk f l.length (l[0]'h.pos) (l[0]'h.pos) := fun n e h => e ▸ h
  exact h4 _ (by omega) h3
theorem mod_self_one (j : Nat) : (j + 1 % (j + 1)) % (j + 1) = 0 := by
  cases j with
  | zero => rfl
  | succ j => rw [Nat.mod_eq_of_lt (show 1 < j + 1 + 1 by omega), Nat.mod_self]
/-- A closed walk gives one around its least thing, above it. -/
theorem closed_gw (hk : k ≤ 48) (hf : Cl k f) {j x : Nat} (h : Wk f (j + 1) x x) : ∃ fr, fr < k ∧ Gw f (arG k fr) fr j fr := by
  obtain ⟨p, h0, h1, h2⟩ := h.path
  -- the walk, on and on
  let q : Nat → Nat := fun i => p (i % (j + 1))
  have hq : ∀ i, has (f (q i)) (q (i + 1)) = true := by
    intro i
    have hlt : i % (j + 1) < j + 1 := Nat.mod_lt _ (by omega)
    have := h2 (i % (j + 1)) hlt
    show has (f (p (i % (j + 1)))) (p ((i + 1) % (j + 1))) = true
    by_cases he : i % (j + 1) = j
    · have e2 : (i + 1) % (j + 1) = 0 := by rw [Nat.add_mod, he]; exact mod_self_one j
      rw [e2, h0, ← h1]
      rw [he] at this ⊢
      exact this
    · have e2 : (i + 1) % (j + 1) = i % (j + 1) + 1 := by
        rw [Nat.add_mod]
        by_cases hj : j = 0
        · subst hj; omega
        · rw [Nat.mod_eq_of_lt (show 1 < j + 1 by omega), Nat.mod_eq_of_lt (by omega)]
      rw [e2]; exact this
  have hper : ∀ i, q (i + (j + 1)) = q i := fun i => by show p ((i + (j + 1)) % (j + 1)) = _; rw [Nat.add_mod_right]
  -- the least
  have hmin : ∃ i, i < j + 1 ∧ ∀ i', q i ≤ q i' := by
    have hm : ∀ n, 0 < n → ∃ i, i < n ∧ ∀ i', i' < n → q i ≤ q i' := by
      intro n
      induction n with
      | zero => intro h; omega
      | succ n ih =>
        intro _
        by_cases hn : n = 0
        · subst hn
          exact ⟨0, by omega, fun i' hi' => by rw [show i' = 0 by omega]; exact Nat.le_refl _⟩
        · obtain ⟨i, hi, h3⟩ := ih (by omega)
          by_cases hc : q i ≤ q n
          · exact ⟨i, by omega, fun i' hi' => by
              by_cases hin : i' < n
              · exact h3 i' hin
              · rw [show i' = n by omega]; exact hc⟩
          · exact ⟨n, by omega, fun i' hi' => by
              by_cases hin : i' < n
              · have := h3 i' hin; omega
              · rw [show i' = n by omega]; exact Nat.le_refl _⟩
    obtain ⟨i, hi, h3⟩ := hm (j + 1) (by omega)
    refine ⟨i, hi, fun i' => ?_⟩
    have e : q i' = q (i' % (j + 1)) := by show p (i' % (j + 1)) = p (i' % (j + 1) % (j + 1)); rw [Nat.mod_mod]
    rw [e]
    exact h3 _ (Nat.mod_lt _ (by omega))
  obtain ⟨i0, _, hle⟩ := hmin
  have hlt : ∀ i, q i < k := fun i => (hf _ _ (hq i)).1
  refine ⟨q i0, hlt i0, ?_⟩
  have hG : ∀ i, has (arG k (q i0)) (q i) = true := fun i => (has_arG hk (hlt i0) _).2 ⟨hle i, hlt i⟩
  have key : ∀ s, s ≤ j → Gw f (arG k (q i0)) (q i0) s (q (i0 + (j - s))) := by
    intro s
    induction s with
    | zero =>
      intro _
      refine ⟨hG _, ?_⟩
      have := hq (i0 + (j - 0))
      rwa [show i0 + (j - 0) + 1 = i0 + (j + 1) by omega, hper] at this
    | succ s ih =>
      intro hs
      refine ⟨hG _, q (i0 + (j - s)), ?_, ih (by omega)⟩
      have := hq (i0 + (j - (s + 1)))
      rwa [show i0 + (j - (s + 1)) + 1 = i0 + (j - s) by omega] at this
  have := key j (Nat.le_refl j)
  rwa [Nat.sub_self, Nat.add_zero] at this

/-! Ring. -/
theorem rgStep_nil (best : List Nat) : rgStep best [] = best := by unfold rgStep; rw [if_neg (by simp)]
theorem rgUp_spec (f : Nat → BitVec 64) (n : Int) : ∀ m, (rgUp n f m = [] ∧ ∀ a, a < m → arL n f a = []) ∨
    ∃ a, a < m ∧ rgUp n f m = arL n f a ∧ arL n f a ≠ [] ∧ (∀ b, b < m → arL n f b ≠ [] → (arL n f a).length ≤ (arL n f b).length) ∧ ∀ b, b < a → arL n f b ≠ [] → (arL n f a).length < (arL n f b).length
  | 0 => .inl ⟨rfl, fun a h => by omega⟩
  | m + 1 => by
    rw [rgUp_succ]
    rcases rgUp_spec f n m with ⟨h1, h2⟩ | ⟨a, h1, h2, h3, h4, h5⟩
    · rw [h1]
      by_cases he : arL n f m = []
      · rw [he, rgStep_nil]
        exact .inl ⟨rfl, fun a ha => by
          by_cases ham : a < m
          · exact h2 a ham
          · rw [show a = m by omega]; exact he⟩
      · refine .inr ⟨m, by omega, ?_, he, fun b hb hne => ?_, fun b hb hne => absurd (h2 b hb) hne⟩
        · unfold rgStep
          rw [if_pos ⟨List.length_pos_iff.2 he, .inl rfl⟩]
        · by_cases hbm : b < m
          · exact absurd (h2 b hbm) hne
          · rw [show b = m by omega]; exact Nat.le_refl _
    · rw [h2]
      by_cases hc : 0 < (arL n f m).length ∧ (arL n f m).length < (arL n f a).length
      · refine .inr ⟨m, by omega, ?_, List.length_pos_iff.1 hc.1, fun b hb hne => ?_, fun b hb hne => ?_⟩
        · unfold rgStep
          rw [if_pos ⟨hc.1, .inr hc.2⟩]
        · by_cases hbm : b < m
          · have := h4 b hbm hne; omega
          · rw [show b = m by omega]; exact Nat.le_refl _
        · have := h4 b hb hne; omega
      · refine .inr ⟨a, by omega, ?_, h3, fun b hb hne => ?_, h5⟩
        · unfold rgStep
          rw [if_neg]
          rintro ⟨h6, h7 | h7⟩
          · exact h3 (List.eq_nil_of_length_eq_zero h7)
          · exact hc ⟨h6, h7⟩
        · by_cases hbm : b < m
          · exact h4 b hbm hne
          · have hb2 : b = m := by omega
            subst hb2
            have := List.length_pos_iff.2 hne
            omega
/-- The ring: none, and then no walk is closed; or a cycle, and no closed walk is shorter. -/
theorem ring_spec (hk : k ≤ 48) (hf : Cl k f) : (ringL k f = [] ∧ ∀ j x, ¬ Wk f (j + 1) x x) ∨ (ringL k f ≠ [] ∧ Cyc f (ringL k f) ∧ ∀ j x, Wk f (j + 1) x x → (ringL k f).length ≤ j + 1) := by
  have hr : ringL k f = rgUp k f k := by unfold ringL; rw [hf.right hk, if_pos rfl, Int.toNat_natCast]
  rw [hr]
  have hne : ∀ fr, fr < k → ∀ j, Gw f (arG k fr) fr j fr → arL k f fr ≠ [] ∧ (arL k f fr).length ≤ j + 1 := by
    intro fr hfr j hg
    rcases arL_spec hk hf hfr with ⟨_, h2⟩ | ⟨K, ys, h1, h2, h3⟩
    · exact absurd hg (h2 j)
    · rw [h1]
      refine ⟨by simp, ?_⟩
      have := (h3.at_ h2).1
      simp only [List.length_cons, this]
      have : K ≤ j := Nat.not_lt.1 fun h => h2.2 j h hg
      omega
  rcases rgUp_spec f k k with ⟨h1, h2⟩ | ⟨a, h1, h2, h3, h4, _⟩
  · refine .inl ⟨h1, fun j x hw => ?_⟩
    obtain ⟨fr, hfr, hg⟩ := closed_gw hk hf hw
    exact (hne fr hfr j hg).1 (h2 fr hfr)
  · rw [h2]
    refine .inr ⟨h3, ?_, fun j x hw => ?_⟩
    · rcases arL_spec hk hf h1 with ⟨e, _⟩ | ⟨K, ys, e, g1, g2⟩
      · exact absurd e h3
      · rw [e]; exact cyc_of hk h1 g1 g2
    · obtain ⟨fr, hfr, hg⟩ := closed_gw hk hf hw
      have := hne fr hfr j hg
      have := h4 fr hfr this.1
      omega
theorem ring_iff (hk : k ≤ 48) (hf : Cl k f) : ringL k f = [] ↔ irrR k (plusF k f) = true := by
  rw [irr_iff hk (cl_plus hk hf)]
  constructor
  · intro h x
    rcases ring_spec hk hf with ⟨_, h2⟩ | ⟨h1, _⟩
    · cases hx : has (plusF k f x) x with
      | false => rfl
      | true =>
        obtain ⟨j, hj⟩ := (plus_wk hk hf x x).1 hx
        exact absurd hj (h2 j x)
    · exact absurd h h1
  · intro h
    rcases ring_spec hk hf with ⟨h1, _⟩ | ⟨_, h2, _⟩
    · exact h1
    · have hw := h2.wk
      have hp := h2.pos
      obtain ⟨j, hj⟩ : ∃ j, (ringL k f).length = j + 1 := ⟨(ringL k f).length - 1, by omega⟩
      have h4 : ∀ n a, n = j + 1 → Wk f n a a → Wk f (j + 1) a a := fun n a e h => e ▸ h
      have := (plus_wk hk hf _ _).2 ⟨j, h4 _ _ hj hw⟩
      rw [h] at this; cases this

/-! Top. -/
theorem topGo_some {B : Nat → BitVec 64} : ∀ (fu : Nat) (left : BitVec 64) (out tl : List Nat), (Mk.elems left).length = fu → topGo B fu left out = some tl →
    ∃ ys, tl = out ++ ys ∧ ys.length = fu ∧ ys.Nodup ∧ (∀ x, x ∈ ys ↔ has left x = true) ∧ ∀ i (h : i < ys.length) p, has (B ys[i]) p = true → has left p = true → p ∈ ys.take i
  | 0, left, out, tl, hl, h => by
    unfold topGo at h
    simp only [Option.some.injEq] at h
    subst h
    refine ⟨[], by simp, rfl, by simp, fun x => ?_, fun i h => by simp at h⟩
    constructor
    · intro h; cases h
    · intro hx
      have := Mk.mem_elems.2 hx
      rw [List.eq_nil_of_length_eq_zero hl] at this; cases this
  | fu + 1, left, out, tl, hl, h => by
    unfold topGo at h
    split at h
    · cases h
    · rename_i a ha
      have ham := List.mem_of_find?_eq_some ha
      have haz := List.find?_some ha
      have ha1 : has left a = true := Mk.mem_elems.1 ham
      have hdrop := elems_drop ham
      obtain ⟨ys, h1, h2, h3, h4, h5⟩ := topGo_some fu _ _ tl (by omega) h
      have hleft : ∀ x, has (left &&& ~~~ (1#64 <<< a)) x = true ↔ has left x = true ∧ x ≠ a := by
        intro x
        rw [has_andNot, has_one a x (has_lt ha1), Bool.and_eq_true, Bool.not_eq_true', decide_eq_false_iff_not]
      refine ⟨a :: ys, by rw [h1]; simp, by simp [h2], ?_, fun x => ?_, fun i hi p hp hpl => ?_⟩
      · rw [List.nodup_cons]
        exact ⟨fun hm => ((hleft a).1 ((h4 a).1 hm)).2 rfl, h3⟩
      · rw [List.mem_cons, h4, hleft]
        by_cases hxa : x = a
        · subst hxa; simp [ha1]
        · simp [hxa]
      · match i with
        | 0 =>
          simp only [List.getElem_cons_zero] at hp
          have : has (B a &&& left) p = true := by rw [has_and', hp, hpl]; rfl
          rw [eq_of_beq haz, has_zero] at this; cases this
        | i + 1 =>
          simp only [List.getElem_cons_succ] at hp
          by_cases hpa : p = a
          · subst hpa; simp
          · rw [List.take_succ_cons, List.mem_cons]
            exact .inr (h5 i (by simpa using hi) p hp ((hleft p).2 ⟨hpl, hpa⟩))
theorem topGo_none {B : Nat → BitVec 64} : ∀ (fu : Nat) (left : BitVec 64) (out : List Nat), (Mk.elems left).length = fu → topGo B fu left out = none →
    ∃ s : BitVec 64, (∃ a, has s a = true) ∧ ∀ a, has s a = true → ∃ p, has s p = true ∧ has (B a) p = true
  | 0, left, out, _, h => by unfold topGo at h; cases h
  | fu + 1, left, out, hl, h => by
    unfold topGo at h
    split at h
    · rename_i hn
      refine ⟨left, ?_, fun a ha => ?_⟩
      · cases he : Mk.elems left with
        | nil => rw [he] at hl; cases hl
        | cons a l => exact ⟨a, Mk.mem_elems.1 (by rw [he]; simp)⟩
      · have := List.find?_eq_none.1 hn a (Mk.mem_elems.2 ha)
        simp only [Bool.not_eq_true, beq_eq_false_iff_ne] at this
        apply Classical.byContradiction
        intro hno
        apply this
        refine Mk.has_ext' fun p => ?_
        rw [has_zero, has_and']
        cases h1 : has (B a) p with
        | false => rfl
        | true =>
          cases h2 : has left p with
          | false => rfl
          | true => exact absurd ⟨p, h2, h1⟩ hno
    · rename_i a ha
      exact topGo_none fu _ _ (by have := elems_drop (List.mem_of_find?_eq_some ha); omega) h
theorem top_eq (hk : k ≤ 48) (hf : Cl k f) : topR k f = topGo (bH k f) (Mk.elems (mall k)).length (mall k) [] := by
  unfold topR; rw [hf.right hk, if_pos rfl]; rfl
theorem has_mallN (hk : k ≤ 48) (x : Nat) : has (mall (k : Int)) x = true ↔ x < k := by
  rw [has_mall, Bool.and_eq_true, decide_eq_true_eq, decide_eq_true_eq]; omega
theorem elems_mall (hk : k ≤ 48) : (Mk.elems (mall (k : Int))).length = k := by
  rw [elems_count]
  have h1 : ∀ n, n ≤ 64 → ((List.range n).countP fun b => has (mall (k : Int)) b) = min n k := by
    intro n
    induction n with
    | zero => intro _; simp
    | succ n ih =>
      intro hn
      rw [List.range_succ, List.countP_append, ih (by omega)]
      by_cases h : n < k
      · rw [List.countP_cons, (has_mallN hk n).2 h]; simp; omega
      · have : has (mall (k : Int)) n = false := by rw [← Bool.not_eq_true, has_mallN hk]; exact h
        rw [List.countP_cons, this]; simp; omega
  rw [h1 64 (Nat.le_refl _)]; omega
/-- An order: all things, each once, none ahead of one of its predecessors. -/
structure Ord (k : Nat) (f : Nat → BitVec 64) (l : List Nat) : Prop where
  len : l.length = k
  dis : l.Nodup
  mem : ∀ x, x ∈ l ↔ x < k
  pre : ∀ i (h : i < l.length) p, has (f p) l[i] = true → p ∈ l.take i
theorem top_some (hk : k ≤ 48) (hf : Cl k f) {tl : List Nat} (h : topR k f = some tl) : Ord k f tl := by
  rw [top_eq hk hf] at h
  obtain ⟨ys, h1, h2, h3, h4, h5⟩ := topGo_some _ _ _ _ rfl h
  rw [List.nil_append] at h1
  subst h1
  refine ⟨by rw [h2, elems_mall hk], h3, fun x => by rw [h4, has_mallN hk], fun i hi p hp => ?_⟩
  exact h5 i hi p ((has_bH hk hf _ _).2 hp) ((has_mallN hk p).2 (hf _ _ hp).1)
theorem Ord.acyc {l : List Nat} (h : Ord k f l) (hf : Cl k f) (j x : Nat) : ¬ Wk f (j + 1) x x := by
  have back : ∀ (j c b i : Nat), Wk f j c b → l[i]? = some b → ∃ i', i' ≤ i ∧ l[i']? = some c := by
    intro j
    induction j with
    | zero => intro c b i hw hi; exact ⟨i, Nat.le_refl i, by rw [show c = b from hw]; exact hi⟩
    | succ j ih =>
      rintro c b i ⟨d, h1, h2⟩ hi
      obtain ⟨i2, h3, h4⟩ := ih d b i h2 hi
      obtain ⟨hlt, h5⟩ := List.getElem?_eq_some_iff.1 h4
      have := h.pre i2 hlt c (by rw [h5]; exact h1)
      obtain ⟨i3, h6, h7⟩ := List.mem_iff_getElem.1 this
      rw [List.length_take] at h6
      rw [List.getElem_take] at h7
      exact ⟨i3, by omega, by rw [List.getElem?_eq_getElem (by omega), h7]⟩
  have key : ∀ i : Nat, l[i]? ≠ some x ∨ ¬ Wk f (j + 1) x x := by
    intro i
    induction i using Nat.strongRecOn with
    | _ i ih =>
      by_cases hw : Wk f (j + 1) x x
      · refine .inl fun hi => ?_
        obtain ⟨d, h1, h2⟩ := hw
        obtain ⟨i2, h3, h4⟩ := back j d x i h2 hi
        obtain ⟨hlt, h5⟩ := List.getElem?_eq_some_iff.1 h4
        have := h.pre i2 hlt x (by rw [h5]; exact h1)
        obtain ⟨i3, h6, h7⟩ := List.mem_iff_getElem.1 this
        rw [List.length_take] at h6
        rw [List.getElem_take] at h7
        rcases ih i3 (by omega) with h8 | h8
        · exact h8 (by rw [List.getElem?_eq_getElem (by omega), h7])
        · exact h8 ⟨d, h1, h2⟩
      · exact .inr hw
  intro hw
  have hx : x ∈ l := (h.mem x).2 (by obtain ⟨d, h1, _⟩ := hw; exact (hf _ _ h1).1)
  obtain ⟨i, hi, h1⟩ := List.mem_iff_getElem.1 hx
  rcases key i with h2 | h2
  · exact h2 (by rw [List.getElem?_eq_getElem hi, h1])
  · exact h2 hw
theorem top_iff (hk : k ≤ 48) (hf : Cl k f) : (topR k f).isSome = irrR k (plusF k f) := by
  rw [Bool.eq_iff_iff, irr_iff hk (cl_plus hk hf)]
  constructor
  · intro h x
    obtain ⟨tl, htl⟩ := Option.isSome_iff_exists.1 h
    cases hx : has (plusF k f x) x with
    | false => rfl
    | true =>
      obtain ⟨j, hj⟩ := (plus_wk hk hf x x).1 hx
      exact absurd hj ((top_some hk hf htl).acyc hf j x)
  · intro hirr
    cases ht : topR k f with
    | some tl => rfl
    | none =>
      exfalso
      rw [top_eq hk hf] at ht
      obtain ⟨s, ⟨a, ha⟩, hs⟩ := topGo_none _ _ _ rfl ht
      have key : ∀ n a, (Mk.elems (bH k (plusF k f) a)).length = n → has s a = true → False := by
        intro n
        induction n using Nat.strongRecOn with
        | _ n ih =>
          intro a hn ha
          obtain ⟨p, hp, hpa⟩ := hs a ha
          have hpa := (has_bH hk hf a p).1 hpa
          refine ih _ ?_ p rfl hp
          rw [← hn]
          have hP := cl_plus hk hf
          refine elems_lt (fun b hb => ?_) (fun e => ?_)
          · have h1 := (has_bH hk hP p b).1 hb
            exact (has_bH hk hP a b).2 (plus_trans hk b p a h1 (plus_ge hf p a hpa))
          · have h1 : has (bH k (plusF k f) a) p = true := (has_bH hk hP a p).2 (plus_ge hf p a hpa)
            rw [← e, has_bH hk hP, hirr] at h1; cases h1
      exact key _ a rfl ha
end Go.Proofs.YtgegmoedgegkcaaDoor
