/-
  Regions that draw their order and whose operations may answer new values or write memory: what each such operation brings about is told by a predicate of the letters' values and the world; one walk in the order of the text serves every order.
-/
import Derived.Test.YtckcdpmfmfpmmaaPtr
namespace Go.Proofs.Ytckcdpmfmfpmmaa
open Go.RowKit

section
variable {P : Program} {ops : Array Oper} {md : Region.Mode}
/-- Operation i waits for the one that yields slot t. -/
def needs (md : Region.Mode) (ops : Array Oper) (i : Nat) (t : Tmp) : Bool := (List.range ops.size).any fun j => ((ops[j]?).bind (·.dst) == some t) && Region.waitsFor md ops i j
/-- The letters that stand where operation i is taken, as far as it can look. -/
def seen (md : Region.Mode) (ops : Array Oper) (T : List Tmp) (i : Nat) : List Tmp := T.filter (needs md ops i)
theorem needs_spec {i : Nat} {t : Tmp} (h : needs md ops i t = true) : ∃ (j : Nat) (o : Oper), ops[j]? = some o ∧ o.dst = some t ∧ Region.waitsFor md ops i j = true := by
  obtain ⟨j, hj, h⟩ := List.any_eq_true.1 h
  rw [Bool.and_eq_true] at h
  have h1 := eq_of_beq h.1
  cases ho : ops[j]? with
  | none => rw [ho] at h1; cases h1
  | some o => rw [ho] at h1; exact ⟨j, o, ho, h1, h.2⟩

/-- T: the slots of the letters. S: the operations whose facts count. U: whose facts an operation uses. E: the operations whose facts are wanted at the end. C: the class of worlds. -/
structure Pl where
  T : List Tmp
  S : List Nat
  U : Nat → List Nat
  E : List Nat
  C : World → Prop
  X : Nat → (Tmp → Value) → World → Prop
  z : Nat
  Z : World → Prop
variable (p : Pl)
def GoodS (i : Nat) (β : Tmp → Value) (w : World) : Prop := (∀ j, j ∈ p.U i → p.X j β w) ∧ (i = p.z → p.Z w)
def bset (β : Tmp → Value) (d : Option Tmp) (u : Value) : Tmp → Value := match d with
  | some t => fun s => if s = t then u else β s
  | none => β
/-- The facts of j, that may stand, are still wanted behind operation i. -/
def waits2 (md : Region.Mode) (ops : Array Oper) (j i : Nat) : Bool := Region.waitsFor md ops j i || (List.range ops.size).any fun k => Region.waitsFor md ops j k && Region.waitsFor md ops k i
def stay (E : List Nat) (U : Nat → List Nat) (md : Region.Mode) (ops : Array Oper) (i j : Nat) : Bool := !waits2 md ops j i && (E.contains j || (List.range ops.size).any fun k => (U k).contains j && k != i && !Region.waitsFor md ops i k)
def SDone (md : Region.Mode) (ops : Array Oper) (i : Nat) (d : Option Tmp) (β : Tmp → Value) (w : World) (u : Value) (w' : World) : Prop :=
  p.X i (bset β d u) w' ∧ p.C w' ∧ (∀ j ∈ p.S, j ≠ i → stay p.E p.U md ops i j = true → p.X j β w → p.X j (bset β d u) w') ∧ (i ≠ p.z → Region.waitsFor md ops i p.z = false → p.Z w → p.Z w')
def sUpon (P : Program) (md : Region.Mode) (ops : Array Oper) (i : Nat) (d : Option Tmp) (β : Tmp → Value) (w : World) : Result Next → Prop
  | .ok (.enter f args) w' => w' = w ∧ Calls P f args w (fun e w'' => ∃ u, e = .returned u ∧ SDone p md ops i d β w u w'')
  | .ok (.value u) w' => SDone p md ops i d β w u w'
  | .ok .skip w' => SDone p md ops i d β w undef w'
  | _ => False
def YS (P : Program) (md : Region.Mode) (ops : Array Oper) (i : Nat) (o : Oper) (v : Value) (a : Act) : Prop :=
  (i ∈ p.S ∧ (∀ t, o.dst = some t → t ∈ p.T) ∧ v = undef ∧ Region.wanted o (yielded ops a.tmps) = true ∧ ∀ β w, p.C w → GoodS p i β w → sUpon p P md ops i o.dst β w ((execOp (ovl a β (seen md ops p.T i)).eval o).run P w)) ∨
  (i ∉ p.S ∧ (∀ t, o.dst = some t → t ∉ p.T) ∧ ((Region.wanted o (yielded ops a.tmps) = true ∧ ∀ β w, p.C w → GoodS p i β w → o.quietAt P (ovl a β (seen md ops p.T i)) (fun w'' => Below w.heap.size w w'') w v) ∨ (Region.wanted o (yielded ops a.tmps) = false ∧ v = undef)))
theorem ys_looks : YLooks ops (YS p P md ops) := by
  intro i o v a d u _ hs h
  unfold YS Oper.quietAt
  rw [wanted_put o a d u h]
  simp only [ovl_exec (seen md ops p.T i) hs a _ d u h]

structure SOk (md : Region.Mode) (ops : Array Oper) (p : Pl) : Prop where
  sel : ∀ (j : Nat) (o : Oper) cs b, ops[j]? = some o → o.op ≠ .select cs b
  one : ∀ t ∈ p.T, ∃ (i : Nat) (o : Oper), ops[i]? = some o ∧ o.dst = some t ∧ ∀ (j : Nat) (o' : Oper), ops[j]? = some o' → o'.dst = some t → j = i
  dep : ∀ (j : Nat) (o : Oper), ops[j]? = some o → ∀ t ∈ p.T, t ∈ o.looksAt ops → needs md ops j t = true ∨ ∃ (i : Nat) (o' : Oper), ops[i]? = some o' ∧ o'.dst = some t ∧ Region.waitsFor md ops i j = true
  grd : ∀ (j : Nat) (o : Oper), ops[j]? = some o → ∀ t ∈ p.T, ∀ (g : Nat) (want : Bool), o.guard = some (g, want) → (ops[g]?).bind (·.dst) ≠ some t
  use : ∀ (i : Nat) (o : Oper), ops[i]? = some o → ∀ j ∈ p.U i, j ∈ p.S ∧ Region.waitsFor md ops i j = true
  lt : ∀ i ∈ p.E, i ∈ p.S ∧ i < ops.size
def ClosedL (md : Region.Mode) (ops : Array Oper) (listed : Array Bool) : Prop := ∀ (j : Nat) (oj : Oper), ops[j]? = some oj → listed.getD j false = true → ∀ e ∈ oj.after, Region.binds md e = true → listed.getD e.on false = true
theorem ClosedL.set {listed : Array Bool} {i : Nat} (h : ClosedL md ops listed) (hsz : listed.size = ops.size) (hi : i ∈ Region.ready md ops listed) : ClosedL md ops (listed.setIfInBounds i true) := by
  obtain ⟨_, oi, hoi, hall⟩ := mem_ready.1 hi
  have his : i < ops.size := (Array.getElem?_eq_some_iff.1 hoi).1
  have up : ∀ k, listed.getD k false = true → (listed.setIfInBounds i true).getD k false = true := fun k hk => by
    by_cases hik : i = k
    · subst hik; simp [hsz, his]
    · rw [getD_set_ne false hik]; exact hk
  intro j oj hj hl e he hb
  by_cases hij : i = j
  · subst hij
    have : oj = oi := Option.some.inj (hj.symm.trans hoi)
    subst this
    exact up _ (hall e he hb)
  · rw [getD_set_ne false hij] at hl
    exact up _ (h j oj hj hl e he hb)
theorem listed_waits {listed : Array Bool} {j k : Nat} (hcl : ClosedL md ops listed) (hj : listed.getD j false = true) (hw : Region.waitsFor md ops j k = true) : listed.getD k false = true := by
  obtain ⟨o2, ho2, e, he, hb, hon⟩ := Region.waitsFor_spec hw
  exact hon ▸ hcl j o2 ho2 hj e he hb
theorem listed_of_waits {listed : Array Bool} {i j : Nat} (hi : i ∈ Region.ready md ops listed) (hw : Region.waitsFor md ops i j = true) : listed.getD j false = true := by
  obtain ⟨_, oi, hoi, hall⟩ := mem_ready.1 hi
  obtain ⟨o2, ho2, e, he, hb, hon⟩ := Region.waitsFor_spec hw
  have : o2 = oi := Option.some.inj (ho2.symm.trans hoi)
  subst this
  exact hon ▸ hall e he hb

variable {p}
theorem s_run {Fin : Act → Prop} {chk : Array Bool → Bool} {Q : Exit → Act → World → Prop} (hok : SOk md ops p) (hCb : ∀ w w', p.C w → Below w.heap.size w w' → p.C w') (hX : ∀ i β w w', p.X i β w → Below w.heap.size w w' → p.X i β w') (hZb : ∀ w w', p.Z w → Below w.heap.size w w' → p.Z w')
    (hchk : ∀ listed, chk listed = true → Region.ready md ops listed = [] ∧ ∀ j, j < ops.size → listed.getD j false = true)
    (hQ : ∀ β w' a, p.C w' → (∀ i ∈ p.E, p.X i β w') → Fin a → Q .normal (ovl a β p.T) w') :
    ∀ (f : Nat) (listed : Array Bool) (a : Act) (w : World) (β : Tmp → Value) (D : List Tmp), anyYL md ops ops.size (YS p P md ops) (fun listed' a' => chk listed' = true ∧ Fin a') f listed a → listed.size = ops.size → p.C w → ClosedL md ops listed →
      (∀ t ∈ D, t ∈ p.T) → (∀ t ∈ p.T, t ∈ D ↔ ∃ (i : Nat) (o : Oper), ops[i]? = some o ∧ o.dst = some t ∧ listed.getD i false = true) →
      (∀ j ∈ p.S, listed.getD j false = true → (j ∈ p.E ∨ ∃ k, k < ops.size ∧ listed.getD k false = false ∧ j ∈ p.U k) → p.X j β w) → (listed.getD p.z false = false → p.Z w) → wpAny P md ops Q f listed (ovl a β D) w := by
  intro f
  induction f with
  | zero =>
    intro listed a w β D h hsz hC hcl hDT hD hXD hZD
    obtain ⟨h1, h2⟩ := hchk _ h.1
    have hall : ∀ t, t ∈ D ↔ t ∈ p.T := fun t => ⟨hDT t, fun ht => by
      obtain ⟨i, o, ho, hd, _⟩ := hok.one t ht
      exact (hD t ht).2 ⟨i, o, ho, hd, h2 i (Array.getElem?_eq_some_iff.1 ho).1⟩⟩
    rw [ovl_perm β D p.T a hall]
    exact ⟨h1, hQ β w a hC (fun i hi => hXD i (hok.lt i hi).1 (h2 i (hok.lt i hi).2) (.inl hi)) h.2⟩
  | succ f ih =>
    intro listed a w β D h hsz hC hcl hDT hD hXD hZD
    refine ⟨fun h0 => absurd h0 h.1, fun i hi => ?_⟩
    obtain ⟨_, o, v, ho, hy, hrest⟩ := h.2 i hi
    obtain ⟨hun, o1, ho1, hdeps⟩ := mem_ready.1 hi
    have : o1 = o := Option.some.inj (ho1.symm.trans ho)
    subst this
    have his : i < ops.size := (Array.getElem?_eq_some_iff.1 ho).1
    have hunF : listed.getD i false = false := getD_both hun
    have hself : (listed.setIfInBounds i true).getD i false = true := by simp [hsz, his]
    have hset : ∀ j, i ≠ j → (listed.setIfInBounds i true).getD j false = listed.getD j false := fun j hij => getD_set_ne false hij
    have hsz' : (listed.setIfInBounds i true).size = ops.size := by simp [hsz]
    have hcl' := hcl.set hsz hi
    have hgood : GoodS p i β w := ⟨fun j hj => by
      obtain ⟨h1, h2⟩ := hok.use i o1 ho j hj
      exact hXD j h1 (listed_of_waits hi h2) (.inr ⟨i, his, hunF, hj⟩), fun e => hZD (e ▸ hunF)⟩
    have hse : ∀ s, s ∈ o1.looksAt ops → s ∈ p.T → (s ∈ D ↔ s ∈ seen md ops p.T i) := by
      intro s hs hsT
      constructor
      · intro hsD
        rcases hok.dep i o1 ho s hsT hs with hn | ⟨q, oq, hoq, hdq, hwq⟩
        · exact List.mem_filter.2 ⟨hsT, hn⟩
        · obtain ⟨j, oj, hj, hdj, hl⟩ := (hD s hsT).1 hsD
          obtain ⟨u, _, _, _, hu⟩ := hok.one s hsT
          have e1 := hu j oj hj hdj
          have e2 := hu q oq hoq hdq
          obtain ⟨oq2, hoq2, e, he, hb, hon⟩ := Region.waitsFor_spec hwq
          have := hcl q oq2 hoq2 (by rw [e2, ← e1]; exact hl) e he hb
          rw [hon, hunF] at this; cases this
      · intro hsE
        obtain ⟨j, oj, hj, hdj, hw⟩ := needs_spec (List.mem_filter.1 hsE).2
        exact (hD s hsT).2 ⟨j, oj, hj, hdj, listed_of_waits hi hw⟩
    have hex : execOp (ovl a β D).eval o1 = execOp (ovl a β (seen md ops p.T i)).eval o1 := exec_same (ops := ops) (fun cs b => hok.sel i o1 cs b ho) fun s hs => by
      rw [eval_ovl, eval_ovl]
      by_cases h1 : s ∈ p.T
      · by_cases h2 : s ∈ D
        · have h3 := (hse s hs h1).1 h2; simp [h2, h3]
        · have h3 : ¬ s ∈ seen md ops p.T i := fun h => h2 ((hse s hs h1).2 h)
          simp [h2, h3]
      · have h2 : ¬ s ∈ D := fun h => h1 (hDT s h)
        have h3 : ¬ s ∈ seen md ops p.T i := fun h => h1 (List.mem_filter.1 h).1
        simp [h2, h3]
    have hwant : Region.wanted o1 (yielded ops (ovl a β D).tmps) = Region.wanted o1 (yielded ops a.tmps) := wanted_ovl o1 β D a fun t ht => hok.grd i o1 ho t (hDT t ht)
    have hstay : ∀ j, listed.getD j false = true → (j ∈ p.E ∨ ∃ k, k < ops.size ∧ (listed.setIfInBounds i true).getD k false = false ∧ j ∈ p.U k) → stay p.E p.U md ops i j = true ∧ (j ∈ p.E ∨ ∃ k, k < ops.size ∧ listed.getD k false = false ∧ j ∈ p.U k) := by
      intro j hjl
      have hnw : waits2 md ops j i = false := by
        cases hw : waits2 md ops j i with
        | false => rfl
        | true =>
          unfold waits2 at hw
          rw [Bool.or_eq_true] at hw
          rcases hw with hw | hw
          · have := listed_waits hcl hjl hw
            rw [hunF] at this; cases this
          · obtain ⟨k, _, hk⟩ := List.any_eq_true.1 hw
            rw [Bool.and_eq_true] at hk
            have := listed_waits hcl (listed_waits hcl hjl hk.1) hk.2
            rw [hunF] at this; cases this
      rintro (hE | ⟨k, hk, hkl, hkU⟩)
      · exact ⟨by unfold stay; rw [hnw, List.contains_iff_mem.2 hE]; rfl, .inl hE⟩
      · have hki : k ≠ i := by rintro rfl; rw [hself] at hkl; cases hkl
        rw [hset k (Ne.symm hki)] at hkl
        refine ⟨?_, .inr ⟨k, hk, hkl, hkU⟩⟩
        unfold stay
        rw [hnw, Bool.not_false, Bool.true_and, Bool.or_eq_true]
        refine .inr (List.any_eq_true.2 ⟨k, List.mem_range.2 hk, ?_⟩)
        rw [Bool.and_eq_true, Bool.and_eq_true, Bool.not_eq_true']
        refine ⟨⟨List.contains_iff_mem.2 hkU, bne_iff_ne.2 hki⟩, ?_⟩
        cases hw : Region.waitsFor md ops i k with
        | false => rfl
        | true => rw [listed_of_waits hi hw] at hkl; cases hkl
    rcases hy with ⟨hiS, hdst, rfl, hw, hcall⟩ | ⟨hiS, hdst, hy⟩
    · have hc := hcall β w hC hgood
      rw [← hex] at hc
      have cont : ∀ u w'', SDone p md ops i o1.dst β w u w'' → wpAny P md ops Q f (listed.setIfInBounds i true) ((ovl a β D).put o1.dst u) w'' := by
        rintro u w'' ⟨hx1, hC1, hpres, hzp⟩
        have hZ' : (listed.setIfInBounds i true).getD p.z false = false → p.Z w'' := fun hl => by
          have hne : i ≠ p.z := by intro e; rw [← e, hself] at hl; cases hl
          rw [hset p.z hne] at hl
          refine hzp hne ?_ (hZD hl)
          cases hw : Region.waitsFor md ops i p.z with
          | false => rfl
          | true => rw [listed_of_waits hi hw] at hl; cases hl
        have hfacts : ∀ j ∈ p.S, (listed.setIfInBounds i true).getD j false = true → (j ∈ p.E ∨ ∃ k, k < ops.size ∧ (listed.setIfInBounds i true).getD k false = false ∧ j ∈ p.U k) → p.X j (bset β o1.dst u) w'' := fun j hj hl hor => by
          by_cases hji : j = i
          · subst hji; exact hx1
          · rw [hset j (Ne.symm hji)] at hl
            obtain ⟨h1, h2⟩ := hstay j hl hor
            exact hpres j hj hji h1 (hXD j hj hl h2)
        cases hd : o1.dst with
        | none =>
          rw [hd] at hrest hfacts
          refine ih _ _ w'' β D hrest hsz' hC1 hcl' hDT (fun t htT => ?_) hfacts hZ'
          rw [hD t htT]
          constructor
          · rintro ⟨j, o', hj, hdj, hl⟩
            have : i ≠ j := by rintro rfl; rw [hunF] at hl; cases hl
            exact ⟨j, o', hj, hdj, by rw [hset j this]; exact hl⟩
          · rintro ⟨j, o', hj, hdj, hl⟩
            have : i ≠ j := by
              rintro rfl
              have : o' = o1 := Option.some.inj (hj.symm.trans ho)
              subst this
              rw [hd] at hdj; cases hdj
            exact ⟨j, o', hj, hdj, by rw [hset j this] at hl; exact hl⟩
        | some t =>
          have htT := hdst t hd
          rw [ovl_more β D a t u]
          rw [hd] at hrest hfacts
          refine ih _ _ w'' _ (t :: D) hrest hsz' hC1 hcl' ?_ ?_ hfacts hZ'
          · intro s hs
            rcases List.mem_cons.1 hs with rfl | hs
            · exact htT
            · exact hDT s hs
          · intro s hsT
            by_cases hst : s = t
            · subst hst; simp only [List.mem_cons, true_or, true_iff]; exact ⟨i, o1, ho, hd, hself⟩
            · simp only [List.mem_cons, hst, false_or]
              rw [hD s hsT]
              constructor
              · rintro ⟨j, o', hj, hdj, hl⟩
                have : i ≠ j := by rintro rfl; rw [hunF] at hl; cases hl
                exact ⟨j, o', hj, hdj, by rw [hset j this]; exact hl⟩
              · rintro ⟨j, o', hj, hdj, hl⟩
                have : i ≠ j := by
                  rintro rfl
                  have : o' = o1 := Option.some.inj (hj.symm.trans ho)
                  subst this
                  rw [hd] at hdj
                  exact hst (Option.some.inj hdj).symm
                exact ⟨j, o', hj, hdj, by rw [hset j this] at hl; exact hl⟩
      unfold wpOp
      simp only [ho]
      rw [if_pos (by rw [hwant]; exact hw)]
      refine .inl ?_
      unfold Oper.wp
      generalize (execOp (ovl a β D).eval o1).run P w = r at hc
      cases r with
      | halt x w' => exact hc.elim
      | ok n w' =>
        cases n with
        | enter fn args =>
          obtain ⟨rfl, hcc⟩ := hc
          refine hcc.mono fun e w'' ⟨u, he, hx⟩ => ?_
          subst he
          exact cont u w'' hx
        | value u => exact cont u w' hc
        | skip => exact cont undef w' hc
        | _ => exact hc.elim
    · have hnotD : ∀ t, o1.dst = some t → t ∉ D := fun t h1 h2 => hdst t h1 (hDT t h2)
      have hD' : ∀ t ∈ p.T, t ∈ D ↔ ∃ (j : Nat) (o : Oper), ops[j]? = some o ∧ o.dst = some t ∧ (listed.setIfInBounds i true).getD j false = true := by
        intro s hsT
        rw [hD s hsT]
        constructor
        · rintro ⟨j, o', hj, hd, hl⟩
          have : i ≠ j := by rintro rfl; rw [hunF] at hl; cases hl
          exact ⟨j, o', hj, hd, by rw [hset j this]; exact hl⟩
        · rintro ⟨j, o', hj, hd, hl⟩
          have : i ≠ j := by
            rintro rfl
            have : o' = o1 := Option.some.inj (hj.symm.trans ho)
            subst this
            exact hdst s hd hsT
          exact ⟨j, o', hj, hd, by rw [hset j this] at hl; exact hl⟩
      have hy2 : YB P ops w o1 v (ovl a β D) := by
        unfold YB
        rw [hwant]
        rcases hy with ⟨hw, hq⟩ | hy
        · refine .inl ⟨hw, fun w1 hb1 => ?_⟩
          have h2 := hq β w1 (hCb _ _ hC hb1) ⟨fun j hj => hX j β _ _ (hgood.1 j hj) hb1, fun e => hZb _ _ (hgood.2 e) hb1⟩
          unfold Oper.quietAt at h2 ⊢
          rw [hex]; exact h2
        · exact .inr hy
      refine hy2.run ho (Below.refl _ _) fun w' hb => ?_
      rw [ovl_put β D a o1.dst v hnotD]
      refine ih _ _ w' β D hrest hsz' (hCb _ _ hC hb) hcl' hDT hD' (fun j hj hl hor => ?_) (fun hl => ?_)
      case' refine_2 =>
        by_cases hiz : i = p.z
        · rw [← hiz, hself] at hl; cases hl
        · rw [hset p.z hiz] at hl
          exact hZb _ _ (hZD hl) hb
      have hij : i ≠ j := by rintro rfl; exact hiS hj
      rw [hset j hij] at hl
      exact hX j β _ _ (hXD j hj hl (hstay j hl hor).2) hb
end

/-! The law. -/
def dstIs (ops : Array Oper) (i : Nat) (t : Tmp) : Bool := (ops[i]?).bind (·.dst) == some t
theorem dstIs_spec {ops : Array Oper} {i : Nat} {t : Tmp} (h : dstIs ops i t = true) : ∃ o, ops[i]? = some o ∧ o.dst = some t := by
  unfold dstIs at h
  have h := eq_of_beq h
  cases ho : ops[i]? with
  | none => rw [ho] at h; cases h
  | some o => rw [ho] at h; exact ⟨o, rfl, h⟩
theorem dstIs_of {ops : Array Oper} {i : Nat} {t : Tmp} {o : Oper} (h : ops[i]? = some o) (hd : o.dst = some t) : dstIs ops i t = true := by
  unfold dstIs
  rw [h]; simp [hd]
def sB (md : Region.Mode) (ops : Array Oper) (T S E : List Nat) (U : Nat → List Nat) : Bool :=
  Region.noSelect ops &&
  (T.all fun t => (List.range ops.size).any fun i => dstIs ops i t && (List.range ops.size).all fun j => !dstIs ops j t || j == i) &&
  ((List.range ops.size).all fun j => match ops[j]? with
    | none => true
    | some o => (T.all fun t => !(o.looksAt ops).contains t || needs md ops j t || (List.range ops.size).any fun i => dstIs ops i t && Region.waitsFor md ops i j) && (match o.guard with | none => true | some (g, _) => T.all fun t => !dstIs ops g t)) &&
  ((List.range ops.size).all fun i => (U i).all fun j => S.contains j && Region.waitsFor md ops i j) &&
  (E.all fun i => S.contains i && decide (i < ops.size)) &&
  lexHd md ops (fun listed => (Region.ready md ops listed).isEmpty && (List.range ops.size).all fun j => listed.getD j false) ops.size 0 (Array.replicate ops.size false)
theorem sB_ok {ops : Array Oper} {md : Region.Mode} {p : Pl} (h : sB md ops p.T p.S p.E p.U = true) : SOk md ops p := by
  simp only [sB, Bool.and_eq_true] at h
  obtain ⟨⟨⟨⟨⟨hsel, hone⟩, hrest⟩, huse⟩, hlt⟩, _⟩ := h
  have hin : ∀ (j : Nat) (o : Oper), ops[j]? = some o → j ∈ List.range ops.size := fun j o h => List.mem_range.2 (Array.getElem?_eq_some_iff.1 h).1
  refine ⟨Region.noSelect_spec hsel, fun t ht => ?_, fun j o ho t ht hl => ?_, fun j o ho t ht g want hg hn => ?_, fun i o ho j hj => ?_, fun i hi => ?_⟩
  · obtain ⟨i, hi, h2⟩ := List.any_eq_true.1 (List.all_eq_true.1 hone t ht)
    rw [Bool.and_eq_true] at h2
    obtain ⟨o, ho, hd⟩ := dstIs_spec h2.1
    refine ⟨i, o, ho, hd, fun j o' ho' hd' => ?_⟩
    have h4 := List.all_eq_true.1 h2.2 j (hin j o' ho')
    rw [dstIs_of ho' hd', Bool.not_true, Bool.false_or] at h4
    exact eq_of_beq h4
  · have h1 := List.all_eq_true.1 hrest j (hin j o ho)
    rw [ho] at h1
    simp only [Bool.and_eq_true] at h1
    have h2 := List.all_eq_true.1 h1.1 t ht
    rw [List.contains_iff_mem.2 hl, Bool.not_true, Bool.false_or, Bool.or_eq_true] at h2
    rcases h2 with h2 | h2
    · exact .inl h2
    · obtain ⟨i, hi, h3⟩ := List.any_eq_true.1 h2
      rw [Bool.and_eq_true] at h3
      obtain ⟨o', ho', hd⟩ := dstIs_spec h3.1
      exact .inr ⟨i, o', ho', hd, h3.2⟩
  · have h1 := List.all_eq_true.1 hrest j (hin j o ho)
    rw [ho] at h1
    simp only [Bool.and_eq_true] at h1
    have h2 := h1.2
    rw [hg] at h2
    have h3 := List.all_eq_true.1 h2 t ht
    unfold dstIs at h3
    rw [hn] at h3
    simp at h3
  · have h1 := List.all_eq_true.1 (List.all_eq_true.1 huse i (hin i o ho)) j hj
    rw [Bool.and_eq_true] at h1
    exact ⟨List.contains_iff_mem.1 h1.1, h1.2⟩
  · have h1 := List.all_eq_true.1 hlt i hi
    rw [Bool.and_eq_true, decide_eq_true_eq] at h1
    exact ⟨List.contains_iff_mem.1 h1.1, h1.2⟩

section
variable {P : Program}
theorem wp_region_s {id : Nat} {Q : Exit → Act → World → Prop} {a : Act} {w : World} {l : List Oper} (p : Pl) (hm : P.follows .mixedOrders = true) (hB : sB .any l.toArray p.T p.S p.E p.U = true) (hC : p.C (w.drewN 1)) (hCb : ∀ w w', p.C w → Below w.heap.size w w' → p.C w')
    (hX : ∀ i β w w', p.X i β w → Below w.heap.size w w' → p.X i β w') (hZ0 : p.Z (w.drewN 1)) (hZb : ∀ w w', p.Z w → Below w.heap.size w w' → p.Z w')
    (h : wpY (YS p P .any l.toArray) (fun a' => ∀ β w', p.C w' → (∀ i ∈ p.E, p.X i β w') → Q .normal (ovl a' β p.T) w') 0 l a) : (Code.region id l.toArray true).wp P Q a w := by
  have hok := sB_ok hB
  simp only [sB, Bool.and_eq_true] at hB
  obtain ⟨⟨⟨⟨⟨hsel, _⟩, _⟩, _⟩, _⟩, hlex⟩ := hB
  have hsz : l.toArray.size = l.length := by simp
  have inv0 : HeadInv .any l.toArray l.toArray.size (Array.replicate l.toArray.size false) :=
    ⟨by simp, fun j oj _ hl => (by rw [getD_replicate_false] at hl; cases hl), fun t h1 h2 => by omega⟩
  have hchk : ∀ listed : Array Bool, ((Region.ready .any l.toArray listed).isEmpty && (List.range l.toArray.size).all fun j => listed.getD j false) = true → Region.ready .any l.toArray listed = [] ∧ ∀ j, j < l.toArray.size → listed.getD j false = true := by
    intro listed hh
    rw [Bool.and_eq_true, List.isEmpty_iff, List.all_eq_true] at hh
    exact ⟨hh.1, fun j hj => hh.2 j (List.mem_range.2 hj)⟩
  have H := anyYL_lex (md := .any) (n := l.toArray.size) (chk := fun listed => (Region.ready .any l.toArray listed).isEmpty && (List.range l.toArray.size).all fun j => listed.getD j false) hsel (ys_looks p)
    (fun listed _ i _ _ j hj hr => by
      obtain ⟨_, o, ho, _⟩ := mem_ready.1 hr
      have := (Array.getElem?_eq_some_iff.1 ho).1
      omega) (fun listed hc j hj => by rw [(hchk listed hc).1] at hj; cases hj)
    l 0 _ a (fun j hj => by simp) (by simp) inv0 (by rw [← hsz]; exact hlex) h
  refine wp_region_any hm ?_
  rw [← hsz] at H
  exact s_run (Q := Q) hok hCb hX hZb hchk (fun β w' a' hC hx hf => hf β w' hC hx) _ _ a _ (fun _ => undef) [] H (by simp) hC (fun j oj _ hl => (by rw [getD_replicate_false] at hl; cases hl)) (fun t ht => by cases ht)
    (fun t _ => ⟨fun h => (by cases h), fun ⟨i, o, _, _, h⟩ => (by rw [getD_replicate_false] at h; cases h)⟩) (fun j _ hl => (by rw [getD_replicate_false] at hl; cases hl)) (fun _ => hZ0)
end
section
variable {P : Program} {ops : Array Oper} {w0 : World} {Fin : Act → Prop} {k : Nat} {o : Oper} {rest : List Oper} {a : Act} {p : Pl}
def freeSB (ops : Array Oper) (T S : List Nat) (k : Nat) (o : Oper) : Bool := notSelect o && !S.contains k && dstB T o && (o.looksAt ops).all fun t => !(seen .any ops T k).contains t
/-- An operation that looks at no letter and answers what is known. -/
theorem s_step (hC : ∀ w, p.C w → Cls w0 w) (hk : freeSB ops p.T p.S k o = true) (h : ∀ K : Act → Prop, (∀ a, WpV (YS p P .any ops) Fin (k + 1) rest a → K a) → if Region.wanted o (yielded ops a.tmps) = true then CalmB P o a w0 K else K (a.put o.dst undef)) :
    WpV (YS p P .any ops) Fin k (o :: rest) a := by
  obtain ⟨v, h1, h2⟩ := yb_of (h _ fun a h => h)
  simp only [freeSB, Bool.and_eq_true, Bool.not_eq_true'] at hk
  obtain ⟨⟨⟨hns, hS⟩, hd⟩, hl⟩ := hk
  have hS' : k ∉ p.S := fun hm => by rw [List.contains_iff_mem.2 hm] at hS; cases hS
  have hl : ∀ s ∈ o.looksAt ops, s ∉ seen .any ops p.T k := fun s hs hm => by
    have := List.all_eq_true.1 hl s hs
    simp only [Bool.not_eq_true'] at this
    rw [List.contains_iff_mem.2 hm] at this; cases this
  refine ⟨v, .inr ⟨hS', dstB_spec hd, ?_⟩, h2.out⟩
  rcases h1 with ⟨hw, hq⟩ | h1
  · refine .inl ⟨hw, fun β w hCw _ => ?_⟩
    have := hq w (hC w hCw)
    unfold Oper.quietAt at this ⊢
    rw [ovl_free (ops := ops) (notSelect_spec hns) hl]
    exact this
  · exact .inr h1
def CalmS (p : Pl) (P : Program) (k : Nat) (E : List Tmp) (o : Oper) (a : Act) (K : Act → Prop) : Prop :=
  ∃ v, (∀ β w, p.C w → GoodS p k β w → o.quietAt P (ovl a β E) (fun w'' => Below w.heap.size w w'') w v) ∧ K (a.put o.dst v)
theorem CalmS.of {k : Nat} {E : List Tmp} {K : Act → Prop} (h : ∃ v, (∀ β w, p.C w → GoodS p k β w → o.quietAt P (ovl a β E) (fun w'' => Below w.heap.size w w'') w v) ∧ K (a.put o.dst v)) : CalmS p P k E o a K := h
/-- An operation that looks at letters and answers what is known. -/
theorem s_stepL (E : List Tmp) (hE : seen .any ops p.T k = E) (hS : p.S.contains k = false) (hd : dstB p.T o = true) (hw : Region.wanted o (yielded ops a.tmps) = true) (h : ∀ K : Act → Prop, (∀ a, WpV (YS p P .any ops) Fin (k + 1) rest a → K a) → CalmS p P k E o a K) :
    WpV (YS p P .any ops) Fin k (o :: rest) a := by
  obtain ⟨v, h1, h2⟩ := h _ fun a h => h
  subst hE
  exact ⟨v, .inr ⟨fun hm => (by rw [List.contains_iff_mem.2 hm] at hS; cases hS), dstB_spec hd, .inl ⟨hw, h1⟩⟩, h2.out⟩
/-- An operation that brings about facts. -/
theorem s_spec (E : List Tmp) (hE : seen .any ops p.T k = E) (hS : p.S.contains k = true) (hd : (match o.dst with | none => true | some t => p.T.contains t) = true) (hw : Region.wanted o (yielded ops a.tmps) = true)
    (h : ∀ β w, p.C w → GoodS p k β w → sUpon p P .any ops k o.dst β w ((execOp (ovl a β E).eval o).run P w)) (hr : WpV (YS p P .any ops) Fin (k + 1) rest (a.put o.dst undef)) :
    WpV (YS p P .any ops) Fin k (o :: rest) a := by
  subst hE
  refine ⟨undef, .inl ⟨List.contains_iff_mem.1 hS, fun t ht => ?_, rfl, hw, h⟩, hr.out⟩
  rw [ht] at hd
  exact List.contains_iff_mem.1 hd
end
end Go.Proofs.Ytckcdpmfmfpmmaa
