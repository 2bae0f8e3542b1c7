/-
  seisinlaw02.RelRing returns true for every relation, if the library table is laid.
-/
import Derived.Test.YtgegmoedgegkcaaDoorLRingC
import Derived.Test.YtgegmoedgegkcaaDoorLThen2
namespace Go.Proofs.YtgegmoedgegkcaaDoor
open Go.RowKit

theorem hasR_iff {k : Nat} {f : Nat → BitVec 64} (hk : k ≤ 48) (hf : Cl k f) (a b : Nat) : hasR k f a b = has (f a) b := by
  unfold hasR
  rw [hf.right hk, Bool.true_and, Int.toNat_natCast, Int.toNat_natCast]
  cases h : has (f a) b with
  | false => rw [Bool.and_false]
  | true =>
    have := hf a b h
    rw [decide_eq_true (p := (0 : Int) ≤ (a : Int)) (by omega), decide_eq_true (p := (0 : Int) ≤ (b : Int)) (by omega), decide_eq_true (p := (a : Int) < (k : Int)) (by omega), decide_eq_true (p := (b : Int) < (k : Int)) (by omega)]; rfl
theorem nodup_take {l : List Nat} (h : l.Nodup) {i : Nat} (hi : i < l.length) : l[i] ∉ l.take i := by
  intro hm
  obtain ⟨j, hj, e⟩ := List.mem_iff_getElem.1 hm
  rw [List.length_take] at hj
  rw [List.getElem_take] at e
  rw [List.nodup_iff_pairwise_ne, List.pairwise_iff_getElem] at h
  exact h j i (by omega) hi (by omega) e
theorem cc_Irr {k : Nat} {f : Nat → BitVec 64} {v : Bool} (h : irrR k f = v) : CIrr k f v := fun w hT => h ▸ c_Irr k f w hT
theorem cc_Acy {k : Nat} {f : Nat → BitVec 64} {v : Bool} (h : (topR k f).isSome = v) : CAcy k f v := fun w hT => h ▸ c_Acyclic k f w hT
theorem cc_Ring {k m : Nat} {f : Nat → BitVec 64} {l : List Nat} (h : ringL k f = l) (hm : l.length = m) : CLs 53 k f l m := fun w hT => by
  subst h hm
  refine (c_Ring k f w hT).mono fun e w' ⟨v, he, ho, hb⟩ => ?_
  obtain ⟨ad, cap, rfl, hs⟩ := SlAt.of_owns ho
  exact ⟨ad, cap, he, hs, hb⟩
theorem cc_Top {k m : Nat} {f : Nat → BitVec 64} {l : List Nat} {v : Bool} (h : (topR k f).getD [] = l) (hm : l.length = m) (hv : (topR k f).isSome = v) : CTop k f l m v := fun w hT => by
  subst h hm hv
  refine (c_Top k f w hT).mono fun e w' ⟨v, he, ho, hb⟩ => ?_
  obtain ⟨ad, cap, rfl, hs⟩ := SlAt.of_owns ho
  exact ⟨ad, cap, he, hs, hb⟩
theorem cc_Prs {k m : Nat} {f : Nat → BitVec 64} (hm : (prsR k f).length = m) : CPrs k f (prsR k f) m := fun w hT => c_Pairs2 k f m hm w hT
theorem cc_Has (k : Nat) (f : Nat → BitVec 64) : CHas k f := fun a b w _ => c_Has k f a b w
theorem w_RelRing (n : Int) (f : Nat → BitVec 64) (w : World) (hT : Tab w) :
    Calls Tryd.prog 12 #[.agg (rcs n f)] w fun e w' => e = .returned (.bool true) ∧ Below w.heap.size w w' := by
  obtain ⟨k, hk, hk20, hkk⟩ := fine_k n 20
  have h48 : k ≤ 48 := by omega
  have hA := cl_fine k (by omega) f
  have hP := cl_plus h48 hA
  cases hr : irrR k (plusF k (fineF k f)) with
  | true =>
    obtain ⟨tl, htl⟩ := Option.isSome_iff_exists.1 ((top_iff h48 hA).trans hr)
    have ho := top_some h48 hA htl
    refine ring_walkA n f k (fineF k f) _ tl (prsR k (fineF k f)) _ hk20 ho.len (fun x hx => (ho.mem x).1 hx) (fun i h => nodup_take ho.dis h) rfl (prsR_le _ _) (fun p hp => ?_) (fun i hi p hp he => ?_)
      (cc_Fine n f 20 k (by omega) hk) (cc_Ring ((ring_iff h48 hA).2 hr) rfl) (cc_Plus h48 hA) (cc_Irr hr) (cc_Acy ((top_iff h48 hA).trans hr)) (cc_Top (by rw [htl]; rfl) ho.len ((top_iff h48 hA).trans hr)) (cc_Prs rfl) w hT
    · have := mem_prsR hp; omega
    · refine ho.pre i hi p.1 ?_
      rw [← he]
      exact (mem_prsH h48 hA p.1 p.2).1 hp
  | false =>
    have hne : ringL k (fineF k f) ≠ [] := fun h => by rw [(ring_iff h48 hA).1 h] at hr; cases hr
    rcases ring_spec h48 hA with ⟨h, _⟩ | ⟨_, hc, hmin⟩
    · exact absurd h hne
    have hp := hc.pos
    have hlt : ∀ i (h : i < (ringL k (fineF k f)).length), (ringL k (fineF k f))[i] < k := fun i h => (hA _ _ (hc.step i h)).1
    have ht : topR k (fineF k f) = none := by
      have := (top_iff h48 hA).trans hr
      cases h : topR k (fineF k f) with
      | none => rfl
      | some x => rw [h] at this; cases this
    have hlen66 : (ringL k (fineF k f)).length ≤ 66 := by
      unfold ringL
      split
      · exact rgUp_len _ _ _
      · simp
    refine ring_walkC n f k (fineF k f) _ (pw k (fineF k f)) (ringL k (fineF k f)) _ hk20 rfl hp hlen66 (fun x hx => ?_) (fun i h => nodup_take hc.dis h) (fun i h => ?_) (fun i h x hx => ?_) rfl
      (cc_Fine n f 20 k (by omega) hk) (cc_Ring rfl rfl) (cc_Plus h48 hA) (cc_Irr hr) (cc_Acy (by rw [ht]; rfl)) (cc_Top (by rw [ht]; rfl) rfl (by rw [ht]; rfl)) (cc_Has k _) (fun i hi => cc_Irr ?_) (fun i => cc_Then h48 (cl_pw hA i) hA) (cc_Irr ?_) w hT
    · obtain ⟨i, hi, rfl⟩ := List.mem_iff_getElem.1 hx
      exact hlt i hi
    · refine ⟨_, List.getElem?_eq_getElem (Nat.mod_lt _ (by omega)), ?_⟩
      rw [hasR_iff h48 hA]
      exact hc.step i h
    · have := hc.low i h
      rw [List.getElem?_eq_getElem hp, Option.some.injEq] at hx
      omega
    · rw [irr_iff h48 (cl_pw hA i)]
      intro x
      cases hx : has (pw k (fineF k f) i x) x with
      | false => rfl
      | true =>
        have := hmin i x ((has_pw hA i x x).1 hx)
        omega
    · rw [Bool.eq_false_iff]
      intro h
      rw [irr_iff h48 (cl_pw hA _)] at h
      have hw := hc.wk
      have h4 : ∀ n a, n = (ringL k (fineF k f)).length - 1 + 1 → Wk (fineF k f) n a a → Wk (fineF k f) ((ringL k (fineF k f)).length - 1 + 1) a a := fun n a e h => e ▸ h
      have := (has_pw hA ((ringL k (fineF k f)).length - 1) _ _).2 (h4 _ _ (by omega) hw)
      rw [h] at this; cases this
end Go.Proofs.YtgegmoedgegkcaaDoor
