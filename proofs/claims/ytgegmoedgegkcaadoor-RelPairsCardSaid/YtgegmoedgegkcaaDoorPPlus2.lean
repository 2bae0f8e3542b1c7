/-
  Plain: the transitive closure is the least transitive relation above; inclusion; cross products.
-/
import Derived.Test.YtgegmoedgegkcaaDoorCC
namespace Go.Proofs.YtgegmoedgegkcaaDoor
open Go.RowKit

/-- Each pair of f is g's. -/
def Sub (f g : Nat → BitVec 64) : Prop := ∀ a b, has (f a) b = true → has (g a) b = true
def Trans (f : Nat → BitVec 64) : Prop := ∀ a b c, has (f a) b = true → has (f b) c = true → has (f a) c = true
theorem Sub.antisymm {f g : Nat → BitVec 64} (h : Sub f g) (k : Sub g f) : f = g := rel_ext fun a b => ⟨h a b, k a b⟩
theorem Sub.trans {f g h : Nat → BitVec 64} (a : Sub f g) (b : Sub g h) : Sub f h := fun x y hx => b x y (a x y hx)
variable {k : Nat} {f g h : Nat → BitVec 64}
theorem has_pstep (f : Nat → BitVec 64) (a b : Nat) : has (pstep k f a) b = true ↔ a < k ∧ (has (f a) b = true ∨ ∃ c, has (f a) c = true ∧ has (f c) b = true) := by
  unfold pstep
  rw [has_below48, has_or, Bool.or_eq_true, has_stp]
theorem pit_sub (hf : Cl k f) (j : Nat) : Sub f (pit k f j) := by
  induction j with
  | zero => intro a b h; exact (has_below48 f k a b).2 ⟨(hf a b h).1, h⟩
  | succ j ih => intro a b h; exact pit_mono k f j a b (ih a b h)
theorem plus_ge (hf : Cl k f) : Sub f (plusF k f) := pit_sub hf _
theorem plus_trans (hk : k ≤ 48) : Trans (plusF k f) := by
  intro a b c h1 h2
  have hfix : pstep k (plusF k f) = plusF k f := pJ_end k hk f
  have ha : a < k := by
    rw [← hfix] at h1
    exact ((has_pstep _ a b).1 h1).1
  rw [← hfix]
  exact (has_pstep _ a c).2 ⟨ha, .inr ⟨b, h1, h2⟩⟩
theorem pit_le (hs : Sub f g) (ht : Trans g) (j : Nat) : Sub (pit k f j) g := by
  induction j with
  | zero => intro a b h; exact hs a b ((has_below48 f k a b).1 h).2
  | succ j ih =>
    intro a b h
    rcases ((has_pstep _ a b).1 h).2 with h | ⟨c, h1, h2⟩
    · exact ih a b h
    · exact ht a c b (ih a c h1) (ih c b h2)
theorem plus_le (hs : Sub f g) (ht : Trans g) : Sub (plusF k f) g := pit_le hs ht _
theorem cl_plus (hk : k ≤ 48) (hf : Cl k f) : Cl k (plusF k f) := by
  have h1 : Sub (plusF k f) (below48 (fun _ => mall k) k) := plus_le (fun a b h => by
    have := hf a b h
    rw [has_below48, has_mall]
    simp only [Bool.and_eq_true, decide_eq_true_eq]; omega) (fun a b c h1 h2 => by
    rw [has_below48] at h1 h2 ⊢
    exact ⟨h1.1, h2.2⟩)
  intro a b h
  have h2 := h1 a b h
  rw [has_below48, has_mall] at h2
  simp only [Bool.and_eq_true, decide_eq_true_eq] at h2
  omega
theorem plus_plus (hk : k ≤ 48) (hf : Cl k f) : plusF k (plusF k f) = plusF k f :=
  (plus_le (fun _ _ h => h) (plus_trans hk)).antisymm (plus_ge (cl_plus hk hf))
theorem plus_mono (hk : k ≤ 48) (hs : Sub f g) (hg : Cl k g) : Sub (plusF k f) (plusF k g) := plus_le (hs.trans (plus_ge hg)) (plus_trans hk)
theorem then_sub (hf : Cl k f) (ht : Trans f) : Sub (tH k f f) f := fun a b h => by
  obtain ⟨c, h1, h2⟩ := (has_tH hf a b).1 h
  exact ht a c b h1 h2

/-! Inclusion as Go asks it. -/
abbrev CIn (k : Nat) (f g : Nat → BitVec 64) : Prop := ∀ w, Tab w → Calls Tryd.prog 66 #[.agg (rcs k f), .agg (rcs k g)] w fun e w' => e = .returned (.bool true) ∧ Below w.heap.size w w'
theorem prs_none (hk : k ≤ 48) (hf : Cl k f) (h : ∀ a b, has (f a) b = false) : prsR k f = [] := by
  apply List.eq_nil_iff_forall_not_mem.2
  rintro ⟨a, b⟩ hm
  rw [mem_prsH hk hf, h] at hm; cases hm
theorem cc_In (hk : k ≤ 48) (hf : Cl k f) (hg : Cl k g) (hs : Sub f g) : CIn k f g := fun w hT => by
  have := c_In k k f g w hT
  have hv : inR k k f g = true := by
    unfold inR twoOk emptyR
    rw [hf.right hk, hg.right hk, beq_self_eq_true, Int.toNat_natCast]
    have hc : Cl k (below48 (fun a => f a &&& ~~~ g a) k) := cl_leH (g := g) hf
    rw [hc.right hk, prs_none hk hc fun a b => by
      cases hb : has (below48 (fun a => f a &&& ~~~ g a) k a) b with
      | false => rfl
      | true =>
        have h1 := (has_leH (g := g) hf a b).1 hb
        rw [hs a b h1.1] at h1
        exact absurd h1.2 (by simp)]
    rfl
  rw [hv] at this; exact this
theorem cc_Plus (hk : k ≤ 48) (hf : Cl k f) : C1 46 k f (plusF k f) := fun w hT => by
  have := c_Plus k f w hT
  unfold plusV at this
  rw [hf.right hk, if_pos rfl, Int.toNat_natCast] at this
  exact this

end Go.Proofs.YtgegmoedgegkcaaDoor
