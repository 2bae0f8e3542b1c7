/-
  The contracts of rel's operations at right relations, in the words of the plain facts.
-/
import Derived.Test.YtgegmoedgegkcaaDoorPRel
namespace Go.Proofs.YtgegmoedgegkcaaDoor
open Go.RowKit

/-- Function F of two relations answers a relation and no error. -/
abbrev C2 (F : FuncId) (k : Nat) (f g h : Nat → BitVec 64) : Prop := ∀ w, Tab w → Calls Tryd.prog F #[.agg (rcs k f), .agg (rcs k g)] w fun e w' => e = .returned (.tuple #[.agg (rcs k h), .int .i64 0]) ∧ Below w.heap.size w w'
/-- Function F of one relation answers a relation. -/
abbrev C1 (F : FuncId) (k : Nat) (f h : Nat → BitVec 64) : Prop := ∀ w, Tab w → Calls Tryd.prog F #[.agg (rcs k f)] w fun e w' => e = .returned (.agg (rcs k h)) ∧ Below w.heap.size w w'
abbrev CFine (n : Int) (f : Nat → BitVec 64) (m : Int) (k : Nat) (h : Nat → BitVec 64) : Prop := ∀ w, Calls Tryd.prog 43 #[.agg (rcs n f), .int .i64 m] w fun e w' => e = .returned (.agg (rcs k h)) ∧ Below w.heap.size w w'
section
variable {k : Nat} {f g : Nat → BitVec 64}
theorem twoV_cl (hk : k ≤ 48) (hf : Cl k f) (hg : Cl k g) (h : Nat → BitVec 64) : twoV k k f g h = .tuple #[.agg (rcs k (below48 h k)), .int .i64 0] := by
  unfold twoV twoOk
  rw [hf.right hk, hg.right hk]; simp
theorem cc_Union (hk : k ≤ 48) (hf : Cl k f) (hg : Cl k g) : C2 67 k f g (unH k f g) := fun w _ => by
  have := c_Union k k f g w
  rw [twoV_cl hk hf hg] at this; exact this
theorem cc_Both (hk : k ≤ 48) (hf : Cl k f) (hg : Cl k g) : C2 52 k f g (boH k f g) := fun w _ => by
  have := c_Both k k f g w
  rw [twoV_cl hk hf hg] at this; exact this
theorem cc_Less (hk : k ≤ 48) (hf : Cl k f) (hg : Cl k g) : C2 71 k f g (leH k f g) := fun w _ => by
  have := c_Less k k f g w
  rw [twoV_cl hk hf hg] at this; exact this
theorem cc_Then (hk : k ≤ 48) (hf : Cl k f) (hg : Cl k g) : C2 58 k f g (tH k f g) := fun w hT => by
  have := c_Then k k f g w hT
  rw [twoV_cl hk hf hg] at this; exact this
theorem cc_Back (hk : k ≤ 48) (hf : Cl k f) : C1 68 k f (bH k f) := fun w hT => by
  have := c_Back k f w hT
  rw [show backN k f = k by unfold backN; rw [hf.right hk]; rfl] at this; exact this
theorem cc_Fine (n : Int) (f : Nat → BitVec 64) (m k : Nat) (hm : m ≤ 48) (hk : n % ((m : Int) + 1) = k) : CFine n f m k (fineF k f) := fun w => by
  have := c_Fine n f m hm w
  rw [hk, Int.toNat_natCast] at this; exact this
theorem cc_Id (hk : k ≤ 48) (s : BitVec 64) (w : World) : Calls Tryd.prog 69 #[.int .i64 k, .int .u64 (iv s)] w fun e w' => e = .returned (.agg (rcs k (idH k s))) ∧ Below w.heap.size w w' := by
  have := c_Id k s w
  unfold ofN at this
  rw [if_pos (by omega), Int.toNat_natCast] at this; exact this
end
/-- Many ways that end alike. -/
theorem wp_share {R G : Prop} (h1 : Hid R → G) (h2 : R) : G := h1 (Lib.hid h2)
theorem Sk.fresh {w0 w w' : World} {L : List RlE} {K : List (Nat × Obj)} {b : Nat} {n : Int} {f : Nat → BitVec 64} (h : Sk w0 w L K) (hb : Below w.heap.size w w') (hr : RelAt w' b n f) (hge : w.heap.size ≤ b) : Sk w0 w' (⟨b, n, f⟩ :: L) K := by
  have h1 := h.over hb
  refine ⟨⟨h1.st.bel, ?_, ?_, ?_⟩, h1.keep, ?_⟩
  · intro e he
    rcases List.mem_cons.1 he with rfl | he
    · exact Nat.le_trans h.st.bel.size hge
    · exact h1.st.old e he
  · intro e he
    rcases List.mem_cons.1 he with rfl | he
    · exact hr
    · exact h1.st.rel e he
  · exact List.pairwise_cons.2 ⟨fun e he => Nat.ne_of_lt (Nat.lt_of_lt_of_le (h.st.rel e he).lt hge), h1.st.dis⟩
  · intro p hp e he
    rcases List.mem_cons.1 he with rfl | he
    · exact (Nat.ne_of_lt (Nat.lt_of_lt_of_le (Array.getElem?_eq_some_iff.1 (h.keep p hp)).1 hge)).symm
    · exact h1.apart p hp e he
end Go.Proofs.YtgegmoedgegkcaaDoor
