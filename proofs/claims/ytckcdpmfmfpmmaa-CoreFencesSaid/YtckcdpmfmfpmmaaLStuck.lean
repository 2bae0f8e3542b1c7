/-
  seisinlaw30.CoreStuck returns true for every list of instructions, rules and core.
-/
import Derived.Test.YtckcdpmfmfpmmaaSame
namespace Go.Proofs.Ytckcdpmfmfpmmaa
open Go.RowKit

/-! What the status says. -/
def oddV (c : Cr) (l : List In) : Bool := decide (c.pc.toNat < l.length) && (decide ((xOf c l).op < 1) || decide (8 < (xOf c l).op))
theorem next_range (c : Cr) (l : List In) (bl : List (Nat × Nat)) (most : Int) : nextV c l bl most = 1 ∨ nextV c l bl most = 2 ∨ nextV c l bl most = 3 ∨ nextV c l bl most = 4 := by
  unfold nextV nxtV askV
  repeat' split
  all_goals simp
theorem next1 {c : Cr} {l : List In} {bl : List (Nat × Nat)} {most : Int} (h : nextV c l bl most = 1) : ¬ c.pc.toNat < l.length := by
  intro hp
  unfold nextV nxtV at h
  rw [show (mkW c (.slice none 0 0) (.slice none 0 0) l).is = true from decide_eq_true hp] at h
  unfold askV at h
  simp only [Bool.not_true, Bool.false_eq_true, if_false] at h
  repeat' split at h
  all_goals omega
theorem next2is {c : Cr} {l : List In} {bl : List (Nat × Nat)} {most : Int} (h : nextV c l bl most = 2) : c.pc.toNat < l.length := by
  apply Classical.byContradiction
  intro hp
  unfold nextV nxtV at h
  rw [show (mkW c (.slice none 0 0) (.slice none 0 0) l).is = false from decide_eq_false hp] at h
  simp only [Bool.not_false, if_true] at h
  repeat' split at h
  all_goals omega
theorem next4 {c : Cr} {l : List In} {most : Int} (h : nextV c l [] most = 4) (h1 : c.wt = false) (h2 : c.dr = false) : oddV c l = true := by
  have hx : (mkW c (.slice none 0 0) (.slice none 0 0) l).x = xOf c l := rfl
  have hw : (mkW c (.slice none 0 0) (.slice none 0 0) l).c.wt = c.wt := rfl
  have hd : (mkW c (.slice none 0 0) (.slice none 0 0) l).c.dr = c.dr := rfl
  unfold nextV nxtV at h
  rw [hx, hw, hd, h1, h2] at h
  by_cases hp : c.pc.toNat < l.length
  · rw [show (mkW c (.slice none 0 0) (.slice none 0 0) l).is = true from decide_eq_true hp] at h
    unfold oddV
    rw [decide_eq_true hp, Bool.true_and, Bool.or_eq_true, decide_eq_true_eq, decide_eq_true_eq]
    apply Classical.byContradiction
    intro hn
    have hr : 1 ≤ (xOf c l).op ∧ (xOf c l).op ≤ 8 := by omega
    have : (xOf c l).op = 1 ∨ (xOf c l).op = 2 ∨ (xOf c l).op = 3 ∨ (xOf c l).op = 4 ∨ (xOf c l).op = 5 ∨ (xOf c l).op = 6 ∨ (xOf c l).op = 7 ∨ (xOf c l).op = 8 := by omega
    unfold askV at h
    rcases this with e | e | e | e | e | e | e | e <;> rw [e] at h <;> simp at h
    · simp [yng] at h
    · split at h <;> omega
  · rw [show (mkW c (.slice none 0 0) (.slice none 0 0) l).is = false from decide_eq_false hp] at h
    simp at h

/-! What Local changes. -/
def cntR (r s : Nat → Int) : Nat → Nat
  | 0 => 0
  | j + 1 => cntR r s j + if r j = s j then 0 else 1
theorem cntR_one {r s : Nat → Int} {d : Nat} (h : ∀ i, i ≠ d → r i = s i) : ∀ j, cntR r s j ≤ if d < j then 1 else 0
  | 0 => by simp [cntR]
  | j + 1 => by
    have ih := cntR_one h j
    unfold cntR
    by_cases hj : j = d
    · subst hj
      rw [if_neg (Nat.lt_irrefl j)] at ih
      rw [if_pos (Nat.lt_succ_self j)]
      split <;> omega
    · rw [if_pos (h j hj)]
      split at ih <;> split <;> omega
theorem loc_cnt (c : Cr) (l : List In) (bl : List (Nat × Nat)) : cntR c.r (locR c l bl) 8 ≤ 1 := by
  have key : ∀ x v, cntR c.r (rsetC c x v) 8 ≤ 1 := by
    intro x v
    unfold rsetC
    split
    · have := cntR_one (r := c.r) (s := updR c.r x.dst.toNat v) (d := x.dst.toNat) (fun i hi => by unfold updR; rw [if_neg hi]) 8
      split at this <;> omega
    · have := cntR_one (r := c.r) (s := c.r) (d := 9) (fun i _ => rfl) 8
      simp at this; omega
  have hz : cntR c.r c.r 8 ≤ 1 := by
    have := cntR_one (r := c.r) (s := c.r) (d := 9) (fun i _ => rfl) 8
    simp at this; omega
  unfold locR
  repeat' split
  · exact key _ _
  · exact key _ _
  · exact hz
theorem loc_pre (c : Cr) (l : List In) (bl : List (Nat × Nat)) : ∃ t, locBl c l bl = bl ++ t ∧ t.length ≤ 1 := by
  unfold locBl
  split
  · exact ⟨_, rfl, by simp⟩
  · exact ⟨[], by simp, by simp⟩
theorem loc_pc {c : Cr} {l : List In} (h0 : 0 ≤ c.pc) (h1 : c.pc ≤ 255) (hs : 0 ≤ (xOf c l).skip) (hp : c.pc.toNat < l.length) : c.pc < mn3 l.length (c.pc + locM c l) ∨ c.pc = 255 := by
  have hm : 1 ≤ locM c l := by
    unfold locM
    split
    · split <;> omega
    · omega
  rw [mn3_eq]
  omega
end Go.Proofs.Ytckcdpmfmfpmmaa
