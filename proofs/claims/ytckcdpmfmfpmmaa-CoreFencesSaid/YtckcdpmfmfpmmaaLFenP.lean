/-
  What a step of a core that is connected to a memory leaves true.
-/
import Derived.Test.YtckcdpmfmfpmmaaLoop
namespace Go.Proofs.Ytckcdpmfmfpmmaa
open Go.RowKit

theorem yng_mem {bl : List (Nat × Nat)} {loc v : Nat} (h : yng bl loc = some v) : ∃ p ∈ bl, p.1 = loc ∧ p.2 = v := by
  unfold yng at h
  have key : ∀ (bl : List (Nat × Nat)) (o : Option Nat), bl.foldl (fun o p => if p.1 == loc then some p.2 else o) o = some v → o = some v ∨ ∃ p ∈ bl, p.1 = loc ∧ p.2 = v := by
    intro bl
    induction bl with
    | nil => intro o h; exact .inl h
    | cons p bl ih =>
      intro o h
      rw [List.foldl_cons] at h
      rcases ih _ h with h | ⟨q, hq, h⟩
      · split at h
        · rename_i hp
          exact .inr ⟨p, List.mem_cons_self, eq_of_beq hp, by simpa using h⟩
        · exact .inl h
      · exact .inr ⟨q, List.mem_cons_of_mem _ hq, h⟩
  rcases key bl none h with h | h
  · cases h
  · exact h
theorem rset_ok {c : Cr} (x : In) {v : Int} (h : RgOk c) (hv : 0 ≤ v ∧ v ≤ 255) : (∀ i, 0 ≤ rsetC c x v i) ∧ ∀ i, rsetC c x v i ≤ 255 := by
  unfold rsetC
  split
  · unfold updR
    refine ⟨fun i => ?_, fun i => ?_⟩ <;> split
    · exact hv.1
    · exact h.r0 i
    · exact hv.2
    · exact h.r1 i
  · exact ⟨h.r0, h.r1⟩
theorem new_ok {old : Int} {q : Rq} (h : 0 ≤ old ∧ old ≤ 255) (hq : QOk q) : 0 ≤ newM old q ∧ newM old q ≤ 255 := by
  have := hq.a
  have := hq.b
  unfold newM
  repeat' split
  all_goals omega
theorem mem_ok {M : Nat → Int} {q : Rq} (h : MOk M) (hq : QOk q) : MOk (memQ M q) := by
  have hn := new_ok ⟨h.m0 (locI q), h.m1 (locI q)⟩ hq
  unfold memQ updR
  refine ⟨fun i => ?_, fun i => ?_⟩ <;> split
  · exact hn.1
  · exact h.m0 i
  · exact hn.2
  · exact h.m1 i
theorem cal_ok (fn : Int) (a b : Int) : 0 ≤ cal fn a b ∧ cal fn a b ≤ 255 := by
  unfold cal
  have := xor_bd a b
  repeat' split
  all_goals omega
theorem loc_ok {c : Cr} {l : List In} {bl : List (Nat × Nat)} (h : RgOk c) (hb : BlOk bl) : (∀ i, 0 ≤ locR c l bl i) ∧ ∀ i, locR c l bl i ≤ 255 := by
  unfold locR
  split
  · refine rset_ok _ h ?_
    cases hy : yng bl (xOf c l).loc.toNat with
    | none => simp
    | some v =>
      obtain ⟨p, hp, _, rfl⟩ := yng_mem hy
      have := (hb p hp).2
      simp only [Option.getD_some]
      omega
  · split
    · exact rset_ok _ h (cal_ok _ _ _)
    · exact ⟨h.r0, h.r1⟩
/-- What stays true of a core, its buffer and the memory. -/
structure COk (c : Cr) (bl : List (Nat × Nat)) (M : Nat → Int) : Prop where
  pc0 : 0 ≤ c.pc
  pc1 : c.pc ≤ 255
  r : RgOk c
  m : MOk M
  b : BlOk bl
  wt : c.wt = false
  dr : c.dr = false
theorem mn3_ok (n : Nat) {q : Int} (h : 0 ≤ q) : 0 ≤ mn3 n q ∧ mn3 n q ≤ 255 := by rw [mn3_eq]; omega
theorem locM_ok {c : Cr} {l : List In} (h : XOk (xOf c l)) : 1 ≤ locM c l := by
  have := h.skip
  unfold locM
  split
  · split <;> omega
  · omega
theorem bck_dr {c : Cr} {l : List In} {old : Int} (h : c.dr = false) : bckC { c with dr := true } l old = c := by
  unfold bckC
  rw [if_pos rfl]
  show ({ c with dr := false } : Cr) = c
  rw [← h]
theorem bck_wt {c : Cr} {l : List In} {old : Int} (h : c.dr = false) : bckC { c with wt := true } l old = { c with wt := false, pc := mn3 l.length (c.pc + 1), r := if c.pc.toNat < l.length ∧ (xOf c l).op ≠ 2 then rsetC c (xOf c l) old else c.r } := by
  unfold bckC
  rw [if_neg (by show ¬ c.dr = true; rw [h]; simp), if_pos rfl]
  rfl
theorem step_ok {l : List In} {most : Int} {d : Bool} {c c' : Cr} {bl bl' : List (Nat × Nat)} {M M' : Nat → Int} {did : Bool} (h : COk c bl M) (hx : ∀ x ∈ l, XOk x) (hst : stepR l most d c bl M = (c', bl', M', did)) :
    COk c' bl' M' ∧ bl'.length ≤ bl.length + 1 := by
  have hX := xOf_ok (c := c) hx
  unfold stepR stepA at hst
  by_cases h1 : aDrn c bl l most d = true
  · rw [if_pos h1] at hst
    simp only [Prod.mk.injEq] at hst
    obtain ⟨rfl, rfl, rfl, rfl⟩ := hst
    rw [bck_dr h.dr]
    have hb : bckBl { c with dr := true } bl = bl.drop 1 := by unfold bckBl; rw [if_pos rfl]
    rw [hb]
    exact ⟨⟨h.pc0, h.pc1, h.r, mem_ok h.m (drnQ_ok h.b), fun p hp => h.b p (List.mem_of_mem_drop hp), h.wt, h.dr⟩, by rw [List.length_drop]; omega⟩
  rw [if_neg h1] at hst
  by_cases h2 : nextV c l bl most = 2
  · rw [if_pos h2] at hst
    simp only [Prod.mk.injEq] at hst
    obtain ⟨rfl, rfl, rfl, rfl⟩ := hst
    unfold locC locB
    rw [if_pos h2, if_pos h2]
    have hl := loc_ok (l := l) h.r h.b
    have hm := locM_ok (c := c) (l := l) hX
    have hpc := mn3_ok l.length (q := c.pc + locM c l) (by have := h.pc0; omega)
    have ha := argV_ok (c := c) (reg := (xOf c l).ar) h.r hX.an
    have ha : 0 ≤ aOf c l ∧ aOf c l ≤ 255 := ha
    refine ⟨⟨hpc.1, hpc.2, ⟨hl.1, hl.2⟩, h.m, ?_, h.wt, h.dr⟩, ?_⟩
    · unfold locBl
      split
      · intro p hp
        rcases List.mem_append.1 hp with hp | hp
        · exact h.b p hp
        · simp only [List.mem_singleton] at hp
          subst hp
          have := hX.loc
          simp only
          omega
      · exact h.b
    · unfold locBl
      split
      · rw [List.length_append]; simp
      · omega
  rw [if_neg h2] at hst
  by_cases h3 : nextV c l bl most = 3
  · rw [if_pos h3] at hst
    simp only [Prod.mk.injEq] at hst
    obtain ⟨rfl, rfl, rfl, rfl⟩ := hst
    rw [bck_wt h.dr]
    have hb : bckBl { c with wt := true } bl = bl := by unfold bckBl; rw [if_neg (by show ¬ c.dr = true; rw [h.dr]; simp)]
    rw [hb]
    have hpc := mn3_ok l.length (q := c.pc + 1) (by have := h.pc0; omega)
    have hr := rset_ok (xOf c l) h.r (v := M (locI (askQ c l))) ⟨h.m.m0 _, h.m.m1 _⟩
    refine ⟨⟨hpc.1, hpc.2, ⟨fun i => ?_, fun i => ?_⟩, mem_ok h.m (askQ_ok hx h.r), h.b, rfl, h.dr⟩, by omega⟩
    · simp only; split
      · exact hr.1 i
      · exact h.r.r0 i
    · simp only; split
      · exact hr.2 i
      · exact h.r.r1 i
  rw [if_neg h3] at hst
  simp only [Prod.mk.injEq] at hst
  obtain ⟨rfl, rfl, rfl, rfl⟩ := hst
  exact ⟨h, by omega⟩

theorem next_eq {c : Cr} {l : List In} {bl : List (Nat × Nat)} {most : Int} (h : c.wt = false) (hd : c.dr = false) : nextV c l bl most =
    if ¬ c.pc.toNat < l.length then (if bl.length = 0 then 1 else 4)
    else if (xOf c l).op = 3 ∨ (xOf c l).op = 8 then 2
    else if (xOf c l).op = 7 then (if bl.length = 0 ∨ (xOf c l).mode ≠ 3 then 2 else 4)
    else if (xOf c l).op = 2 then (if 0 < most then (if (bl.length : Int) < most then 2 else 4) else 3)
    else if (xOf c l).op = 1 then (if (yng bl (xOf c l).loc.toNat).isSome then 2 else 3)
    else if (xOf c l).op = 4 ∨ (xOf c l).op = 5 ∨ (xOf c l).op = 6 then (if bl.length = 0 then 3 else 4)
    else 4 := by
  have hx : (mkW c (.slice none 0 0) (.slice none 0 0) l).x = xOf c l := rfl
  have hw : (mkW c (.slice none 0 0) (.slice none 0 0) l).c.wt = c.wt := rfl
  have hd' : (mkW c (.slice none 0 0) (.slice none 0 0) l).c.dr = c.dr := rfl
  have hi : (mkW c (.slice none 0 0) (.slice none 0 0) l).is = decide (c.pc.toNat < l.length) := rfl
  unfold nextV nxtV askV
  rw [hx, hw, hd', hi, h, hd]
  by_cases hp : c.pc.toNat < l.length
  · simp [hp]
  · simp [hp]
section
variable {l : List In} {most : Int} {d : Bool} {c c' : Cr} {bl bl' : List (Nat × Nat)} {M M' : Nat → Int} {did : Bool}
theorem xOf_zero (h : ¬ c.pc.toNat < l.length) : xOf c l = In.zero := by
  unfold xOf
  rw [List.getElem?_eq_none (by omega)]; rfl
theorem fence_free (h : COk c bl M) (h7 : (xOf c l).op = 7) (hm : (xOf c l).mode ≠ 3) : nextV c l bl most = 2 := by
  have hp : c.pc.toNat < l.length := Classical.byContradiction fun hp => by rw [xOf_zero hp] at h7; cases h7
  rw [next_eq h.wt h.dr, if_neg (by simpa using hp), if_neg (by omega), if_pos h7, if_pos (.inr hm)]
theorem fence_pass (h : COk c bl M) (hst : stepR l most d c bl M = (c', bl', M', did)) (hp : c'.pc ≠ c.pc) (hf : ((xOf c l).op = 7 ∧ (xOf c l).mode = 3) ∨ (4 ≤ (xOf c l).op ∧ (xOf c l).op ≤ 6)) : bl' = [] := by
  have hn := next_eq (l := l) (bl := bl) (most := most) h.wt h.dr
  unfold stepR stepA at hst
  by_cases h1 : aDrn c bl l most d = true
  · rw [if_pos h1, bck_dr h.dr] at hst
    simp only [Prod.mk.injEq] at hst
    obtain ⟨rfl, _⟩ := hst
    exact absurd rfl hp
  rw [if_neg h1] at hst
  have hpl : c.pc.toNat < l.length := Classical.byContradiction fun hp => by
    rw [xOf_zero hp] at hf
    rcases hf with ⟨h, _⟩ | ⟨h, _⟩
    · cases h
    · exact absurd h (by decide)
  rw [if_neg (by simpa using hpl)] at hn
  by_cases h2 : nextV c l bl most = 2
  · rw [if_pos h2] at hst
    simp only [Prod.mk.injEq] at hst
    obtain ⟨_, rfl, _⟩ := hst
    unfold locB locBl
    rw [if_pos h2, if_neg (by omega)]
    rw [h2] at hn
    rcases hf with ⟨e7, e3⟩ | ⟨e4, e6⟩
    · rw [if_neg (by omega), if_pos e7] at hn
      by_cases hb : bl.length = 0
      · exact List.eq_nil_of_length_eq_zero hb
      · rw [if_neg (by omega)] at hn; omega
    · rw [if_neg (by omega), if_neg (by omega), if_neg (by omega), if_neg (by omega), if_pos (by omega)] at hn
      split at hn <;> omega
  rw [if_neg h2] at hst
  by_cases h3 : nextV c l bl most = 3
  · rw [if_pos h3] at hst
    simp only [Prod.mk.injEq] at hst
    obtain ⟨_, rfl, _⟩ := hst
    have hb : bckBl { c with wt := true } bl = bl := by unfold bckBl; rw [if_neg (by show ¬ c.dr = true; rw [h.dr]; simp)]
    rw [hb]
    rw [h3] at hn
    rcases hf with ⟨e7, e3⟩ | ⟨e4, e6⟩
    · rw [if_neg (by omega), if_pos e7] at hn
      split at hn <;> omega
    · rw [if_neg (by omega), if_neg (by omega), if_neg (by omega), if_neg (by omega), if_pos (by omega)] at hn
      by_cases hb : bl.length = 0
      · exact List.eq_nil_of_length_eq_zero hb
      · rw [if_neg hb] at hn; omega
  rw [if_neg h3] at hst
  simp only [Prod.mk.injEq] at hst
  obtain ⟨rfl, _⟩ := hst
  exact absurd rfl hp
theorem buf_zero (h : COk c bl M) (hst : stepR l 0 d c bl M = (c', bl', M', did)) (hb : bl = []) : bl' = [] := by
  subst hb
  have hn := next_eq (l := l) (bl := []) (most := 0) h.wt h.dr
  unfold stepR stepA at hst
  have h1 : ¬ aDrn c [] l 0 d = true := by unfold aDrn drnIs; simp
  rw [if_neg h1] at hst
  by_cases h2 : nextV c l [] 0 = 2
  · rw [if_pos h2] at hst
    simp only [Prod.mk.injEq] at hst
    obtain ⟨_, rfl, _⟩ := hst
    unfold locB locBl
    rw [if_pos h2]
    split
    · rename_i e2
      rw [h2, e2] at hn
      by_cases hp : c.pc.toNat < l.length
      · simp [hp] at hn
      · simp [hp] at hn
    · rfl
  rw [if_neg h2] at hst
  by_cases h3 : nextV c l [] 0 = 3
  · rw [if_pos h3] at hst
    simp only [Prod.mk.injEq] at hst
    obtain ⟨_, rfl, _⟩ := hst
    unfold bckBl
    split <;> rfl
  rw [if_neg h3] at hst
  simp only [Prod.mk.injEq] at hst
  obtain ⟨_, rfl, _⟩ := hst
  rfl
end
end Go.Proofs.Ytckcdpmfmfpmmaa
