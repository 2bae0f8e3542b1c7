/-
  seisinlaw02.RelPairs returns true for every pair of relations and every number, if the library table is laid.
-/
import Derived.Test.YtgegmoedgegkcaaDoorLPairs0
import Derived.Test.YtgegmoedgegkcaaDoorLRing2
namespace Go.Proofs.YtgegmoedgegkcaaDoor
open Go.RowKit

theorem prs_nodup (f : Nat → BitVec 64) : ∀ n, (prs f n).Nodup
  | 0 => by unfold prs; simp
  | n + 1 => by
    rw [prs_succ, List.nodup_append]
    refine ⟨prs_nodup f n, ?_, fun p hp q hq e => ?_⟩
    · unfold rowPrs
      rw [List.nodup_iff_pairwise_ne, List.pairwise_map]
      exact (Mk.elems_sorted (f n)).imp fun h e => by
        have := (Prod.mk.inj e).2
        omega
    · subst e
      have h1 := (mem_prs.1 hp).1
      unfold rowPrs at hq
      obtain ⟨b, _, rfl⟩ := List.mem_map.1 hq
      exact Nat.lt_irrefl _ h1
theorem prsR_nodup (n : Int) (f : Nat → BitVec 64) : (prsR n f).Nodup := by
  unfold prsR
  split
  · exact prs_nodup _ _
  · simp
theorem len_of_mem {l r : List (Nat × Nat)} (hl : l.Nodup) (hr : r.Nodup) (h : ∀ p, p ∈ l ↔ p ∈ r) : l.length = r.length :=
  ((List.perm_ext_iff_of_nodup hl hr).2 h).length_eq
section
variable {k : Nat} {A B : Nat → BitVec 64}
theorem count_less (hk : k ≤ 48) (hA : Cl k A) : (prsR k (leH k A B)).length + (prsR k (boH k A B)).length = (prsR k A).length := by
  rw [← List.length_append]
  refine (len_of_mem (prsR_nodup _ _) ?_ fun p => ?_).symm
  · rw [List.nodup_append]
    refine ⟨prsR_nodup _ _, prsR_nodup _ _, fun p hp q hq e => ?_⟩
    subst e
    obtain ⟨a, b⟩ := p
    have h1 := (has_leH hA a b).1 ((mem_prsH hk (cl_leH hA) a b).1 hp)
    have h2 := (has_boH hA a b).1 ((mem_prsH hk (cl_boH hA) a b).1 hq)
    rw [h1.2] at h2; exact absurd h2.2 (by simp)
  · obtain ⟨a, b⟩ := p
    rw [List.mem_append, mem_prsH hk hA, mem_prsH hk (cl_leH hA), mem_prsH hk (cl_boH hA), has_leH hA, has_boH hA]
    cases has (B a) b <;> simp
theorem count_both (hk : k ≤ 48) (hA : Cl k A) (hB : Cl k B) : (prsR k (boH k A B)).length = (prsR k (boH k B A)).length := by
  refine len_of_mem (prsR_nodup _ _) (prsR_nodup _ _) fun p => ?_
  obtain ⟨a, b⟩ := p
  rw [mem_prsH hk (cl_boH hA), mem_prsH hk (cl_boH hB), has_boH hA, has_boH hB]
  exact and_comm
theorem count_union (hk : k ≤ 48) (hA : Cl k A) (hB : Cl k B) : (prsR k (unH k A B)).length + (prsR k (boH k A B)).length = (prsR k A).length + (prsR k B).length := by
  have h1 : (prsR k (unH k A B)).length = (prsR k A ++ prsR k (leH k B A)).length := by
    refine len_of_mem (prsR_nodup _ _) ?_ fun p => ?_
    · rw [List.nodup_append]
      refine ⟨prsR_nodup _ _, prsR_nodup _ _, fun p hp q hq e => ?_⟩
      subst e
      obtain ⟨a, b⟩ := p
      have h1 := (mem_prsH hk hA a b).1 hp
      have h2 := (has_leH hB a b).1 ((mem_prsH hk (cl_leH hB) a b).1 hq)
      rw [h1] at h2; exact absurd h2.2 (by simp)
    · obtain ⟨a, b⟩ := p
      rw [List.mem_append, mem_prsH hk hA, mem_prsH hk (cl_leH hB), mem_prsH hk (cl_unH hA hB), has_unH hA hB, has_leH hB]
      cases has (A a) b <;> simp
  have h2 := count_less (B := A) hk hB
  have h3 := count_both hk hA hB
  rw [h1, List.length_append]
  omega
theorem set_ext {s t : BitVec 64} (h : ∀ b, has s b = true ↔ has t b = true) : s = t := congrFun (rel_ext (f := fun _ => s) (g := fun _ => t) fun _ b => h b) 0
theorem frm_met (l : List (Nat × Nat)) : frm l = metS (l.map (·.1)) := by unfold frm metS; rw [List.foldl_map]
theorem met_same {l r : List Nat} (hl : ∀ x ∈ l, x < 64) (hr : ∀ x ∈ r, x < 64) (h : ∀ x, x ∈ l ↔ x ∈ r) : metS l = metS r :=
  set_ext fun b => by rw [has_metS hl, has_metS hr, decide_eq_true_iff, decide_eq_true_iff]; exact h b
theorem has_ofF_from (l : List (Int × Int)) (hl : ∀ p ∈ l, p.2.toNat < 64) (g : Nat → BitVec 64) (a b : Nat) :
    has (l.foldl (fun g p => upd g p.1.toNat (g p.1.toNat ||| 1#64 <<< p.2.toNat)) g a) b = true ↔ has (g a) b = true ∨ ∃ p ∈ l, p.1.toNat = a ∧ p.2.toNat = b := by
  induction l generalizing g with
  | nil => simp
  | cons p l ih =>
    rw [List.foldl_cons, ih (fun q hq => hl q (by simp [hq])), has_upd g _ _ a b (hl p (by simp))]
    constructor
    · rintro ((h | ⟨h1, h2⟩) | ⟨q, hq, h⟩)
      · exact .inl h
      · exact .inr ⟨p, by simp, h1.symm, h2.symm⟩
      · exact .inr ⟨q, by simp [hq], h⟩
    · rintro (h | ⟨q, hq, h1, h2⟩)
      · exact .inl (.inl h)
      · rcases List.mem_cons.1 hq with rfl | hq
        · exact .inl (.inr ⟨h1.symm, h2.symm⟩)
        · exact .inr ⟨q, hq, h1, h2⟩
theorem of_pairs (hk : k ≤ 48) (hA : Cl k A) {l : List (Nat × Nat)} (hl : ∀ p, p ∈ l ↔ p ∈ prsR k A) : ofV k (ipr l) = .tuple #[.agg (rcs k A), .int .i64 0] := by
  have hm : ∀ a b, (a, b) ∈ l ↔ has (A a) b = true := fun a b => by rw [hl, mem_prsH hk hA]
  have hok : ofOk k (ipr l) = true := by
    unfold ofOk
    rw [decide_eq_true (p := (0 : Int) ≤ (k : Int)) (by omega), decide_eq_true (p := (k : Int) ≤ 48) (by omega), Bool.true_and, Bool.true_and, List.all_eq_true]
    intro p hp
    unfold ipr at hp
    obtain ⟨⟨a, b⟩, hq, rfl⟩ := List.mem_map.1 hp
    have := hA a b ((hm a b).1 hq)
    unfold pOk
    simp only [Bool.and_eq_true, decide_eq_true_eq]
    omega
  have hF : ofF (ipr l) = A := rel_ext fun a b => by
    unfold ofF
    rw [has_ofF_from (ipr l) (fun p hp => by
      unfold ipr at hp
      obtain ⟨⟨a, b⟩, hq, rfl⟩ := List.mem_map.1 hp
      have := hA a b ((hm a b).1 hq)
      show ((b : Int)).toNat < 64
      omega), has_zero]
    constructor
    · rintro (h | ⟨p, hp, h1, h2⟩)
      · cases h
      · unfold ipr at hp
        obtain ⟨⟨c, d⟩, hq, rfl⟩ := List.mem_map.1 hp
        simp only [Int.toNat_natCast] at h1 h2
        subst h1 h2
        exact (hm _ _).1 hq
    · intro h
      refine .inr ⟨((a : Int), (b : Int)), ?_, by simp, by simp⟩
      unfold ipr
      exact List.mem_map.2 ⟨(a, b), (hm a b).2 h, rfl⟩
  unfold ofV
  rw [hok, hF]; rfl
theorem cc_From (hk : k ≤ 48) (hA : Cl k A) {l : List (Nat × Nat)} (hl : ∀ p, p ∈ l ↔ p ∈ prsR k A) : CSet 72 k A (metS (l.map (·.1))) := fun w hT => by
  have := c_From k A w hT
  rw [frm_met, met_same (l := (prsR k A).map (·.1)) (r := l.map (·.1)) ?_ ?_ ?_] at this
  · exact this
  · intro x hx
    obtain ⟨p, hp, rfl⟩ := List.mem_map.1 hx
    have := mem_prsR hp; omega
  · intro x hx
    obtain ⟨p, hp, rfl⟩ := List.mem_map.1 hx
    have := mem_prsR ((hl p).1 hp); omega
  · intro x
    simp only [List.mem_map]
    exact ⟨fun ⟨p, hp, e⟩ => ⟨p, (hl p).2 hp, e⟩, fun ⟨p, hp, e⟩ => ⟨p, (hl p).1 hp, e⟩⟩
theorem cc_Into (hk : k ≤ 48) (hA : Cl k A) {l : List (Nat × Nat)} (hl : ∀ p, p ∈ l ↔ p ∈ prsR k A) : CSet 73 k A (metS (l.map (·.2))) := fun w hT => by
  have := c_Into k A w hT
  rw [show backN k A = k by unfold backN; rw [hA.right hk]; rfl, show bk (prsR k A) = bH k A from rfl, frm_met, met_same (l := (prsR k (bH k A)).map (·.1)) (r := l.map (·.2)) ?_ ?_ ?_] at this
  · exact this
  · intro x hx
    obtain ⟨p, hp, rfl⟩ := List.mem_map.1 hx
    have := mem_prsR hp; omega
  · intro x hx
    obtain ⟨p, hp, rfl⟩ := List.mem_map.1 hx
    have := mem_prsR ((hl p).1 hp); omega
  · intro x
    simp only [List.mem_map]
    constructor
    · rintro ⟨⟨a, b⟩, hp, e⟩
      subst e
      rw [mem_prsH hk (cl_bH hk hA), has_bH hk hA] at hp
      exact ⟨(b, a), (hl _).2 ((mem_prsH hk hA b a).2 hp), rfl⟩
    · rintro ⟨⟨a, b⟩, hp, e⟩
      subst e
      exact ⟨(b, a), (mem_prsH hk (cl_bH hk hA) b a).2 ((has_bH hk hA b a).2 ((mem_prsH hk hA a b).1 ((hl _).1 hp))), rfl⟩
end
theorem w_RelPairs (n n2 : Int) (f g : Nat → BitVec 64) (x : Int) (w : World) (hT : Tab w) (h0 : 0 ≤ x) (h1 : x ≤ 65535) :
    Calls Tryd.prog 16 #[.agg (rcs n f), .agg (rcs n2 g), .int .u16 x] w fun e w' => e = .returned (.bool true) ∧ Below w.heap.size w w' := by
  obtain ⟨xn, rfl⟩ : ∃ xn : Nat, x = xn := ⟨x.toNat, (Int.toNat_of_nonneg h0).symm⟩
  obtain ⟨k, hk, hk20, hkk⟩ := fine_k n 20
  have h48 : k ≤ 48 := by omega
  have hA := cl_fine k (by omega) f
  have hB := cl_fine k (by omega) g
  have sAU : Sub (fineF k f) (unH k (fineF k f) (fineF k g)) := fun a b h => (has_unH hA hB a b).2 (.inl h)
  have sVB : Sub (boH k (fineF k f) (fineF k g)) (fineF k g) := fun a b h => ((has_boH hA a b).1 h).2
  have sDA : Sub (leH k (fineF k f) (fineF k g)) (fineF k f) := fun a b h => ((has_leH hA a b).1 h).1
  obtain ⟨l, hl⟩ : ∃ l, prsR k (fineF k f) = l := ⟨_, rfl⟩
  obtain ⟨m, hm⟩ : ∃ m, l.length = m := ⟨_, rfl⟩
  have hm3 : m ≤ 3072 := by rw [← hm, ← hl]; exact prsR_le _ _
  have hown : COwn k (fineF k f) l m := fun w hT => by
    have := c_Pairs k (fineF k f) w hT
    rw [hl, hm] at this; exact this
  have hPl : CPrs k (fineF k f) l m := by rw [← hl]; exact cc_Prs (by rw [hl]; exact hm)
  have hcu := count_union h48 hA hB
  have hcl := count_less (B := fineF k g) h48 hA
  rw [hl, hm] at hcu hcl
  by_cases hm0 : m = 0
  · have hl0 : l = [] := List.eq_nil_of_length_eq_zero (by omega)
    have hmem : ∀ p, p ∈ ([] : List (Nat × Nat)) ↔ p ∈ prsR k (fineF k f) := fun p => by rw [hl, hl0]
    exact pairs_walk0 n n2 f g xn k (fineF k f) (fineF k g) l m (xn % m) (by omega) hk20 hm hm0 hm3 (of_pairs h48 hA hmem) _ _ _ _ _ _ _ _ _ _ _ (prsR_le _ _) (prsR_le _ _) (prsR_le _ _) (prsR_le _ _) hcu hcl
      (cc_Fine n f 20 k (by omega) hk) (cc_Fine k g 20 k (by omega) hkk) hown (cc_Union h48 hA hB) (cc_Both h48 hA hB) (cc_Less h48 hA hB) hPl (cc_Prs rfl) (cc_Prs rfl) (cc_Prs rfl) (cc_Prs rfl)
      (cc_In h48 hA (cl_unH hA hB) sAU) (cc_In h48 (cl_boH hA) hB sVB) (cc_In h48 (cl_leH hA) hA sDA) (cc_Has k _) (cc_From h48 hA hmem) (cc_Into h48 hA hmem) w hT
  · obtain ⟨r, hr⟩ : ∃ r, xn % m = r := ⟨_, rfl⟩
    have hrm : r < m := hr ▸ Nat.mod_lt _ (by omega)
    obtain ⟨l2, hl2⟩ : ∃ l2, (l.drop r).take (m - r) ++ (l.drop 0).take r = l2 := ⟨_, rfl⟩
    have hrot : l2 = l.drop r ++ l.take r := by
      rw [← hl2, List.drop_zero, List.take_of_length_le (l := l.drop r) (by rw [List.length_drop]; omega)]
    have hmem : ∀ p, p ∈ l2 ↔ p ∈ prsR k (fineF k f) := fun p => by
      rw [hrot, hl, List.mem_append, or_comm, ← List.mem_append, List.take_append_drop]
    have hmem2 : ∀ p, p ∈ l2 ++ l2 ↔ p ∈ prsR k (fineF k f) := fun p => by rw [List.mem_append, or_self]; exact hmem p
    have hlen2 : l2.length = m := by rw [hrot, List.length_append, List.length_drop, List.length_take]; omega
    refine pairs_walkP n n2 f g xn k (fineF k f) (fineF k g) l m r (by omega) hk20 hm (by omega) hm3 hr l2 hl2.symm hlen2 (of_pairs h48 hA hmem2) _ _ _ _ _ _ _ _ _ _ _ (prsR_le _ _) (prsR_le _ _) (prsR_le _ _) (prsR_le _ _) hcu hcl (fun p hp => ?_) (fun p hp => ?_)
      (cc_Fine n f 20 k (by omega) hk) (cc_Fine k g 20 k (by omega) hkk) hown (cc_Union h48 hA hB) (cc_Both h48 hA hB) (cc_Less h48 hA hB) hPl (cc_Prs rfl) (cc_Prs rfl) (cc_Prs rfl) (cc_Prs rfl)
      (cc_In h48 hA (cl_unH hA hB) sAU) (cc_In h48 (cl_boH hA) hB sVB) (cc_In h48 (cl_leH hA) hA sDA) (cc_Has k _) (cc_From h48 hA hmem) (cc_Into h48 hA hmem) w hT
    · have := mem_prsR ((hmem p).1 hp); omega
    · obtain ⟨a, b⟩ := p
      rw [hasR_iff h48 hA]
      exact (mem_prsH h48 hA a b).1 ((hmem _).1 hp)
end Go.Proofs.YtgegmoedgegkcaaDoor
