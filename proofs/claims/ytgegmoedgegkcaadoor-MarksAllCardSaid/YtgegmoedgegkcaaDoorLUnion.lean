/-
  seisinlaw01.MarksUnion returns true for every two sets, if the library table is laid.
-/
import Derived.Test.YtgegmoedgegkcaaDoorAw
namespace Go.Proofs.YtgegmoedgegkcaaDoor
open Go.RowKit

theorem Tab.below' {w w' : World} (hb : Below w.heap.size w w') (h : Tab w) : Tab w' := h.below hb

theorem filter_len (l : List Nat) (p : Nat → Bool) : (l.filter p).length + (l.filter fun x => !p x).length = l.length := by
  induction l with
  | nil => rfl
  | cons a l ih =>
    rw [List.filter_cons, List.filter_cons]
    cases p a <;> simp <;> omega
theorem len_or (a b : BitVec 64) : (Mk.elems (a ||| b)).length + (Mk.elems (a &&& b)).length = (Mk.elems a).length + (Mk.elems b).length := by
  have h1 := filter_len (Mk.elems (a ||| b)) (fun i => has a i)
  have e1 : (Mk.elems (a ||| b)).filter (fun i => has a i) = Mk.elems a := by
    rw [← elems_and]; congr 1
    apply has_ext; intro j _; rw [has_and, has_or]; cases has a j <;> simp
  have e2 : (Mk.elems (a ||| b)).filter (fun i => !has a i) = (Mk.elems b).filter (fun i => !has a i) := by
    rw [show a ||| b = b ||| a from BitVec.or_comm a b]
    have : ∀ s : BitVec 64, (Mk.elems s).filter (fun i => !has a i) = Mk.elems (s &&& ~~~a) := fun s => by
      rw [elems_and]; apply List.filter_congr; intro x hx
      rw [has_not, decide_eq_true (Mk.elems_lt hx), Bool.true_and]
    rw [this, this]; congr 1
    apply has_ext; intro j hj; rw [has_and, has_and, has_or, has_not]; cases has a j <;> simp
  have h2 := filter_len (Mk.elems b) (fun i => has a i)
  rw [e1, e2] at h1
  rw [← elems_and, BitVec.and_comm b a] at h2
  omega
theorem len_diff (a b : BitVec 64) : (Mk.elems (a &&& ~~~b)).length + (Mk.elems (a &&& b)).length = (Mk.elems a).length := by
  have h2 := filter_len (Mk.elems a) (fun i => has b i)
  have : (Mk.elems a).filter (fun i => !has b i) = Mk.elems (a &&& ~~~b) := by
    rw [elems_and]; apply List.filter_congr; intro x hx
    rw [has_not, decide_eq_true (Mk.elems_lt hx), Bool.true_and]
  rw [this, ← elems_and] at h2
  omega
theorem head_min {s : BitVec 64} {x : Nat} : (Mk.elems s).head? = some x ↔ has s x = true ∧ ∀ j, has s j = true → x ≤ j := by
  cases he : Mk.elems s with
  | nil =>
    constructor
    · intro h; cases h
    · intro h; have := Mk.mem_elems.2 h.1; rw [he] at this; simp at this
  | cons a l =>
    have hs := Mk.elems_sorted s
    rw [he, List.pairwise_cons] at hs
    have hm : ∀ j, has s j = true ↔ j = a ∨ j ∈ l := fun j => by
      have := @Mk.mem_elems s j; rw [he, List.mem_cons] at this; exact this.symm
    rw [List.head?_cons, Option.some.injEq]
    constructor
    · rintro rfl
      refine ⟨(hm _).2 (.inl rfl), fun j hj => ?_⟩
      rcases (hm j).1 hj with rfl | h
      · omega
      · have := hs.1 j h; omega
    · rintro ⟨h1, h2⟩
      have h3 := h2 a ((hm a).2 (.inl rfl))
      rcases (hm x).1 h1 with h | h
      · exact h.symm
      · have := hs.1 x h; omega
theorem head_none {s : BitVec 64} : (Mk.elems s).head? = none ↔ s = 0#64 := by
  rw [List.head?_eq_none_iff, Mk.elems_eq_nil]
theorem head_or (a b : BitVec 64) : (Mk.elems (a ||| b)).head? = match (Mk.elems a).head?, (Mk.elems b).head? with
    | some x, some y => some (min x y)
    | some x, none => some x
    | none, o => o := by
  cases ha : (Mk.elems a).head? with
  | none => rw [head_none.1 ha, BitVec.zero_or]
  | some x =>
    cases hb : (Mk.elems b).head? with
    | none => rw [head_none.1 hb, BitVec.or_zero, ha]
    | some y =>
      obtain ⟨a1, a2⟩ := head_min.1 ha
      obtain ⟨b1, b2⟩ := head_min.1 hb
      refine head_min.2 ⟨?_, fun j hj => ?_⟩
      · rw [has_or]
        rcases Nat.le_total x y with h | h
        · rw [Nat.min_eq_left h, a1]; rfl
        · rw [Nat.min_eq_right h, b1, Bool.or_true]
      · rw [has_or, Bool.or_eq_true] at hj
        rcases hj with h | h
        · have := a2 j h; omega
        · have := b2 j h; omega

/-- marks.Len, its answer under a name. -/
theorem v_Len (s : BitVec 64) : ∃ n : Nat, n ≤ 64 ∧ n = (Mk.elems s).length ∧ Hid (∀ w, Tab w → Calls Tryd.prog 32 #[.int .u64 (iv s)] w fun e w' => e = .returned (.int .i64 n) ∧ Below w.heap.size w w') :=
  ⟨_, Mk.elems_length_le s, rfl, fun w hT => c_Len s w hT⟩

/-- What First answers. -/
abbrev FirstIs (s : BitVec 64) (x : Int) (b : Bool) : Prop := ∀ w, Tab w → Calls Tryd.prog 35 #[.int .u64 (iv s)] w fun e w' => e = .returned (.tuple #[.int .i64 x, .bool b]) ∧ Below w.heap.size w w'
theorem first_some {s : BitVec 64} {x : Nat} (h : (Mk.elems s).head? = some x) : FirstIs s x true := fun w hT => by
  have := c_First s w hT; rw [h] at this; exact this
theorem first_none {s : BitVec 64} (h : (Mk.elems s).head? = none) : FirstIs s 0 false := fun w hT => by
  have := c_First s w hT; rw [h] at this; exact this

set_option maxRecDepth 8000 in
set_option maxHeartbeats 1000000 in
theorem union_nn (a b : BitVec 64)  (w : World) (hT : Tab w) (fa : FirstIs a 0 false) (fb : FirstIs b 0 false) (fo : FirstIs (a ||| b) 0 false)  :
    Calls Tryd.prog 7 #[.int .u64 (iv a), .int .u64 (iv b)] w fun e w' => e = .returned (.bool true) ∧ Below w.heap.size w w' := by
  obtain ⟨no, lo, eo, Hor⟩ := v_Len (a ||| b)
  obtain ⟨ni, li, ei, Hand⟩ := v_Len (a &&& b)
  obtain ⟨na, la, ea, Ha⟩ := v_Len a
  obtain ⟨nb, lb, eb, Hb⟩ := v_Len b
  obtain ⟨nd, ld, ed, Hdf⟩ := v_Len (a &&& ~~~b)
  have t1 := len_or a b
  have t2 := len_diff a b
  rw [← eo, ← ei, ← ea, ← eb] at t1
  rw [← ed, ← ei, ← ea] at t2
  have q1 : (((no : Int) + (ni : Int)) != ((na : Int) + (nb : Int))) = false := by simp; omega
  have q2 : (((nd : Int) + (ni : Int)) != (na : Int)) = false := by simp; omega
  have Fa := Lib.hid fa
  have Fb := Lib.hid fb
  have For := Lib.hid fo
  have hB := Below.refl w.heap.size w
  clear t1 t2 eo ei ea eb ed fa fb fo
  go_enter Tryd.func7, Tryd.ntmps7
  go_wp2_with (first | (go_at_call 32; (with_reducible refine (Hor.out _ (by assumption)).mono ?_); rintro e wn ⟨rfl, hb⟩; have hT := Tab.below' hb (by assumption); have hB := Below.chain (by assumption) hb; clear hb) | (go_at_call 32; (with_reducible refine (Hand.out _ (by assumption)).mono ?_); rintro e wn ⟨rfl, hb⟩; have hT := Tab.below' hb (by assumption); have hB := Below.chain (by assumption) hb; clear hb) | (go_at_call 32; (with_reducible refine (Ha.out _ (by assumption)).mono ?_); rintro e wn ⟨rfl, hb⟩; have hT := Tab.below' hb (by assumption); have hB := Below.chain (by assumption) hb; clear hb) | (go_at_call 32; (with_reducible refine (Hb.out _ (by assumption)).mono ?_); rintro e wn ⟨rfl, hb⟩; have hT := Tab.below' hb (by assumption); have hB := Below.chain (by assumption) hb; clear hb) | (go_at_call 32; (with_reducible refine (Hdf.out _ (by assumption)).mono ?_); rintro e wn ⟨rfl, hb⟩; have hT := Tab.below' hb (by assumption); have hB := Below.chain (by assumption) hb; clear hb) | (go_at_call 35; (with_reducible refine (Fa.out _ (by assumption)).mono ?_); rintro e wn ⟨rfl, hb⟩; have hT := Tab.below' hb (by assumption); have hB := Below.chain (by assumption) hb; clear hb) | (go_at_call 35; (with_reducible refine (Fb.out _ (by assumption)).mono ?_); rintro e wn ⟨rfl, hb⟩; have hT := Tab.below' hb (by assumption); have hB := Below.chain (by assumption) hb; clear hb) | (go_at_call 35; (with_reducible refine (For.out _ (by assumption)).mono ?_); rintro e wn ⟨rfl, hb⟩; have hT := Tab.below' hb (by assumption); have hB := Below.chain (by assumption) hb; clear hb) | (go_at_call 24; (with_reducible refine (c_awake1 _ (by assumption)).mono ?_); rintro e wn ⟨rfl, hb⟩; have hT := Tab.below' hb (by assumption); have hB := Below.chain (by assumption) hb; clear hb))
  all_goals go_ret
  all_goals exact ⟨rfl, by assumption⟩

set_option maxRecDepth 8000 in
set_option maxHeartbeats 1000000 in
theorem union_sn (a b : BitVec 64) (x : Int) (w : World) (hT : Tab w) (fa : FirstIs a x true) (fb : FirstIs b 0 false) (fo : FirstIs (a ||| b) x true) (hx : 0 ≤ x) :
    Calls Tryd.prog 7 #[.int .u64 (iv a), .int .u64 (iv b)] w fun e w' => e = .returned (.bool true) ∧ Below w.heap.size w w' := by
  obtain ⟨no, lo, eo, Hor⟩ := v_Len (a ||| b)
  obtain ⟨ni, li, ei, Hand⟩ := v_Len (a &&& b)
  obtain ⟨na, la, ea, Ha⟩ := v_Len a
  obtain ⟨nb, lb, eb, Hb⟩ := v_Len b
  obtain ⟨nd, ld, ed, Hdf⟩ := v_Len (a &&& ~~~b)
  have t1 := len_or a b
  have t2 := len_diff a b
  rw [← eo, ← ei, ← ea, ← eb] at t1
  rw [← ed, ← ei, ← ea] at t2
  have q1 : (((no : Int) + (ni : Int)) != ((na : Int) + (nb : Int))) = false := by simp; omega
  have q2 : (((nd : Int) + (ni : Int)) != (na : Int)) = false := by simp; omega
  have Fa := Lib.hid fa
  have Fb := Lib.hid fb
  have For := Lib.hid fo
  have hB := Below.refl w.heap.size w
  clear t1 t2 eo ei ea eb ed fa fb fo
  go_enter Tryd.func7, Tryd.ntmps7
  go_wp2_with (first | (go_at_call 32; (with_reducible refine (Hor.out _ (by assumption)).mono ?_); rintro e wn ⟨rfl, hb⟩; have hT := Tab.below' hb (by assumption); have hB := Below.chain (by assumption) hb; clear hb) | (go_at_call 32; (with_reducible refine (Hand.out _ (by assumption)).mono ?_); rintro e wn ⟨rfl, hb⟩; have hT := Tab.below' hb (by assumption); have hB := Below.chain (by assumption) hb; clear hb) | (go_at_call 32; (with_reducible refine (Ha.out _ (by assumption)).mono ?_); rintro e wn ⟨rfl, hb⟩; have hT := Tab.below' hb (by assumption); have hB := Below.chain (by assumption) hb; clear hb) | (go_at_call 32; (with_reducible refine (Hb.out _ (by assumption)).mono ?_); rintro e wn ⟨rfl, hb⟩; have hT := Tab.below' hb (by assumption); have hB := Below.chain (by assumption) hb; clear hb) | (go_at_call 32; (with_reducible refine (Hdf.out _ (by assumption)).mono ?_); rintro e wn ⟨rfl, hb⟩; have hT := Tab.below' hb (by assumption); have hB := Below.chain (by assumption) hb; clear hb) | (go_at_call 35; (with_reducible refine (Fa.out _ (by assumption)).mono ?_); rintro e wn ⟨rfl, hb⟩; have hT := Tab.below' hb (by assumption); have hB := Below.chain (by assumption) hb; clear hb) | (go_at_call 35; (with_reducible refine (Fb.out _ (by assumption)).mono ?_); rintro e wn ⟨rfl, hb⟩; have hT := Tab.below' hb (by assumption); have hB := Below.chain (by assumption) hb; clear hb) | (go_at_call 35; (with_reducible refine (For.out _ (by assumption)).mono ?_); rintro e wn ⟨rfl, hb⟩; have hT := Tab.below' hb (by assumption); have hB := Below.chain (by assumption) hb; clear hb) | (go_at_call 24; (with_reducible refine (c_awake1 _ (by assumption)).mono ?_); rintro e wn ⟨rfl, hb⟩; have hT := Tab.below' hb (by assumption); have hB := Below.chain (by assumption) hb; clear hb))
  all_goals go_ret
  all_goals exact ⟨rfl, by assumption⟩

set_option maxRecDepth 8000 in
set_option maxHeartbeats 1000000 in
theorem union_ns (a b : BitVec 64) (y : Int) (w : World) (hT : Tab w) (fa : FirstIs a 0 false) (fb : FirstIs b y true) (fo : FirstIs (a ||| b) y true) (hy : 0 ≤ y) :
    Calls Tryd.prog 7 #[.int .u64 (iv a), .int .u64 (iv b)] w fun e w' => e = .returned (.bool true) ∧ Below w.heap.size w w' := by
  obtain ⟨no, lo, eo, Hor⟩ := v_Len (a ||| b)
  obtain ⟨ni, li, ei, Hand⟩ := v_Len (a &&& b)
  obtain ⟨na, la, ea, Ha⟩ := v_Len a
  obtain ⟨nb, lb, eb, Hb⟩ := v_Len b
  obtain ⟨nd, ld, ed, Hdf⟩ := v_Len (a &&& ~~~b)
  have t1 := len_or a b
  have t2 := len_diff a b
  rw [← eo, ← ei, ← ea, ← eb] at t1
  rw [← ed, ← ei, ← ea] at t2
  have q1 : (((no : Int) + (ni : Int)) != ((na : Int) + (nb : Int))) = false := by simp; omega
  have q2 : (((nd : Int) + (ni : Int)) != (na : Int)) = false := by simp; omega
  have Fa := Lib.hid fa
  have Fb := Lib.hid fb
  have For := Lib.hid fo
  have hB := Below.refl w.heap.size w
  clear t1 t2 eo ei ea eb ed fa fb fo
  go_enter Tryd.func7, Tryd.ntmps7
  go_wp2_with (first | (go_at_call 32; (with_reducible refine (Hor.out _ (by assumption)).mono ?_); rintro e wn ⟨rfl, hb⟩; have hT := Tab.below' hb (by assumption); have hB := Below.chain (by assumption) hb; clear hb) | (go_at_call 32; (with_reducible refine (Hand.out _ (by assumption)).mono ?_); rintro e wn ⟨rfl, hb⟩; have hT := Tab.below' hb (by assumption); have hB := Below.chain (by assumption) hb; clear hb) | (go_at_call 32; (with_reducible refine (Ha.out _ (by assumption)).mono ?_); rintro e wn ⟨rfl, hb⟩; have hT := Tab.below' hb (by assumption); have hB := Below.chain (by assumption) hb; clear hb) | (go_at_call 32; (with_reducible refine (Hb.out _ (by assumption)).mono ?_); rintro e wn ⟨rfl, hb⟩; have hT := Tab.below' hb (by assumption); have hB := Below.chain (by assumption) hb; clear hb) | (go_at_call 32; (with_reducible refine (Hdf.out _ (by assumption)).mono ?_); rintro e wn ⟨rfl, hb⟩; have hT := Tab.below' hb (by assumption); have hB := Below.chain (by assumption) hb; clear hb) | (go_at_call 35; (with_reducible refine (Fa.out _ (by assumption)).mono ?_); rintro e wn ⟨rfl, hb⟩; have hT := Tab.below' hb (by assumption); have hB := Below.chain (by assumption) hb; clear hb) | (go_at_call 35; (with_reducible refine (Fb.out _ (by assumption)).mono ?_); rintro e wn ⟨rfl, hb⟩; have hT := Tab.below' hb (by assumption); have hB := Below.chain (by assumption) hb; clear hb) | (go_at_call 35; (with_reducible refine (For.out _ (by assumption)).mono ?_); rintro e wn ⟨rfl, hb⟩; have hT := Tab.below' hb (by assumption); have hB := Below.chain (by assumption) hb; clear hb) | (go_at_call 24; (with_reducible refine (c_awake1 _ (by assumption)).mono ?_); rintro e wn ⟨rfl, hb⟩; have hT := Tab.below' hb (by assumption); have hB := Below.chain (by assumption) hb; clear hb))
  all_goals go_ret
  all_goals exact ⟨rfl, by assumption⟩

set_option maxRecDepth 8000 in
set_option maxHeartbeats 1000000 in
theorem union_ss1 (a b : BitVec 64) (x y : Int) (w : World) (hT : Tab w) (fa : FirstIs a x true) (fb : FirstIs b y true) (fo : FirstIs (a ||| b) x true) (hxy : x ≤ y) :
    Calls Tryd.prog 7 #[.int .u64 (iv a), .int .u64 (iv b)] w fun e w' => e = .returned (.bool true) ∧ Below w.heap.size w w' := by
  obtain ⟨no, lo, eo, Hor⟩ := v_Len (a ||| b)
  obtain ⟨ni, li, ei, Hand⟩ := v_Len (a &&& b)
  obtain ⟨na, la, ea, Ha⟩ := v_Len a
  obtain ⟨nb, lb, eb, Hb⟩ := v_Len b
  obtain ⟨nd, ld, ed, Hdf⟩ := v_Len (a &&& ~~~b)
  have t1 := len_or a b
  have t2 := len_diff a b
  rw [← eo, ← ei, ← ea, ← eb] at t1
  rw [← ed, ← ei, ← ea] at t2
  have q1 : (((no : Int) + (ni : Int)) != ((na : Int) + (nb : Int))) = false := by simp; omega
  have q2 : (((nd : Int) + (ni : Int)) != (na : Int)) = false := by simp; omega
  have Fa := Lib.hid fa
  have Fb := Lib.hid fb
  have For := Lib.hid fo
  have hB := Below.refl w.heap.size w
  clear t1 t2 eo ei ea eb ed fa fb fo
  go_enter Tryd.func7, Tryd.ntmps7
  go_wp2_with (first | (go_at_call 32; (with_reducible refine (Hor.out _ (by assumption)).mono ?_); rintro e wn ⟨rfl, hb⟩; have hT := Tab.below' hb (by assumption); have hB := Below.chain (by assumption) hb; clear hb) | (go_at_call 32; (with_reducible refine (Hand.out _ (by assumption)).mono ?_); rintro e wn ⟨rfl, hb⟩; have hT := Tab.below' hb (by assumption); have hB := Below.chain (by assumption) hb; clear hb) | (go_at_call 32; (with_reducible refine (Ha.out _ (by assumption)).mono ?_); rintro e wn ⟨rfl, hb⟩; have hT := Tab.below' hb (by assumption); have hB := Below.chain (by assumption) hb; clear hb) | (go_at_call 32; (with_reducible refine (Hb.out _ (by assumption)).mono ?_); rintro e wn ⟨rfl, hb⟩; have hT := Tab.below' hb (by assumption); have hB := Below.chain (by assumption) hb; clear hb) | (go_at_call 32; (with_reducible refine (Hdf.out _ (by assumption)).mono ?_); rintro e wn ⟨rfl, hb⟩; have hT := Tab.below' hb (by assumption); have hB := Below.chain (by assumption) hb; clear hb) | (go_at_call 35; (with_reducible refine (Fa.out _ (by assumption)).mono ?_); rintro e wn ⟨rfl, hb⟩; have hT := Tab.below' hb (by assumption); have hB := Below.chain (by assumption) hb; clear hb) | (go_at_call 35; (with_reducible refine (Fb.out _ (by assumption)).mono ?_); rintro e wn ⟨rfl, hb⟩; have hT := Tab.below' hb (by assumption); have hB := Below.chain (by assumption) hb; clear hb) | (go_at_call 35; (with_reducible refine (For.out _ (by assumption)).mono ?_); rintro e wn ⟨rfl, hb⟩; have hT := Tab.below' hb (by assumption); have hB := Below.chain (by assumption) hb; clear hb) | (go_at_call 24; (with_reducible refine (c_awake1 _ (by assumption)).mono ?_); rintro e wn ⟨rfl, hb⟩; have hT := Tab.below' hb (by assumption); have hB := Below.chain (by assumption) hb; clear hb))
  all_goals go_ret
  all_goals exact ⟨rfl, by assumption⟩

set_option maxRecDepth 8000 in
set_option maxHeartbeats 1000000 in
theorem union_ss2 (a b : BitVec 64) (x y : Int) (w : World) (hT : Tab w) (fa : FirstIs a x true) (fb : FirstIs b y true) (fo : FirstIs (a ||| b) y true) (hxy : y < x) :
    Calls Tryd.prog 7 #[.int .u64 (iv a), .int .u64 (iv b)] w fun e w' => e = .returned (.bool true) ∧ Below w.heap.size w w' := by
  obtain ⟨no, lo, eo, Hor⟩ := v_Len (a ||| b)
  obtain ⟨ni, li, ei, Hand⟩ := v_Len (a &&& b)
  obtain ⟨na, la, ea, Ha⟩ := v_Len a
  obtain ⟨nb, lb, eb, Hb⟩ := v_Len b
  obtain ⟨nd, ld, ed, Hdf⟩ := v_Len (a &&& ~~~b)
  have t1 := len_or a b
  have t2 := len_diff a b
  rw [← eo, ← ei, ← ea, ← eb] at t1
  rw [← ed, ← ei, ← ea] at t2
  have q1 : (((no : Int) + (ni : Int)) != ((na : Int) + (nb : Int))) = false := by simp; omega
  have q2 : (((nd : Int) + (ni : Int)) != (na : Int)) = false := by simp; omega
  have Fa := Lib.hid fa
  have Fb := Lib.hid fb
  have For := Lib.hid fo
  have hB := Below.refl w.heap.size w
  clear t1 t2 eo ei ea eb ed fa fb fo
  go_enter Tryd.func7, Tryd.ntmps7
  go_wp2_with (first | (go_at_call 32; (with_reducible refine (Hor.out _ (by assumption)).mono ?_); rintro e wn ⟨rfl, hb⟩; have hT := Tab.below' hb (by assumption); have hB := Below.chain (by assumption) hb; clear hb) | (go_at_call 32; (with_reducible refine (Hand.out _ (by assumption)).mono ?_); rintro e wn ⟨rfl, hb⟩; have hT := Tab.below' hb (by assumption); have hB := Below.chain (by assumption) hb; clear hb) | (go_at_call 32; (with_reducible refine (Ha.out _ (by assumption)).mono ?_); rintro e wn ⟨rfl, hb⟩; have hT := Tab.below' hb (by assumption); have hB := Below.chain (by assumption) hb; clear hb) | (go_at_call 32; (with_reducible refine (Hb.out _ (by assumption)).mono ?_); rintro e wn ⟨rfl, hb⟩; have hT := Tab.below' hb (by assumption); have hB := Below.chain (by assumption) hb; clear hb) | (go_at_call 32; (with_reducible refine (Hdf.out _ (by assumption)).mono ?_); rintro e wn ⟨rfl, hb⟩; have hT := Tab.below' hb (by assumption); have hB := Below.chain (by assumption) hb; clear hb) | (go_at_call 35; (with_reducible refine (Fa.out _ (by assumption)).mono ?_); rintro e wn ⟨rfl, hb⟩; have hT := Tab.below' hb (by assumption); have hB := Below.chain (by assumption) hb; clear hb) | (go_at_call 35; (with_reducible refine (Fb.out _ (by assumption)).mono ?_); rintro e wn ⟨rfl, hb⟩; have hT := Tab.below' hb (by assumption); have hB := Below.chain (by assumption) hb; clear hb) | (go_at_call 35; (with_reducible refine (For.out _ (by assumption)).mono ?_); rintro e wn ⟨rfl, hb⟩; have hT := Tab.below' hb (by assumption); have hB := Below.chain (by assumption) hb; clear hb) | (go_at_call 24; (with_reducible refine (c_awake1 _ (by assumption)).mono ?_); rintro e wn ⟨rfl, hb⟩; have hT := Tab.below' hb (by assumption); have hB := Below.chain (by assumption) hb; clear hb))
  all_goals go_ret
  all_goals exact ⟨rfl, by assumption⟩

/-- **MarksUnion.** -/
theorem w_MarksUnion (a b : BitVec 64) (w : World) (hT : Tab w) : Calls Tryd.prog 7 #[.int .u64 (iv a), .int .u64 (iv b)] w fun e w' => e = .returned (.bool true) ∧ Below w.heap.size w w' := by
  have ho := head_or a b
  cases ha : (Mk.elems a).head? with
  | none =>
    cases hb : (Mk.elems b).head? with
    | none => rw [ha, hb] at ho; exact union_nn a b w hT (first_none ha) (first_none hb) (first_none ho)
    | some y => rw [ha, hb] at ho; exact union_ns a b y w hT (first_none ha) (first_some hb) (first_some ho) (by omega)
  | some x =>
    cases hb : (Mk.elems b).head? with
    | none => rw [ha, hb] at ho; exact union_sn a b x w hT (first_some ha) (first_none hb) (first_some ho) (by omega)
    | some y =>
      rw [ha, hb] at ho
      rcases Nat.lt_or_ge y x with h | h
      · have hm := first_some ho
        rw [Nat.min_eq_right (by omega)] at hm
        exact union_ss2 a b x y w hT (first_some ha) (first_some hb) hm (by omega)
      · have hm := first_some ho
        rw [Nat.min_eq_left h] at hm
        exact union_ss1 a b x y w hT (first_some ha) (first_some hb) hm (by omega)
end Go.Proofs.YtgegmoedgegkcaaDoor
