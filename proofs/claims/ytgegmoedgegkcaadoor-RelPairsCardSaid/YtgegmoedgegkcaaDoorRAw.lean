/-
  seisinlaw02.awake returns true, if the library table is laid.
-/
import Derived.Test.YtgegmoedgegkcaaDoorRelB
namespace Go.Proofs.YtgegmoedgegkcaaDoor
open Go.RowKit

def exR : Nat → BitVec 64 := ofF [(0, 1), (1, 2), (2, 0), (2, 3)]
def exS : Nat → BitVec 64 := ofF [(0, 1), (1, 2), (2, 3)]
def exQ : Nat → BitVec 64 := ofF [(0, 1), (1, 0), (2, 2)]
def exT : Nat → BitVec 64 := below48 (fun k => stp exR (exR k)) 4
set_option maxRecDepth 100000 in
theorem ex_then : twoV 4 4 exR exR (fun k => stp exR (exR k)) = .tuple #[.agg (rcs 4 exT), .int .i64 0] := by
  unfold twoV; rw [if_pos (by decide +kernel)]; rfl
set_option maxRecDepth 100000 in
theorem ex_right : right 4 exR = true := by decide +kernel
noncomputable def exP : Nat → BitVec 64 := plusF 4 exR
set_option maxRecDepth 100000 in
theorem ex_plus : exP = pit 4 exR 2 := by
  refine (pit_same (by omega) ?_).symm
  funext a
  by_cases h : a < 4
  · have : ∀ a, a < 4 → pit 4 exR (2 + 1) a = pit 4 exR 2 a := by decide +kernel
    exact this a h
  · rw [pit_below _ _ _ _ (by omega), pit_below _ _ _ _ (by omega)]
theorem ex_plusV : plusV 4 exR = .agg (rcs 4 exP) := by unfold plusV; rw [if_pos ex_right]; rfl
theorem ex_top1 : topR 4 exR = none := by decide +kernel
theorem ex_top2 : topR 4 exS = some [0, 1, 2, 3] := by decide +kernel
theorem ex_ring1 : ringL 4 exR = [0, 1, 2] := by decide +kernel
theorem ex_ring2 : ringL 3 exQ = [2] := by decide +kernel
theorem ex_pairs : prsR 4 exT = [(0, 2), (1, 0), (1, 3), (2, 1)] := by decide +kernel
theorem ex_has1 : hasR 4 exP 0 0 = true := by rw [ex_plus]; decide +kernel
theorem ex_has2 : hasR 4 exP 0 3 = true := by rw [ex_plus]; decide +kernel
theorem ex_has3 : hasR 4 exP 3 3 = false := by rw [ex_plus]; decide +kernel

theorem ix0 {e : RlE} {L : List RlE} : (e :: L)[0]? = some e := rfl
theorem ixS {e x : RlE} {L : List RlE} {i : Nat} (h : L[i]? = some x) : (e :: L)[i + 1]? = some x := h

/-! Lists in blocks. -/
def vpi (l : List (Int × Int)) : List Value := l.flatMap fun p => [Value.int .i64 p.1, .int .i64 p.2]
theorem vpi_get {l : List (Int × Int)} {j : Nat} {p : Int × Int} (h : l[j]? = some p) : (vpi l)[j * 2]? = some (.int .i64 p.1) ∧ (vpi l)[j * 2 + 1]? = some (.int .i64 p.2) := by
  induction l generalizing j with
  | nil => simp at h
  | cons q l ih =>
    have hv : vpi (q :: l) = .int .i64 q.1 :: .int .i64 q.2 :: vpi l := rfl
    rw [hv]
    cases j with
    | zero => simp at h; subst h; simp
    | succ j =>
      have := ih (j := j) (by simpa using h)
      rw [show (j + 1) * 2 = j * 2 + 1 + 1 by omega]
      simpa using this
theorem PrG.of_heap {w : World} {g : Nat} {cur : Array Value} {e : TypeId} {l : List (Int × Int)} {fz : Nat × Nat} (h : w.heap[g]? = some (.cells cur e fz)) {k : Nat} (ht : cur.toList.take k = vpi l) : PrG w w.heap.size (some ⟨g, 0, none⟩) l := by
  intro j p hp
  obtain ⟨h1, h2⟩ := vpi_get hp
  rw [← ht, List.getElem?_take] at h1 h2
  refine ⟨g, 0, rfl, (Array.getElem?_eq_some_iff.1 h).1, ?_, ?_⟩
  · split at h1
    · rw [Nat.zero_add, cell_of_row w g _ cur e fz h]; simpa using h1
    · cases h1
  · split at h2
    · rw [Nat.zero_add, cell_of_row w g _ cur e fz h]; simpa using h2
    · cases h2
theorem PrG.new (w : World) (cs : Array Value) (t : TypeId) (l : List (Int × Int)) (h : cs.toList = vpi l) : PrG (w.alloc (.cells cs t)) (w.alloc (.cells cs t)).heap.size (some ⟨w.heap.size, 0, none⟩) l :=
  PrG.of_heap (heap_alloc_new w _) (k := cs.toList.length) (by rw [List.take_length]; exact h)
theorem PrG.kept {w : World} {ad : Option Addr} {l : List (Int × Int)} (h : PrG w w.heap.size ad l) (o : Obj) : PrG (w.alloc o) (w.alloc o).heap.size ad l :=
  (h.below ((Below.refl _ w).alloc (Nat.le_refl _) o)).mono (by simp)
theorem SlAt.of_heap {w : World} {g : Nat} {cur : Array Value} {e : TypeId} {xs : List Value} {fz : Nat × Nat} (h : w.heap[g]? = some (.cells cur e fz)) {n : Nat} (ht : cur.toList.take n = xs) : SlAt w w.heap.size (some ⟨g, 0, none⟩) xs := by
  intro j x hx
  rw [← ht, List.getElem?_take] at hx
  refine ⟨g, 0, rfl, (Array.getElem?_eq_some_iff.1 h).1, ?_⟩
  split at hx
  · rw [Nat.zero_add, cell_of_row w g _ cur e fz h]; simpa using hx
  · cases hx
theorem SlAt.fresh (w : World) (cs : Array Value) (t : TypeId) (xs : List Value) (h : cs.toList = xs) : SlAt (w.alloc (.cells cs t)) (w.alloc (.cells cs t)).heap.size (some ⟨w.heap.size, 0, none⟩) xs :=
  SlAt.of_heap (heap_alloc_new w _) (n := cs.toList.length) (by rw [List.take_length]; exact h)
theorem SlAt.kept {w : World} {ad : Option Addr} {xs : List Value} (h : SlAt w w.heap.size ad xs) (o : Obj) : SlAt (w.alloc o) (w.alloc o).heap.size ad xs :=
  (h.below ((Below.refl _ w).alloc (Nat.le_refl _) o)).mono (by simp)
theorem owns_heap {w : World} {base e n : Nat} {v : Value} {xs : List Value} (h : w.ownsRow base e 1 v n xs) (hn : 0 < n) :
    ∃ g cap cur, v = .slice (some ⟨g, 0, none⟩) n cap ∧ base ≤ g ∧ w.heap[g]? = some (.cells cur e (0, 0)) ∧ cur.toList.take n = xs := by
  obtain ⟨_, ⟨rfl, h2⟩ | ⟨g, cap, cur, rfl, hb, hh, _, _, _, ht⟩⟩ := h
  · omega
  · exact ⟨g, cap, cur, rfl, hb, hh, by simpa using ht⟩

/-! The calls of 'awake' at their literals. -/
theorem ra_Then (w : World) (hT : Tab w) : Calls Tryd.prog 58 #[.agg (rcs 4 exR), .agg (rcs 4 exR)] w fun e w' => e = .returned (.tuple #[.agg (rcs 4 exT), .int .i64 0]) ∧ Below w.heap.size w w' := by
  have h := c_Then 4 4 exR exR w hT
  rw [ex_then] at h; exact h
theorem ra_Plus (w : World) (hT : Tab w) : Calls Tryd.prog 46 #[.agg (rcs 4 exR)] w fun e w' => e = .returned (.agg (rcs 4 exP)) ∧ Below w.heap.size w w' := by
  have h := c_Plus 4 exR w hT
  rw [ex_plusV] at h; exact h
theorem ra_Top1 (w : World) (hT : Tab w) : Calls Tryd.prog 49 #[.agg (rcs 4 exR)] w fun e w' => ∃ v, e = .returned (.tuple #[v, .bool false]) ∧ Below w.heap.size w w' := by
  have h := c_Top 4 exR w hT
  rw [ex_top1] at h
  exact h.mono fun e w' ⟨v, he, _, hb⟩ => ⟨v, he, hb⟩
theorem ra_Top2 (w : World) (hT : Tab w) : Calls Tryd.prog 49 #[.agg (rcs 4 exS)] w fun e w' => ∃ g cap cur, e = .returned (.tuple #[.slice (some ⟨g, 0, none⟩) 4 cap, .bool true]) ∧ w.heap.size ≤ g ∧ w'.heap[g]? = some (.cells cur 3 (0, 0)) ∧ cur.toList.take 4 = vi [0, 1, 2, 3] ∧ Below w.heap.size w w' := by
  have h := c_Top 4 exS w hT
  rw [ex_top2] at h
  refine h.mono fun e w' ⟨v, he, ho, hb⟩ => ?_
  obtain ⟨g, cap, cur, rfl, hg, hh, ht⟩ := owns_heap ho (by decide)
  exact ⟨g, cap, cur, he, hg, hh, ht, hb⟩
theorem ra_Pairs (w : World) (hT : Tab w) : Calls Tryd.prog 56 #[.agg (rcs 4 exT)] w fun e w' => ∃ ad cap, e = .returned (.slice ad 4 cap) ∧ PrG w' w'.heap.size ad [(0, 2), (1, 0), (1, 3), (2, 1)] ∧ Below w.heap.size w w' := by
  refine (c_Pairs2 4 exT 4 (by rw [ex_pairs]; rfl) w hT).mono fun e w' ⟨ad, cap, he, hp, hb⟩ => ⟨ad, cap, he, ?_, hb⟩
  rw [ex_pairs] at hp
  exact PrG.of hp
theorem ra_Has1 (w : World) : Calls Tryd.prog 47 #[.agg (rcs 4 exP), .int .i64 0, .int .i64 0] w fun e w' => e = .returned (.bool true) ∧ Below w.heap.size w w' := by
  have h := c_Has 4 exP 0 0 w
  rw [ex_has1] at h; exact h
theorem ra_Has2 (w : World) : Calls Tryd.prog 47 #[.agg (rcs 4 exP), .int .i64 0, .int .i64 3] w fun e w' => e = .returned (.bool true) ∧ Below w.heap.size w w' := by
  have h := c_Has 4 exP 0 3 w
  rw [ex_has2] at h; exact h
theorem ra_Has3 (w : World) : Calls Tryd.prog 47 #[.agg (rcs 4 exP), .int .i64 3, .int .i64 3] w fun e w' => e = .returned (.bool false) ∧ Below w.heap.size w w' := by
  have h := c_Has 4 exP 3 3 w
  rw [ex_has3] at h; exact h
theorem ra_Acy (w : World) (hT : Tab w) : Calls Tryd.prog 55 #[.agg (rcs 4 exR)] w fun e w' => e = .returned (.bool false) ∧ Below w.heap.size w w' := by
  have h := c_Acyclic 4 exR w hT
  rw [ex_top1] at h; exact h
theorem ra_Ring1 (w : World) (hT : Tab w) : Calls Tryd.prog 53 #[.agg (rcs 4 exR)] w fun e w' => ∃ ad cap, e = .returned (.slice ad 3 cap) ∧ SlAt w' w'.heap.size ad (vi [0, 1, 2]) ∧ Below w.heap.size w w' := by
  have h := c_Ring 4 exR w hT
  rw [ex_ring1] at h
  refine h.mono fun e w' ⟨v, he, ho, hb⟩ => ?_
  obtain ⟨ad, cap, rfl, hs⟩ := SlAt.of_owns ho
  exact ⟨ad, cap, he, hs, hb⟩
theorem ra_Ring2 (w : World) (hT : Tab w) : Calls Tryd.prog 53 #[.agg (rcs 3 exQ)] w fun e w' => ∃ ad cap, e = .returned (.slice ad 1 cap) ∧ SlAt w' w'.heap.size ad (vi [2]) ∧ Below w.heap.size w w' := by
  have h := c_Ring 3 exQ w hT
  rw [ex_ring2] at h
  refine h.mono fun e w' ⟨v, he, ho, hb⟩ => ?_
  obtain ⟨ad, cap, rfl, hs⟩ := SlAt.of_owns ho
  exact ⟨ad, cap, he, hs, hb⟩
theorem ra_of1 (ad : Option Addr) (cap : Nat) (w : World) (hp : PrG w w.heap.size ad [(0, 1), (1, 2), (2, 0), (2, 3)]) : Calls Tryd.prog 115 #[.int .i64 4, .slice ad 4 cap] w fun e w' => e = .returned (.agg (rcs 4 exR)) ∧ Below w.heap.size w w' :=
  c_of115 4 _ 4 rfl (by decide) (by decide +kernel) ad cap w hp
theorem ra_of2 (ad : Option Addr) (cap : Nat) (w : World) (hp : PrG w w.heap.size ad [(0, 1), (1, 2), (2, 3)]) : Calls Tryd.prog 115 #[.int .i64 4, .slice ad 3 cap] w fun e w' => e = .returned (.agg (rcs 4 exS)) ∧ Below w.heap.size w w' :=
  c_of115 4 _ 3 rfl (by decide) (by decide +kernel) ad cap w hp
theorem ra_of3 (ad : Option Addr) (cap : Nat) (w : World) (hp : PrG w w.heap.size ad [(0, 1), (1, 0), (2, 2)]) : Calls Tryd.prog 115 #[.int .i64 3, .slice ad 3 cap] w fun e w' => e = .returned (.agg (rcs 3 exQ)) ∧ Below w.heap.size w w' :=
  c_of115 3 _ 3 rfl (by decide) (by decide +kernel) ad cap w hp
theorem ra_Of (ad : Option Addr) (cap : Nat) (w : World) (hp : PrG w w.heap.size ad [(0, 2)]) : Calls Tryd.prog 70 #[.int .i64 2, .slice ad 1 cap] w fun e w' => e = .returned (.tuple #[.agg (rcs 0 fun _ => 0#64), .int .i64 2]) ∧ Below w.heap.size w w' := by
  have h := c_ROf 2 [(0, 2)] 1 rfl (by decide) ad cap w hp
  rw [show ofV 2 [(0, 2)] = .tuple #[.agg (rcs 0 fun _ => 0#64), .int .i64 2] by unfold ofV; rw [if_neg (by decide +kernel)]] at h
  exact h

theorem ra_Ints (xs : List Int) (n : Nat) (hn : xs.length = n) (hm : n ≤ maxLen) (ad bd : Option Addr) (ca cb : Nat) (w : World) (hx : SlAt w w.heap.size ad (vi xs)) (hy : SlAt w w.heap.size bd (vi xs)) :
    Calls Tryd.prog 29 #[.slice ad n ca, .slice bd n cb] w fun e w' => e = .returned (.bool true) ∧ Below w.heap.size w w' :=
  (c_Ints ad bd n n ca cb xs xs w _ hn hn hm hx hy).mono fun e w' ⟨he, k, hk⟩ => ⟨by rw [he, beq_self_eq_true], hk ▸ below_drewN (Below.refl _ _) k⟩

set_option maxRecDepth 8000 in
set_option maxHeartbeats 4000000 in
theorem c_awake2 (w : World) (hT : Tab w) : Calls Tryd.prog 57 #[] w fun e w' => e = .returned (.bool true) ∧ Below w.heap.size w w' := by
  have HT := Lib.hid hT
  have hS := Sk.of (St.refl w)
  clear hT
  go_enter Tryd.func57, Tryd.ntmps57
  go_wp2_with (first
    | (refine wpList_allocK hS rfl rfl ?_; clear hS; intro bS wS hS) | (refine wpList_build_rel0 rfl rfl ?_) | (refine wpList_build_rel1 rfl _ rfl _ rfl ?_) | (refine wpList_loadK 0 hS _ rfl rfl rfl (by rfl) ?_) | (refine wpList_loadK 1 hS _ rfl rfl rfl (by rfl) ?_) | (refine wpList_loadK 2 hS _ rfl rfl rfl (by rfl) ?_) | (refine wpList_loadK 3 hS _ rfl rfl rfl (by rfl) ?_) | (refine wpList_loadK 4 hS _ rfl rfl rfl (by rfl) ?_) | (refine wpList_loadK 5 hS _ rfl rfl rfl (by rfl) ?_) | (refine wpList_loadNK 0 hS _ rfl rfl rfl (by rfl) ?_) | (refine wpList_loadNK 1 hS _ rfl rfl rfl (by rfl) ?_) | (refine wpList_loadNK 2 hS _ rfl rfl rfl (by rfl) ?_) | (refine wpList_loadNK 3 hS _ rfl rfl rfl (by rfl) ?_) | (refine wpList_loadNK 4 hS _ rfl rfl rfl (by rfl) ?_) | (refine wpList_loadNK 5 hS _ rfl rfl rfl (by rfl) ?_) | (refine wpList_storeK 0 hS _ _ rfl rfl rfl rfl rfl ?_; clear hS; intro wS hS; (first | simp only [List.set_cons_zero] at hS | simp only [List.set_cons_succ, List.set_cons_zero] at hS)) | (refine wpList_storeK 1 hS _ _ rfl rfl rfl rfl rfl ?_; clear hS; intro wS hS; (first | simp only [List.set_cons_zero] at hS | simp only [List.set_cons_succ, List.set_cons_zero] at hS)) | (refine wpList_storeK 2 hS _ _ rfl rfl rfl rfl rfl ?_; clear hS; intro wS hS; (first | simp only [List.set_cons_zero] at hS | simp only [List.set_cons_succ, List.set_cons_zero] at hS)) | (refine wpList_storeK 3 hS _ _ rfl rfl rfl rfl rfl ?_; clear hS; intro wS hS; (first | simp only [List.set_cons_zero] at hS | simp only [List.set_cons_succ, List.set_cons_zero] at hS)) | (refine wpList_storeK 4 hS _ _ rfl rfl rfl rfl rfl ?_; clear hS; intro wS hS; (first | simp only [List.set_cons_zero] at hS | simp only [List.set_cons_succ, List.set_cons_zero] at hS)) | (refine wpList_storeK 5 hS _ _ rfl rfl rfl rfl rfl ?_; clear hS; intro wS hS; (first | simp only [List.set_cons_zero] at hS | simp only [List.set_cons_succ, List.set_cons_zero] at hS)) | (refine wpList_storeNK 0 hS _ _ rfl rfl rfl rfl (by rfl) ?_; clear hS; intro wS hS; (first | simp only [List.set_cons_zero] at hS | simp only [List.set_cons_succ, List.set_cons_zero] at hS)) | (refine wpList_storeNK 1 hS _ _ rfl rfl rfl rfl (by rfl) ?_; clear hS; intro wS hS; (first | simp only [List.set_cons_zero] at hS | simp only [List.set_cons_succ, List.set_cons_zero] at hS)) | (refine wpList_storeNK 2 hS _ _ rfl rfl rfl rfl (by rfl) ?_; clear hS; intro wS hS; (first | simp only [List.set_cons_zero] at hS | simp only [List.set_cons_succ, List.set_cons_zero] at hS)) | (refine wpList_storeNK 3 hS _ _ rfl rfl rfl rfl (by rfl) ?_; clear hS; intro wS hS; (first | simp only [List.set_cons_zero] at hS | simp only [List.set_cons_succ, List.set_cons_zero] at hS)) | (refine wpList_storeNK 4 hS _ _ rfl rfl rfl rfl (by rfl) ?_; clear hS; intro wS hS; (first | simp only [List.set_cons_zero] at hS | simp only [List.set_cons_succ, List.set_cons_zero] at hS)) | (refine wpList_storeNK 5 hS _ _ rfl rfl rfl rfl (by rfl) ?_; clear hS; intro wS hS; (first | simp only [List.set_cons_zero] at hS | simp only [List.set_cons_succ, List.set_cons_zero] at hS)) | (refine wpList_eqlK _ _ _ rfl rfl rfl (by rfl) ?_) | (refine wpList_neqK _ _ _ rfl rfl rfl (by rfl) ?_)
    | (go_at_call 115; (with_reducible refine (ra_of1 _ _ _ (by exact PrG.new _ _ _ _ rfl)).mono ?_); rintro e wS ⟨rfl, hb⟩; have hS2 := (hS.allocO _).over hb; clear hS hb; have hS := hS2; clear hS2)
    | (go_at_call 115; (with_reducible refine (ra_of2 _ _ _ (by exact PrG.new _ _ _ _ rfl)).mono ?_); rintro e wS ⟨rfl, hb⟩; have hS2 := (hS.allocO _).over hb; clear hS hb; have hS := hS2; clear hS2)
    | (go_at_call 115; (with_reducible refine (ra_of3 _ _ _ (by exact PrG.new _ _ _ _ rfl)).mono ?_); rintro e wS ⟨rfl, hb⟩; have hS2 := (hS.allocO _).over hb; clear hS hb; have hS := hS2; clear hS2)
    | (go_at_call 70; (with_reducible refine (ra_Of _ _ _ (by exact PrG.new _ _ _ _ rfl)).mono ?_); rintro e wS ⟨rfl, hb⟩; have hS2 := (hS.allocO _).over hb; clear hS hb; have hS := hS2; clear hS2)
    | (go_at_call 58; (with_reducible refine (ra_Then _ (hS.tab HT.out)).mono ?_); rintro e wS ⟨rfl, hb⟩; have hS2 := hS.over hb; clear hS hb; have hS := hS2; clear hS2)
    | (go_at_call 46; (with_reducible refine (ra_Plus _ (hS.tab HT.out)).mono ?_); rintro e wS ⟨rfl, hb⟩; have hS2 := hS.over hb; clear hS hb; have hS := hS2; clear hS2)
    | (go_at_call 49; (with_reducible refine (ra_Top1 _ (hS.tab HT.out)).mono ?_); rintro e wS ⟨vt, rfl, hb⟩; have hS2 := hS.over hb; clear hS hb; have hS := hS2; clear hS2)
    | (go_at_call 49; (with_reducible refine (ra_Top2 _ (hS.tab HT.out)).mono ?_); rintro e wS ⟨gT, capT, curT, rfl, hg, hh, ht, hb⟩; have hS2 := hS.got hb hg hh; have HTT := Lib.hid ht; clear hS hb hg hh ht; have hS := hS2; clear hS2)
    | (go_at_call 56; (with_reducible refine (ra_Pairs _ (hS.tab HT.out)).mono ?_); rintro e wS ⟨adP, capP, rfl, hp, hb⟩; have HPP := Lib.hid hp; clear hp; have hS2 := hS.over hb; clear hS hb; have hS := hS2; clear hS2)
    | (go_at_call 90; (with_reducible refine (c_Pairs90 [(0, 2), (1, 0), (1, 3), (2, 1)] [(0, 2), (1, 0), (1, 3), (2, 1)] 4 4 rfl rfl (by decide) _ _ _ _ _ _ (by exact HPP.out.kept _) (by exact PrG.new _ _ _ _ rfl)).mono ?_); rintro e wS ⟨he, hb⟩; rw [beq_self_eq_true] at he; subst he; have hS2 := (hS.allocO _).over hb; clear hS hb; have hS := hS2; clear hS2)
    | (go_at_call 47; (with_reducible refine (ra_Has1 _).mono ?_); rintro e wS ⟨rfl, hb⟩; have hS2 := hS.over hb; clear hS hb; have hS := hS2; clear hS2)
    | (go_at_call 47; (with_reducible refine (ra_Has2 _).mono ?_); rintro e wS ⟨rfl, hb⟩; have hS2 := hS.over hb; clear hS hb; have hS := hS2; clear hS2)
    | (go_at_call 47; (with_reducible refine (ra_Has3 _).mono ?_); rintro e wS ⟨rfl, hb⟩; have hS2 := hS.over hb; clear hS hb; have hS := hS2; clear hS2)
    | (go_at_call 55; (with_reducible refine (ra_Acy _ (hS.tab HT.out)).mono ?_); rintro e wS ⟨rfl, hb⟩; have hS2 := hS.over hb; clear hS hb; have hS := hS2; clear hS2)
    | (go_at_call 53; (with_reducible refine (ra_Ring1 _ (hS.tab HT.out)).mono ?_); rintro e wS ⟨adR, capR, rfl, hp, hb⟩; have HRR := Lib.hid hp; clear hp; have hS2 := hS.over hb; clear hS hb; have hS := hS2; clear hS2)
    | (go_at_call 53; (with_reducible refine (ra_Ring2 _ (hS.tab HT.out)).mono ?_); rintro e wS ⟨adR, capR, rfl, hp, hb⟩; have HRR := Lib.hid hp; clear hp; have hS2 := hS.over hb; clear hS hb; have hS := hS2; clear hS2)
    | (go_at_call 29; (with_reducible refine (ra_Ints [0, 1, 2] 3 rfl (by decide) _ _ _ _ _ (by exact HRR.out.kept _) (by exact SlAt.fresh _ _ _ _ rfl)).mono ?_); rintro e wS ⟨rfl, hb⟩; have hS2 := (hS.allocO _).over hb; clear hS hb; have hS := hS2; clear hS2)
    | (go_at_call 29; (with_reducible refine (ra_Ints [0, 1, 2, 3] 4 rfl (by decide) _ _ _ _ _ (by exact SlAt.of_heap ((hS.allocO _).keep _ List.mem_cons_self) HTT.out) (by exact SlAt.fresh _ _ _ _ rfl)).mono ?_); rintro e wS ⟨rfl, hb⟩; have hS2 := (hS.allocO _).over hb; clear hS hb; have hS := hS2; clear hS2)
    | (go_at_call 29; (with_reducible refine (ra_Ints [2] 1 rfl (by decide) _ _ _ _ _ (by exact HRR.out.kept _) (by exact SlAt.fresh _ _ _ _ rfl)).mono ?_); rintro e wS ⟨rfl, hb⟩; have hS2 := (hS.allocO _).over hb; clear hS hb; have hS := hS2; clear hS2))
  go_ret
  exact ⟨rfl, hS.st.bel⟩
end Go.Proofs.YtgegmoedgegkcaaDoor
