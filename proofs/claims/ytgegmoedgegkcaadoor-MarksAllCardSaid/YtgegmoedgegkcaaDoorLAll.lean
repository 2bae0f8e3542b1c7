/-
  seisinlaw01.MarksAll returns true for every int, every list of ints and every byte, if the library table is laid.
-/
import Derived.Test.YtgegmoedgegkcaaDoorLTells
import Derived.Test.YtgegmoedgegkcaaDoorApp
import Derived.Test.YtgegmoedgegkcaaDoorCalm
namespace Go.Proofs.YtgegmoedgegkcaaDoor
open Go.RowKit

theorem mof_bad {l : List Int} {x : Int} (hx : x ∈ l) (h : okI x = false) : mof l = none := by
  unfold mof
  rw [if_neg]
  intro ha
  have := List.all_eq_true.1 ha x hx
  rw [h] at this; cases this
theorem c_Of_none (ad : Option Addr) (n c : Nat) (xs : List Int) (w : World) (N : Nat) (hn : xs.length = n) (hmax : n ≤ maxLen) (hx : SlAt w N ad (vi xs)) (h : mof xs = none) :
    Calls Tryd.prog 25 #[.slice ad n c] w fun e w' => e = .returned (.tuple #[.int .u64 0, .int .i64 2]) ∧ w = w' := by
  have h1 := c_Of ad n c xs w N hn hmax hx
  rw [h] at h1
  exact h1
theorem vi_ins (xs : List Int) (k : Nat) (x : Int) : (vi xs).take k ++ ([Value.int .i64 x] ++ (vi xs).drop k) = vi (xs.take k ++ (x :: xs.drop k)) := by
  simp [vi, List.map_take, List.map_drop]
theorem vi_set (xs : List Int) (k : Nat) (x : Int) : (vi xs).set k (.int .i64 x) = vi (xs.set k x) := by
  simp [vi, List.map_set]
theorem vi_one (xs : List Int) : ∀ u ∈ vi xs, u.oneCell' = true := by simp [vi, Value.oneCell']
theorem mem_set_self {l : List Int} {k : Nat} (hk : k < l.length) (x : Int) : x ∈ l.set k x := by
  rw [List.mem_iff_getElem]
  exact ⟨k, by simpa using hk, by simp⟩
/-- What the walk needs of the list with the wrong element. -/
theorem bad_facts (xs : List Int) (m k : Nat) (hn : xs.length = m) (hk : k ≤ m) (l3 : List Int) (h3 : l3 = xs.take k ++ ((64 + (k : Int)) :: xs.drop k)) :
    l3.length = k + (1 + (m - k)) ∧ k < l3.length ∧ l3[k]? = some (64 + (k : Int)) ∧ mof l3 = none ∧ mof (l3.set k (-1 - (k : Int))) = none := by
  have hl : l3.length = k + (1 + (m - k)) := by subst h3; simp; omega
  refine ⟨hl, by omega, ?_, ?_, ?_⟩
  · subst h3
    rw [List.getElem?_append_right (by simp; omega)]
    rw [List.length_take, hn, Nat.min_eq_left hk, Nat.sub_self]; rfl
  · exact mof_bad (x := 64 + (k : Int)) (by subst h3; simp) (by unfold okI; rw [decide_eq_false (p := (64 : Int) + k < 64) (by omega), Bool.and_false])
  · exact mof_bad (mem_set_self (by omega) _) (by unfold okI; rw [decide_eq_false (p := (0 : Int) ≤ -1 - k) (by omega), Bool.false_and])

set_option maxRecDepth 8000 in
set_option maxHeartbeats 2000000 in
theorem all_big_a (n : Int) (ad : Option Addr) (m c : Nat) (a : Int) (w : World) (hT : Tab w) (hn0 : 0 ≤ n) (hn1 : n < 64) (h1 : (Mk.elems (mall n)).length = n.toNat) (h2 : mall (n + 1) = mall n ||| 1#64 <<< n.toNat) (hbig : 50 < m) (hm : m ≤ 9223372036854775807) :
    Calls Tryd.prog 10 #[.int .i64 n, .slice ad m c, .int .u8 a] w fun e w' => e = .returned (.bool true) ∧ Below w.heap.size w w' := by
  have hB := Below.refl w.heap.size w
  have hl := fun w hT => c_Len (mall n) w hT
  rw [h1, Int.toNat_of_nonneg hn0] at hl
  have HL := Lib.hid hl
  have ha := fun w => c_All (n + 1) w
  rw [h2] at ha
  have HA := Lib.hid ha
  have hmx : (if n < 0 then (0 : Int) else n) = n := if_neg (by omega)
  have hmn : (if 64 < n then (64 : Int) else n) = n := if_neg (by omega)
  have hwr : IntKind.i64.wrap (n + 1) = n + 1 := by rw [IntKind.wrap_i64]; omega
  have HX := Lib.hid hmx
  have HN := Lib.hid hmn
  have HW := Lib.hid hwr
  clear h1 h2 hl ha hmx hmn hwr
  go_enter Tryd.func10, Tryd.ntmps10
  go_wp2_with ((go_at_call 27; (with_reducible refine (c_All _ _).mono ?_); rintro e wn ⟨rfl, rfl⟩))
  have HT := Lib.hid hT
  have hmx := HX.out
  have hmn := HN.out
  have hwr := HW.out
  (refine wp_region_calm (by kernel_rfl) (by kernel_rfl) ?_; (repeat ((refine calm_step (fun K hK => ?_)); go_simp; (first | (refine hK _ ?_; clear hK K) | (refine Calm.of ?_; apply Exists.intro; refine ⟨fun wcalm hcalm => ?_, hK _ ?_⟩; (focus ((skip); go_simp; first | done | (first | (go_at_call 32; with_reducible exact calm_below hcalm (HL.out _ (Tab.below' hcalm HT.out))) | (go_at_call 27; with_reducible exact calm_same hcalm (HA.out _))) | rfl)); clear hK K)))); refine calm_nil ?_; intro wq hq)
  clear hmx hmn hwr
  have hT := Tab.below' hq HT.out
  have hB := Below.chain hB hq
  clear HT
  go_wp2_with ((go_at_call 24; (with_reducible refine (c_awake1 _ (by assumption)).mono ?_); rintro e wn ⟨rfl, hb⟩; have hT := Tab.below' hb (by assumption); have hB := Below.chain (by assumption : Below w.heap.size w _) hb; clear hb))
  go_ret
  exact ⟨rfl, by assumption⟩

set_option maxRecDepth 8000 in
set_option maxHeartbeats 2000000 in
theorem all_big_b (n : Int) (ad : Option Addr) (m c : Nat) (a : Int) (w : World) (hT : Tab w) (hn0 : n < 0) (h1 : (Mk.elems (mall n)).length = 0) (hbig : 50 < m) (hm : m ≤ 9223372036854775807) :
    Calls Tryd.prog 10 #[.int .i64 n, .slice ad m c, .int .u8 a] w fun e w' => e = .returned (.bool true) ∧ Below w.heap.size w w' := by
  have hB := Below.refl w.heap.size w
  have hl := fun w hT => c_Len (mall n) w hT
  rw [h1] at hl
  have HL := Lib.hid hl
  have hmx : (if n < 0 then (0 : Int) else n) = 0 := if_pos (by omega)
  have HX := Lib.hid hmx
  clear h1 hl hmx
  go_enter Tryd.func10, Tryd.ntmps10
  go_wp2_with ((go_at_call 27; (with_reducible refine (c_All _ _).mono ?_); rintro e wn ⟨rfl, rfl⟩))
  have HT := Lib.hid hT
  have hmx := HX.out
  have hd1 : decide (n < 64) = true := decide_eq_true (by omega)
  have hd2 : decide (0 ≤ n) = false := decide_eq_false (by omega)
  (refine wp_region_calm (by kernel_rfl) (by kernel_rfl) ?_; (repeat ((refine calm_step (fun K hK => ?_)); go_simp; (first | (refine hK _ ?_; clear hK K) | (refine Calm.of ?_; apply Exists.intro; refine ⟨fun wcalm hcalm => ?_, hK _ ?_⟩; (focus ((skip); go_simp; first | done | (first | (go_at_call 32; with_reducible exact calm_below hcalm (HL.out _ (Tab.below' hcalm HT.out)))) | rfl)); clear hK K)))); refine calm_nil ?_; intro wq hq)
  clear hmx hd1 hd2
  have hT := Tab.below' hq HT.out
  have hB := Below.chain hB hq
  clear HT
  go_wp2_with ((go_at_call 24; (with_reducible refine (c_awake1 _ (by assumption)).mono ?_); rintro e wn ⟨rfl, hb⟩; have hT := Tab.below' hb (by assumption); have hB := Below.chain (by assumption : Below w.heap.size w _) hb; clear hb))
  go_ret
  exact ⟨rfl, by assumption⟩

set_option maxRecDepth 8000 in
set_option maxHeartbeats 2000000 in
theorem all_big_c (n : Int) (ad : Option Addr) (m c : Nat) (a : Int) (w : World) (hT : Tab w) (hn0 : 64 ≤ n) (h1 : (Mk.elems (mall n)).length = 64) (hbig : 50 < m) (hm : m ≤ 9223372036854775807) :
    Calls Tryd.prog 10 #[.int .i64 n, .slice ad m c, .int .u8 a] w fun e w' => e = .returned (.bool true) ∧ Below w.heap.size w w' := by
  have hB := Below.refl w.heap.size w
  have hl := fun w hT => c_Len (mall n) w hT
  rw [h1] at hl
  have HL := Lib.hid hl
  have hmx : (if n < 0 then (0 : Int) else n) = n := if_neg (by omega)
  have hmn : (if 64 < n then (64 : Int) else n) = 64 := by
    by_cases h : 64 < n
    · exact if_pos h
    · rw [if_neg h]; omega
  have HX := Lib.hid hmx
  have HN := Lib.hid hmn
  clear h1 hl hmx hmn
  go_enter Tryd.func10, Tryd.ntmps10
  go_wp2_with ((go_at_call 27; (with_reducible refine (c_All _ _).mono ?_); rintro e wn ⟨rfl, rfl⟩))
  have HT := Lib.hid hT
  have hmx := HX.out
  have hmn := HN.out
  have hd1 : decide (n < 64) = false := decide_eq_false (by omega)
  (refine wp_region_calm (by kernel_rfl) (by kernel_rfl) ?_; (repeat ((refine calm_step (fun K hK => ?_)); go_simp; (first | (refine hK _ ?_; clear hK K) | (refine Calm.of ?_; apply Exists.intro; refine ⟨fun wcalm hcalm => ?_, hK _ ?_⟩; (focus ((skip); go_simp; first | done | (first | (go_at_call 32; with_reducible exact calm_below hcalm (HL.out _ (Tab.below' hcalm HT.out)))) | rfl)); clear hK K)))); refine calm_nil ?_; intro wq hq)
  clear hmx hmn hd1
  have hT := Tab.below' hq HT.out
  have hB := Below.chain hB hq
  clear HT
  go_wp2_with ((go_at_call 24; (with_reducible refine (c_awake1 _ (by assumption)).mono ?_); rintro e wn ⟨rfl, hb⟩; have hT := Tab.below' hb (by assumption); have hB := Below.chain (by assumption : Below w.heap.size w _) hb; clear hb))
  go_ret
  exact ⟨rfl, by assumption⟩

set_option maxRecDepth 8000 in
set_option maxHeartbeats 2000000 in
theorem all_small_a (n : Int) (ad : Option Addr) (m c : Nat) (a : Int) (k : Nat) (xs : List Int) (w : World) (hT : Tab w) (hn0 : 0 ≤ n) (hn1 : n < 64) (h1 : (Mk.elems (mall n)).length = n.toNat) (h2 : mall (n + 1) = mall n ||| 1#64 <<< n.toNat) (hn : xs.length = m) (hsm : ¬ 50 < m) (hsl : SlAt w w.heap.size ad (vi xs))
    (hk : k ≤ m) (ha : a % ((m : Int) + 1) = k) (ha0 : 0 ≤ a) (ha1 : a ≤ 255) :
    Calls Tryd.prog 10 #[.int .i64 n, .slice ad m c, .int .u8 a] w fun e w' => e = .returned (.bool true) ∧ Below w.heap.size w w' := by
  have hB := Below.refl w.heap.size w
  obtain ⟨i0, hi, hz0, hz1, hz2⟩ := info_parts Tryd.info3
  have HSL := Lib.hid hsl
  have HAM := Lib.hid ha
  have HXL := Lib.hid hn
  have HT0 := Lib.hid hT
  have hl := fun w hT => c_Len (mall n) w hT
  rw [h1, Int.toNat_of_nonneg hn0] at hl
  have HL := Lib.hid hl
  have ha := fun w => c_All (n + 1) w
  rw [h2] at ha
  have HA := Lib.hid ha
  have hmx : (if n < 0 then (0 : Int) else n) = n := if_neg (by omega)
  have hmn : (if 64 < n then (64 : Int) else n) = n := if_neg (by omega)
  have hwr : IntKind.i64.wrap (n + 1) = n + 1 := by rw [IntKind.wrap_i64]; omega
  have HX := Lib.hid hmx
  have HN := Lib.hid hmn
  have HW := Lib.hid hwr
  clear h1 h2 hl ha hmx hmn hwr
  clear hsl ha hn
  go_enter Tryd.func10, Tryd.ntmps10
  go_wp2_with ((go_at_call 27; (with_reducible refine (c_All _ _).mono ?_); rintro e wn ⟨rfl, rfl⟩))
  have HT := Lib.hid hT
  have hmx := HX.out
  have hmn := HN.out
  have hwr := HW.out
  (refine wp_region_calm (by kernel_rfl) (by kernel_rfl) ?_; (repeat ((refine calm_step (fun K hK => ?_)); go_simp; (first | (refine hK _ ?_; clear hK K) | (refine Calm.of ?_; apply Exists.intro; refine ⟨fun wcalm hcalm => ?_, hK _ ?_⟩; (focus ((skip); go_simp; first | done | (first | (go_at_call 32; with_reducible exact calm_below hcalm (HL.out _ (Tab.below' hcalm HT.out))) | (go_at_call 27; with_reducible exact calm_same hcalm (HA.out _))) | rfl)); clear hK K)))); refine calm_nil ?_; intro wq hq)
  clear hmx hmn hwr
  have hT := Tab.below' hq HT.out
  have hB := Below.chain hB hq
  clear HT
  have HS := Lib.hid (HSL.out.below hB)
  have ham := HAM.out
  have hsz := hB.size
  have HBA := Lib.hid (hB.alloc hB.size (.cells #[] 3))
  have HSZ := Lib.hid (show w.heap.size ≤ (wq.alloc (.cells #[] 3)).heap.size by simp; omega)
  have HOB := Lib.hid (show ∀ j, Value.ownBlock (.slice (some ⟨wq.heap.size, 0, none⟩) 0 0) = some j → w.heap.size ≤ j from fun j e => by simp [Value.ownBlock] at e; omega)
  go_wp2_with (at_builtin; refine wpList_append_sl _ rfl _ _ 24 rfl wq.heap.size 3 i0 _ 8 Tryd.underlying24 hi hz0 hz1 hz2 rfl _ 0 [] rfl (World.ownsRow_lit (base := wq.heap.size) wq #[] 0 (Nat.le_refl _) (by unfold maxLen; omega) rfl) ad m c wq.heap.size (vi xs) rfl (by rw [vi_len]; exact HXL.out) ((HS.out.mono hB.size).below ((Below.refl _ _).alloc (Nat.le_refl _) _)) (by simp [vi, Value.oneCell']) (by unfold maxLen; omega) (by omega) (by simp) ?_; intro v' w1 hown hgrow hne; obtain ⟨g, cap, rfl, hcap, hcm, hbg, hgs, hs1, hfz⟩ := owns_form hown (fun h => by cases hne h); have HB1 := Lib.hid (HBA.out.grown hgrow HSZ.out HOB.out); have HS1 := Lib.hid hs1; have HF1 := Lib.hid hfz; clear hown hgrow hne hs1 hfz)
  have hA : SlAt w1 w1.heap.size (if cap = k then some (⟨g, 0, none⟩ : Addr) else some ⟨g, k, none⟩) ((vi xs).drop k) := by
    split
    · rw [List.drop_eq_nil_of_le (by rw [vi_len, HXL.out]; omega)]; exact SlAt.nil _ _ _
    · have := HS1.out.drop k; rwa [Nat.zero_add] at this
  obtain ⟨A, hAe, hAs⟩ : ∃ A, (if cap = k then some (⟨g, 0, none⟩ : Addr) else some ⟨g, k, none⟩) = A ∧ SlAt w1 w1.heap.size A ((vi xs).drop k) := ⟨_, rfl, hA⟩
  have HAE := Lib.hid hAe
  have HAS := Lib.hid hAs
  clear hA hAe hAs
  have hkc : k ≤ cap := by omega
  have hwk : IntKind.i64.wrap (64 + (k : Int)) = 64 + k := by rw [IntKind.wrap_i64]; omega
  have HO1 := Lib.hid (show ((w1.alloc (.cells #[.int .i64 (64 + (k : Int))] 3)).drew).ownsRow w1.heap.size 3 1 (.slice (some ⟨w1.heap.size, 0, none⟩) 1 1) 1 [.int .i64 (64 + (k : Int))] from
    World.ownsRow_lit (base := w1.heap.size) (e := 3) (size := 1) w1 #[.int .i64 (64 + (k : Int))] 1 (Nat.le_refl _) (by unfold maxLen; omega) rfl)
  have HBX := Lib.hid (show Below w1.heap.size w1 ((w1.alloc (.cells #[.int .i64 (64 + (k : Int))] 3)).drew) from below_drewN ((Below.refl w1.heap.size w1).alloc (Nat.le_refl _) _) 1)
  have HAS1 := Lib.hid (HAS.out.below HBX.out)
  have HDL := Lib.hid (show ((vi xs).drop k).length = m - k by rw [List.length_drop, vi_len, HXL.out])
  have HTL := Lib.hid (show ((vi xs).take k).length = k by rw [List.length_take, vi_len, HXL.out]; omega)
  have HO := Lib.hid (vi_one xs)
  have HSZ1 := Lib.hid (show w1.heap.size ≤ ((w1.alloc (.cells #[.int .i64 (64 + (k : Int))] 3)).drew).heap.size from HBX.out.size)
  have HOB1 := Lib.hid (show ∀ j, Value.ownBlock (.slice (some ⟨w1.heap.size, 0, none⟩) 1 1) = some j → w1.heap.size ≤ j from fun j e => by simp [Value.ownBlock] at e; omega)
  have HST := Lib.hid (show SlAt w1 w1.heap.size (some ⟨g, 0, none⟩) ((vi xs).take k) from HS1.out.take k)
  clear hT hB
  go_region_law (first
    | (refine step_append_sl rfl (.tmp 59) (.tmp 62) 24 rfl w1.heap.size 3 i0 (.int .i64 0) 8 Tryd.underlying24 hi hz0 hz1 hz2 rfl (.slice (some ⟨w1.heap.size, 0, none⟩) 1 1) 1 [.int .i64 (64 + (k : Int))] (by simp [Act.eval]) HO1.out A (m - k) (cap - k) w1.heap.size ((vi xs).drop k) (by simp [Act.eval]; exact HAE.out) HDL.out HAS1.out (fun u hu => HO.out u (List.mem_of_mem_drop hu)) (by unfold maxLen; omega) (by omega) HSZ1.out ?_; intro v2 w2 hown2 hgrow2; obtain ⟨ad2, cap2, rfl, hs2⟩ := SlAt.of_owns hown2; have HS2 := Lib.hid hs2; have HB2 := Lib.hid (HBX.out.grown hgrow2 HSZ1.out HOB1.out); have HL2 := Lib.hid hown2.1; clear hs2 hown2 hgrow2)
    | (refine step_append_full rfl (.tmp 56) (.tmp 63) 24 rfl 3 i0 (.int .i64 0) 8 Tryd.underlying24 hi hz0 hz1 hz2 rfl (some ⟨g, 0, none⟩) k w1.heap.size ((vi xs).take k) (by simp [Act.eval]) HTL.out (HST.out.below HB2.out) ad2 (1 + (m - k)) cap2 w2.heap.size ([.int .i64 (64 + (k : Int))] ++ (vi xs).drop k) (by simp [Act.eval]) (by rw [HL2.out]; omega) HS2.out (fun u hu => by rcases List.mem_append.1 hu with h | h; (· simp at h; subst h; rfl); (· exact HO.out u (List.mem_of_mem_drop h))) (by omega) (by unfold maxLen; omega) (by omega) ?_; intro v3 w3 hown3 hgrow3; obtain ⟨g3, cap3, rfl, hcap3, hcm3, hbg3, hgs3, hs3, hf3⟩ := owns_form_pos hown3 (by omega); have HS3 := Lib.hid hs3; have HF3 := Lib.hid hf3; have HB3 := Lib.hid ((Below.refl w2.heap.size w2).grown hgrow3 (Nat.le_refl _) (fun j e => by cases e)); clear hs3 hf3 hown3 hgrow3))
  obtain ⟨l3, hl3⟩ : ∃ l3 : List Int, l3 = xs.take k ++ ((64 + (k : Int)) :: xs.drop k) := ⟨_, rfl⟩
  have hins := vi_ins xs k (64 + (k : Int))
  rw [← hl3] at hins
  have HS3' := HS3.out
  rw [hins] at HS3'
  obtain ⟨hln, hkl, hgk, hm3, hm4⟩ := bad_facts xs m k HXL.out hk l3 hl3
  have hc3 := (HS3'.cell (j := k) (by rw [vi_len]; exact hkl)).2
  rw [Nat.zero_add] at hc3
  have hvk : (vi l3)[k]'(by rw [vi_len]; exact hkl) = .int .i64 (64 + (k : Int)) := by
    have h1 : (vi l3)[k]? = some (.int .i64 (64 + (k : Int))) := by simp [vi, hgk]
    exact (List.getElem?_eq_some_iff.1 h1).2
  rw [hvk] at hc3
  have hfk := HF3.out k
  have HOF3 := Lib.hid (c_Of_none (some ⟨g3, 0, none⟩) (k + (1 + (m - k))) cap3 l3 w3 w3.heap.size hln (by unfold maxLen; omega) HS3' hm3)
  have hset := HS3'.setCell (k := k) (by rw [vi_len]; exact hkl) (.int .i64 (-1 - (k : Int)))
  rw [vi_set] at hset
  have HOF4 := Lib.hid (c_Of_none (some ⟨g3, 0, none⟩) (k + (1 + (m - k))) cap3 (l3.set k (-1 - (k : Int))) (w3.setCell ⟨g3, k, none⟩ (.int .i64 (-1 - (k : Int)))) w3.heap.size (by simpa using hln) (by unfold maxLen; omega) hset hm4)
  have hb4 : Below w.heap.size w (w3.setCell ⟨g3, k, none⟩ (.int .i64 (-1 - (k : Int)))) := by
    have h1 := HB1.out
    have h2 := Below.chain (Below.chain h1 HB2.out) HB3.out
    exact h2.setCell (by have h5 := h1.size; have h6 := HB2.out.size; show w.heap.size ≤ g3; omega) _
  have HB4 := Lib.hid hb4
  have HT4 := Lib.hid (Tab.below' hb4 HT0.out)
  have hwm : IntKind.i64.wrap (-1 - (k : Int)) = -1 - k := by rw [IntKind.wrap_i64]; omega
  have hkk : k < k + (1 + (m - k)) := by omega
  clear hl3 hins HS3' hln hkl hgk hm3 hm4 hvk hset hb4 hwk
  go_wp2_with (first
    | (go_at_call 25; (with_reducible refine HOF3.out.mono ?_); rintro e wn ⟨rfl, rfl⟩)
    | (go_at_call 25; (with_reducible refine HOF4.out.mono ?_); rintro e wn ⟨rfl, rfl⟩)
    | (go_at_call 24; (with_reducible refine (c_awake1 _ HT4.out).mono ?_); rintro e wn ⟨rfl, hb⟩; have hB5 := Below.chain HB4.out hb; clear hb))
  all_goals go_ret
  all_goals exact ⟨rfl, by assumption⟩

set_option maxRecDepth 8000 in
set_option maxHeartbeats 2000000 in
theorem all_small_b (n : Int) (ad : Option Addr) (m c : Nat) (a : Int) (k : Nat) (xs : List Int) (w : World) (hT : Tab w) (hn0 : n < 0) (h1 : (Mk.elems (mall n)).length = 0) (hn : xs.length = m) (hsm : ¬ 50 < m) (hsl : SlAt w w.heap.size ad (vi xs))
    (hk : k ≤ m) (ha : a % ((m : Int) + 1) = k) (ha0 : 0 ≤ a) (ha1 : a ≤ 255) :
    Calls Tryd.prog 10 #[.int .i64 n, .slice ad m c, .int .u8 a] w fun e w' => e = .returned (.bool true) ∧ Below w.heap.size w w' := by
  have hB := Below.refl w.heap.size w
  obtain ⟨i0, hi, hz0, hz1, hz2⟩ := info_parts Tryd.info3
  have HSL := Lib.hid hsl
  have HAM := Lib.hid ha
  have HXL := Lib.hid hn
  have HT0 := Lib.hid hT
  have hl := fun w hT => c_Len (mall n) w hT
  rw [h1] at hl
  have HL := Lib.hid hl
  have hmx : (if n < 0 then (0 : Int) else n) = 0 := if_pos (by omega)
  have HX := Lib.hid hmx
  clear h1 hl hmx
  clear hsl ha hn
  go_enter Tryd.func10, Tryd.ntmps10
  go_wp2_with ((go_at_call 27; (with_reducible refine (c_All _ _).mono ?_); rintro e wn ⟨rfl, rfl⟩))
  have HT := Lib.hid hT
  have hmx := HX.out
  have hd1 : decide (n < 64) = true := decide_eq_true (by omega)
  have hd2 : decide (0 ≤ n) = false := decide_eq_false (by omega)
  (refine wp_region_calm (by kernel_rfl) (by kernel_rfl) ?_; (repeat ((refine calm_step (fun K hK => ?_)); go_simp; (first | (refine hK _ ?_; clear hK K) | (refine Calm.of ?_; apply Exists.intro; refine ⟨fun wcalm hcalm => ?_, hK _ ?_⟩; (focus ((skip); go_simp; first | done | (first | (go_at_call 32; with_reducible exact calm_below hcalm (HL.out _ (Tab.below' hcalm HT.out)))) | rfl)); clear hK K)))); refine calm_nil ?_; intro wq hq)
  clear hmx hd1 hd2
  have hT := Tab.below' hq HT.out
  have hB := Below.chain hB hq
  clear HT
  have HS := Lib.hid (HSL.out.below hB)
  have ham := HAM.out
  have hsz := hB.size
  have HBA := Lib.hid (hB.alloc hB.size (.cells #[] 3))
  have HSZ := Lib.hid (show w.heap.size ≤ (wq.alloc (.cells #[] 3)).heap.size by simp; omega)
  have HOB := Lib.hid (show ∀ j, Value.ownBlock (.slice (some ⟨wq.heap.size, 0, none⟩) 0 0) = some j → w.heap.size ≤ j from fun j e => by simp [Value.ownBlock] at e; omega)
  go_wp2_with (at_builtin; refine wpList_append_sl _ rfl _ _ 24 rfl wq.heap.size 3 i0 _ 8 Tryd.underlying24 hi hz0 hz1 hz2 rfl _ 0 [] rfl (World.ownsRow_lit (base := wq.heap.size) wq #[] 0 (Nat.le_refl _) (by unfold maxLen; omega) rfl) ad m c wq.heap.size (vi xs) rfl (by rw [vi_len]; exact HXL.out) ((HS.out.mono hB.size).below ((Below.refl _ _).alloc (Nat.le_refl _) _)) (by simp [vi, Value.oneCell']) (by unfold maxLen; omega) (by omega) (by simp) ?_; intro v' w1 hown hgrow hne; obtain ⟨g, cap, rfl, hcap, hcm, hbg, hgs, hs1, hfz⟩ := owns_form hown (fun h => by cases hne h); have HB1 := Lib.hid (HBA.out.grown hgrow HSZ.out HOB.out); have HS1 := Lib.hid hs1; have HF1 := Lib.hid hfz; clear hown hgrow hne hs1 hfz)
  have hA : SlAt w1 w1.heap.size (if cap = k then some (⟨g, 0, none⟩ : Addr) else some ⟨g, k, none⟩) ((vi xs).drop k) := by
    split
    · rw [List.drop_eq_nil_of_le (by rw [vi_len, HXL.out]; omega)]; exact SlAt.nil _ _ _
    · have := HS1.out.drop k; rwa [Nat.zero_add] at this
  obtain ⟨A, hAe, hAs⟩ : ∃ A, (if cap = k then some (⟨g, 0, none⟩ : Addr) else some ⟨g, k, none⟩) = A ∧ SlAt w1 w1.heap.size A ((vi xs).drop k) := ⟨_, rfl, hA⟩
  have HAE := Lib.hid hAe
  have HAS := Lib.hid hAs
  clear hA hAe hAs
  have hkc : k ≤ cap := by omega
  have hwk : IntKind.i64.wrap (64 + (k : Int)) = 64 + k := by rw [IntKind.wrap_i64]; omega
  have HO1 := Lib.hid (show ((w1.alloc (.cells #[.int .i64 (64 + (k : Int))] 3)).drew).ownsRow w1.heap.size 3 1 (.slice (some ⟨w1.heap.size, 0, none⟩) 1 1) 1 [.int .i64 (64 + (k : Int))] from
    World.ownsRow_lit (base := w1.heap.size) (e := 3) (size := 1) w1 #[.int .i64 (64 + (k : Int))] 1 (Nat.le_refl _) (by unfold maxLen; omega) rfl)
  have HBX := Lib.hid (show Below w1.heap.size w1 ((w1.alloc (.cells #[.int .i64 (64 + (k : Int))] 3)).drew) from below_drewN ((Below.refl w1.heap.size w1).alloc (Nat.le_refl _) _) 1)
  have HAS1 := Lib.hid (HAS.out.below HBX.out)
  have HDL := Lib.hid (show ((vi xs).drop k).length = m - k by rw [List.length_drop, vi_len, HXL.out])
  have HTL := Lib.hid (show ((vi xs).take k).length = k by rw [List.length_take, vi_len, HXL.out]; omega)
  have HO := Lib.hid (vi_one xs)
  have HSZ1 := Lib.hid (show w1.heap.size ≤ ((w1.alloc (.cells #[.int .i64 (64 + (k : Int))] 3)).drew).heap.size from HBX.out.size)
  have HOB1 := Lib.hid (show ∀ j, Value.ownBlock (.slice (some ⟨w1.heap.size, 0, none⟩) 1 1) = some j → w1.heap.size ≤ j from fun j e => by simp [Value.ownBlock] at e; omega)
  have HST := Lib.hid (show SlAt w1 w1.heap.size (some ⟨g, 0, none⟩) ((vi xs).take k) from HS1.out.take k)
  clear hT hB
  go_region_law (first
    | (refine step_append_sl rfl (.tmp 59) (.tmp 62) 24 rfl w1.heap.size 3 i0 (.int .i64 0) 8 Tryd.underlying24 hi hz0 hz1 hz2 rfl (.slice (some ⟨w1.heap.size, 0, none⟩) 1 1) 1 [.int .i64 (64 + (k : Int))] (by simp [Act.eval]) HO1.out A (m - k) (cap - k) w1.heap.size ((vi xs).drop k) (by simp [Act.eval]; exact HAE.out) HDL.out HAS1.out (fun u hu => HO.out u (List.mem_of_mem_drop hu)) (by unfold maxLen; omega) (by omega) HSZ1.out ?_; intro v2 w2 hown2 hgrow2; obtain ⟨ad2, cap2, rfl, hs2⟩ := SlAt.of_owns hown2; have HS2 := Lib.hid hs2; have HB2 := Lib.hid (HBX.out.grown hgrow2 HSZ1.out HOB1.out); have HL2 := Lib.hid hown2.1; clear hs2 hown2 hgrow2)
    | (refine step_append_full rfl (.tmp 56) (.tmp 63) 24 rfl 3 i0 (.int .i64 0) 8 Tryd.underlying24 hi hz0 hz1 hz2 rfl (some ⟨g, 0, none⟩) k w1.heap.size ((vi xs).take k) (by simp [Act.eval]) HTL.out (HST.out.below HB2.out) ad2 (1 + (m - k)) cap2 w2.heap.size ([.int .i64 (64 + (k : Int))] ++ (vi xs).drop k) (by simp [Act.eval]) (by rw [HL2.out]; omega) HS2.out (fun u hu => by rcases List.mem_append.1 hu with h | h; (· simp at h; subst h; rfl); (· exact HO.out u (List.mem_of_mem_drop h))) (by omega) (by unfold maxLen; omega) (by omega) ?_; intro v3 w3 hown3 hgrow3; obtain ⟨g3, cap3, rfl, hcap3, hcm3, hbg3, hgs3, hs3, hf3⟩ := owns_form_pos hown3 (by omega); have HS3 := Lib.hid hs3; have HF3 := Lib.hid hf3; have HB3 := Lib.hid ((Below.refl w2.heap.size w2).grown hgrow3 (Nat.le_refl _) (fun j e => by cases e)); clear hs3 hf3 hown3 hgrow3))
  obtain ⟨l3, hl3⟩ : ∃ l3 : List Int, l3 = xs.take k ++ ((64 + (k : Int)) :: xs.drop k) := ⟨_, rfl⟩
  have hins := vi_ins xs k (64 + (k : Int))
  rw [← hl3] at hins
  have HS3' := HS3.out
  rw [hins] at HS3'
  obtain ⟨hln, hkl, hgk, hm3, hm4⟩ := bad_facts xs m k HXL.out hk l3 hl3
  have hc3 := (HS3'.cell (j := k) (by rw [vi_len]; exact hkl)).2
  rw [Nat.zero_add] at hc3
  have hvk : (vi l3)[k]'(by rw [vi_len]; exact hkl) = .int .i64 (64 + (k : Int)) := by
    have h1 : (vi l3)[k]? = some (.int .i64 (64 + (k : Int))) := by simp [vi, hgk]
    exact (List.getElem?_eq_some_iff.1 h1).2
  rw [hvk] at hc3
  have hfk := HF3.out k
  have HOF3 := Lib.hid (c_Of_none (some ⟨g3, 0, none⟩) (k + (1 + (m - k))) cap3 l3 w3 w3.heap.size hln (by unfold maxLen; omega) HS3' hm3)
  have hset := HS3'.setCell (k := k) (by rw [vi_len]; exact hkl) (.int .i64 (-1 - (k : Int)))
  rw [vi_set] at hset
  have HOF4 := Lib.hid (c_Of_none (some ⟨g3, 0, none⟩) (k + (1 + (m - k))) cap3 (l3.set k (-1 - (k : Int))) (w3.setCell ⟨g3, k, none⟩ (.int .i64 (-1 - (k : Int)))) w3.heap.size (by simpa using hln) (by unfold maxLen; omega) hset hm4)
  have hb4 : Below w.heap.size w (w3.setCell ⟨g3, k, none⟩ (.int .i64 (-1 - (k : Int)))) := by
    have h1 := HB1.out
    have h2 := Below.chain (Below.chain h1 HB2.out) HB3.out
    exact h2.setCell (by have h5 := h1.size; have h6 := HB2.out.size; show w.heap.size ≤ g3; omega) _
  have HB4 := Lib.hid hb4
  have HT4 := Lib.hid (Tab.below' hb4 HT0.out)
  have hwm : IntKind.i64.wrap (-1 - (k : Int)) = -1 - k := by rw [IntKind.wrap_i64]; omega
  have hkk : k < k + (1 + (m - k)) := by omega
  clear hl3 hins HS3' hln hkl hgk hm3 hm4 hvk hset hb4 hwk
  go_wp2_with (first
    | (go_at_call 25; (with_reducible refine HOF3.out.mono ?_); rintro e wn ⟨rfl, rfl⟩)
    | (go_at_call 25; (with_reducible refine HOF4.out.mono ?_); rintro e wn ⟨rfl, rfl⟩)
    | (go_at_call 24; (with_reducible refine (c_awake1 _ HT4.out).mono ?_); rintro e wn ⟨rfl, hb⟩; have hB5 := Below.chain HB4.out hb; clear hb))
  all_goals go_ret
  all_goals exact ⟨rfl, by assumption⟩

set_option maxRecDepth 8000 in
set_option maxHeartbeats 2000000 in
theorem all_small_c (n : Int) (ad : Option Addr) (m c : Nat) (a : Int) (k : Nat) (xs : List Int) (w : World) (hT : Tab w) (hn0 : 64 ≤ n) (h1 : (Mk.elems (mall n)).length = 64) (hn : xs.length = m) (hsm : ¬ 50 < m) (hsl : SlAt w w.heap.size ad (vi xs))
    (hk : k ≤ m) (ha : a % ((m : Int) + 1) = k) (ha0 : 0 ≤ a) (ha1 : a ≤ 255) :
    Calls Tryd.prog 10 #[.int .i64 n, .slice ad m c, .int .u8 a] w fun e w' => e = .returned (.bool true) ∧ Below w.heap.size w w' := by
  have hB := Below.refl w.heap.size w
  obtain ⟨i0, hi, hz0, hz1, hz2⟩ := info_parts Tryd.info3
  have HSL := Lib.hid hsl
  have HAM := Lib.hid ha
  have HXL := Lib.hid hn
  have HT0 := Lib.hid hT
  have hl := fun w hT => c_Len (mall n) w hT
  rw [h1] at hl
  have HL := Lib.hid hl
  have hmx : (if n < 0 then (0 : Int) else n) = n := if_neg (by omega)
  have hmn : (if 64 < n then (64 : Int) else n) = 64 := by
    by_cases h : 64 < n
    · exact if_pos h
    · rw [if_neg h]; omega
  have HX := Lib.hid hmx
  have HN := Lib.hid hmn
  clear h1 hl hmx hmn
  clear hsl ha hn
  go_enter Tryd.func10, Tryd.ntmps10
  go_wp2_with ((go_at_call 27; (with_reducible refine (c_All _ _).mono ?_); rintro e wn ⟨rfl, rfl⟩))
  have HT := Lib.hid hT
  have hmx := HX.out
  have hmn := HN.out
  have hd1 : decide (n < 64) = false := decide_eq_false (by omega)
  (refine wp_region_calm (by kernel_rfl) (by kernel_rfl) ?_; (repeat ((refine calm_step (fun K hK => ?_)); go_simp; (first | (refine hK _ ?_; clear hK K) | (refine Calm.of ?_; apply Exists.intro; refine ⟨fun wcalm hcalm => ?_, hK _ ?_⟩; (focus ((skip); go_simp; first | done | (first | (go_at_call 32; with_reducible exact calm_below hcalm (HL.out _ (Tab.below' hcalm HT.out)))) | rfl)); clear hK K)))); refine calm_nil ?_; intro wq hq)
  clear hmx hmn hd1
  have hT := Tab.below' hq HT.out
  have hB := Below.chain hB hq
  clear HT
  have HS := Lib.hid (HSL.out.below hB)
  have ham := HAM.out
  have hsz := hB.size
  have HBA := Lib.hid (hB.alloc hB.size (.cells #[] 3))
  have HSZ := Lib.hid (show w.heap.size ≤ (wq.alloc (.cells #[] 3)).heap.size by simp; omega)
  have HOB := Lib.hid (show ∀ j, Value.ownBlock (.slice (some ⟨wq.heap.size, 0, none⟩) 0 0) = some j → w.heap.size ≤ j from fun j e => by simp [Value.ownBlock] at e; omega)
  go_wp2_with (at_builtin; refine wpList_append_sl _ rfl _ _ 24 rfl wq.heap.size 3 i0 _ 8 Tryd.underlying24 hi hz0 hz1 hz2 rfl _ 0 [] rfl (World.ownsRow_lit (base := wq.heap.size) wq #[] 0 (Nat.le_refl _) (by unfold maxLen; omega) rfl) ad m c wq.heap.size (vi xs) rfl (by rw [vi_len]; exact HXL.out) ((HS.out.mono hB.size).below ((Below.refl _ _).alloc (Nat.le_refl _) _)) (by simp [vi, Value.oneCell']) (by unfold maxLen; omega) (by omega) (by simp) ?_; intro v' w1 hown hgrow hne; obtain ⟨g, cap, rfl, hcap, hcm, hbg, hgs, hs1, hfz⟩ := owns_form hown (fun h => by cases hne h); have HB1 := Lib.hid (HBA.out.grown hgrow HSZ.out HOB.out); have HS1 := Lib.hid hs1; have HF1 := Lib.hid hfz; clear hown hgrow hne hs1 hfz)
  have hA : SlAt w1 w1.heap.size (if cap = k then some (⟨g, 0, none⟩ : Addr) else some ⟨g, k, none⟩) ((vi xs).drop k) := by
    split
    · rw [List.drop_eq_nil_of_le (by rw [vi_len, HXL.out]; omega)]; exact SlAt.nil _ _ _
    · have := HS1.out.drop k; rwa [Nat.zero_add] at this
  obtain ⟨A, hAe, hAs⟩ : ∃ A, (if cap = k then some (⟨g, 0, none⟩ : Addr) else some ⟨g, k, none⟩) = A ∧ SlAt w1 w1.heap.size A ((vi xs).drop k) := ⟨_, rfl, hA⟩
  have HAE := Lib.hid hAe
  have HAS := Lib.hid hAs
  clear hA hAe hAs
  have hkc : k ≤ cap := by omega
  have hwk : IntKind.i64.wrap (64 + (k : Int)) = 64 + k := by rw [IntKind.wrap_i64]; omega
  have HO1 := Lib.hid (show ((w1.alloc (.cells #[.int .i64 (64 + (k : Int))] 3)).drew).ownsRow w1.heap.size 3 1 (.slice (some ⟨w1.heap.size, 0, none⟩) 1 1) 1 [.int .i64 (64 + (k : Int))] from
    World.ownsRow_lit (base := w1.heap.size) (e := 3) (size := 1) w1 #[.int .i64 (64 + (k : Int))] 1 (Nat.le_refl _) (by unfold maxLen; omega) rfl)
  have HBX := Lib.hid (show Below w1.heap.size w1 ((w1.alloc (.cells #[.int .i64 (64 + (k : Int))] 3)).drew) from below_drewN ((Below.refl w1.heap.size w1).alloc (Nat.le_refl _) _) 1)
  have HAS1 := Lib.hid (HAS.out.below HBX.out)
  have HDL := Lib.hid (show ((vi xs).drop k).length = m - k by rw [List.length_drop, vi_len, HXL.out])
  have HTL := Lib.hid (show ((vi xs).take k).length = k by rw [List.length_take, vi_len, HXL.out]; omega)
  have HO := Lib.hid (vi_one xs)
  have HSZ1 := Lib.hid (show w1.heap.size ≤ ((w1.alloc (.cells #[.int .i64 (64 + (k : Int))] 3)).drew).heap.size from HBX.out.size)
  have HOB1 := Lib.hid (show ∀ j, Value.ownBlock (.slice (some ⟨w1.heap.size, 0, none⟩) 1 1) = some j → w1.heap.size ≤ j from fun j e => by simp [Value.ownBlock] at e; omega)
  have HST := Lib.hid (show SlAt w1 w1.heap.size (some ⟨g, 0, none⟩) ((vi xs).take k) from HS1.out.take k)
  clear hT hB
  go_region_law (first
    | (refine step_append_sl rfl (.tmp 59) (.tmp 62) 24 rfl w1.heap.size 3 i0 (.int .i64 0) 8 Tryd.underlying24 hi hz0 hz1 hz2 rfl (.slice (some ⟨w1.heap.size, 0, none⟩) 1 1) 1 [.int .i64 (64 + (k : Int))] (by simp [Act.eval]) HO1.out A (m - k) (cap - k) w1.heap.size ((vi xs).drop k) (by simp [Act.eval]; exact HAE.out) HDL.out HAS1.out (fun u hu => HO.out u (List.mem_of_mem_drop hu)) (by unfold maxLen; omega) (by omega) HSZ1.out ?_; intro v2 w2 hown2 hgrow2; obtain ⟨ad2, cap2, rfl, hs2⟩ := SlAt.of_owns hown2; have HS2 := Lib.hid hs2; have HB2 := Lib.hid (HBX.out.grown hgrow2 HSZ1.out HOB1.out); have HL2 := Lib.hid hown2.1; clear hs2 hown2 hgrow2)
    | (refine step_append_full rfl (.tmp 56) (.tmp 63) 24 rfl 3 i0 (.int .i64 0) 8 Tryd.underlying24 hi hz0 hz1 hz2 rfl (some ⟨g, 0, none⟩) k w1.heap.size ((vi xs).take k) (by simp [Act.eval]) HTL.out (HST.out.below HB2.out) ad2 (1 + (m - k)) cap2 w2.heap.size ([.int .i64 (64 + (k : Int))] ++ (vi xs).drop k) (by simp [Act.eval]) (by rw [HL2.out]; omega) HS2.out (fun u hu => by rcases List.mem_append.1 hu with h | h; (· simp at h; subst h; rfl); (· exact HO.out u (List.mem_of_mem_drop h))) (by omega) (by unfold maxLen; omega) (by omega) ?_; intro v3 w3 hown3 hgrow3; obtain ⟨g3, cap3, rfl, hcap3, hcm3, hbg3, hgs3, hs3, hf3⟩ := owns_form_pos hown3 (by omega); have HS3 := Lib.hid hs3; have HF3 := Lib.hid hf3; have HB3 := Lib.hid ((Below.refl w2.heap.size w2).grown hgrow3 (Nat.le_refl _) (fun j e => by cases e)); clear hs3 hf3 hown3 hgrow3))
  obtain ⟨l3, hl3⟩ : ∃ l3 : List Int, l3 = xs.take k ++ ((64 + (k : Int)) :: xs.drop k) := ⟨_, rfl⟩
  have hins := vi_ins xs k (64 + (k : Int))
  rw [← hl3] at hins
  have HS3' := HS3.out
  rw [hins] at HS3'
  obtain ⟨hln, hkl, hgk, hm3, hm4⟩ := bad_facts xs m k HXL.out hk l3 hl3
  have hc3 := (HS3'.cell (j := k) (by rw [vi_len]; exact hkl)).2
  rw [Nat.zero_add] at hc3
  have hvk : (vi l3)[k]'(by rw [vi_len]; exact hkl) = .int .i64 (64 + (k : Int)) := by
    have h1 : (vi l3)[k]? = some (.int .i64 (64 + (k : Int))) := by simp [vi, hgk]
    exact (List.getElem?_eq_some_iff.1 h1).2
  rw [hvk] at hc3
  have hfk := HF3.out k
  have HOF3 := Lib.hid (c_Of_none (some ⟨g3, 0, none⟩) (k + (1 + (m - k))) cap3 l3 w3 w3.heap.size hln (by unfold maxLen; omega) HS3' hm3)
  have hset := HS3'.setCell (k := k) (by rw [vi_len]; exact hkl) (.int .i64 (-1 - (k : Int)))
  rw [vi_set] at hset
  have HOF4 := Lib.hid (c_Of_none (some ⟨g3, 0, none⟩) (k + (1 + (m - k))) cap3 (l3.set k (-1 - (k : Int))) (w3.setCell ⟨g3, k, none⟩ (.int .i64 (-1 - (k : Int)))) w3.heap.size (by simpa using hln) (by unfold maxLen; omega) hset hm4)
  have hb4 : Below w.heap.size w (w3.setCell ⟨g3, k, none⟩ (.int .i64 (-1 - (k : Int)))) := by
    have h1 := HB1.out
    have h2 := Below.chain (Below.chain h1 HB2.out) HB3.out
    exact h2.setCell (by have h5 := h1.size; have h6 := HB2.out.size; show w.heap.size ≤ g3; omega) _
  have HB4 := Lib.hid hb4
  have HT4 := Lib.hid (Tab.below' hb4 HT0.out)
  have hwm : IntKind.i64.wrap (-1 - (k : Int)) = -1 - k := by rw [IntKind.wrap_i64]; omega
  have hkk : k < k + (1 + (m - k)) := by omega
  clear hl3 hins HS3' hln hkl hgk hm3 hm4 hvk hset hb4 hwk
  go_wp2_with (first
    | (go_at_call 25; (with_reducible refine HOF3.out.mono ?_); rintro e wn ⟨rfl, rfl⟩)
    | (go_at_call 25; (with_reducible refine HOF4.out.mono ?_); rintro e wn ⟨rfl, rfl⟩)
    | (go_at_call 24; (with_reducible refine (c_awake1 _ HT4.out).mono ?_); rintro e wn ⟨rfl, hb⟩; have hB5 := Below.chain HB4.out hb; clear hb))
  all_goals go_ret
  all_goals exact ⟨rfl, by assumption⟩

theorem mall_neg {n : Int} (h : n < 0) : (Mk.elems (mall n)).length = 0 := by
  have : mall n = 0#64 := by unfold mall; rw [if_pos (by omega)]
  rw [this]; rfl
theorem elems_mall {n : Int} (h0 : 0 ≤ n) (h1 : n ≤ 64) : (Mk.elems (mall n)).length = n.toNat := by
  have : Mk.elems (mall n) = List.range n.toNat := by
    refine Mk.sorted_ext (Mk.elems_sorted _) List.pairwise_lt_range fun x => ?_
    rw [Mk.mem_elems, List.mem_range]
    have := has_mall n x
    unfold has at this
    rw [this]
    simp only [Bool.and_eq_true, decide_eq_true_eq]
    omega
  rw [this, List.length_range]
theorem mall_succ {n : Int} (h0 : 0 ≤ n) (h1 : n < 64) : mall (n + 1) = mall n ||| 1#64 <<< n.toNat := by
  refine Mk.has_ext' fun j => ?_
  rw [has_or, has_mall, has_mall, has_one _ _ (by omega)]
  by_cases h2 : j = n.toNat
  · subst h2
    rw [decide_eq_true (p := n.toNat < 64) (by omega), decide_eq_true (p := ((n.toNat : Nat) : Int) < n + 1) (by omega)]
    simp
  · rw [decide_eq_false (p := j = n.toNat) h2, Bool.or_false]
    congr 1
    exact decide_eq_decide.2 (by omega)

theorem mall_big {n : Int} (h : 64 ≤ n) : (Mk.elems (mall n)).length = 64 := by
  have : mall n = mall 64 := by unfold mall; rw [if_neg (by omega), if_pos h]; rfl
  rw [this, elems_mall (by omega) (by omega)]; rfl

set_option maxRecDepth 8000 in
/-- **MarksAll.** -/
theorem w_MarksAll (n : Int) (ad : Option Addr) (m c : Nat) (a : Int) (xs : List Int) (w : World) (hT : Tab w) (hx : SlAt w w.heap.size ad (vi xs)) (hn : xs.length = m) (hmax : m ≤ maxLen) (ha0 : 0 ≤ a) (ha1 : a ≤ 255) :
    Calls Tryd.prog 10 #[.int .i64 n, .slice ad m c, .int .u8 a] w fun e w' => e = .returned (.bool true) ∧ Below w.heap.size w w' := by
  unfold maxLen at hmax
  by_cases hbig : 50 < m
  · rcases Int.lt_or_le n 0 with h | h
    · exact all_big_b n ad m c a w hT h (mall_neg h) hbig (by omega)
    · rcases Int.lt_or_le n 64 with h2 | h2
      · exact all_big_a n ad m c a w hT h h2 (elems_mall h (by omega)) (mall_succ h h2) hbig (by omega)
      · exact all_big_c n ad m c a w hT h2 (mall_big h2) hbig (by omega)
  · obtain ⟨k, hk⟩ : ∃ k : Nat, (k : Int) = a % ((m : Int) + 1) := ⟨(a % ((m : Int) + 1)).toNat, Int.toNat_of_nonneg (Int.emod_nonneg _ (by omega))⟩
    have hkm : k ≤ m := by have := Int.emod_lt_of_pos a (b := (m : Int) + 1) (by omega); omega
    rcases Int.lt_or_le n 0 with h | h
    · exact all_small_b n ad m c a k xs w hT h (mall_neg h) hn hbig hx hkm hk.symm ha0 ha1
    · rcases Int.lt_or_le n 64 with h2 | h2
      · exact all_small_a n ad m c a k xs w hT h h2 (elems_mall h (by omega)) (mall_succ h h2) hn hbig hx hkm hk.symm ha0 ha1
      · exact all_small_c n ad m c a k xs w hT h2 (mall_big h2) hn hbig hx hkm hk.symm ha0 ha1

end Go.Proofs.YtgegmoedgegkcaaDoor
