/-
  seisinlaw02.RelRing returns true for every relation, if the library table is laid.
-/
import Derived.Test.YtgegmoedgegkcaaDoorPRing2
namespace Go.Proofs.YtgegmoedgegkcaaDoor
open Go.RowKit

abbrev CIrr (k : Nat) (f : Nat → BitVec 64) (v : Bool) : Prop := ∀ w, Tab w → Calls Tryd.prog 54 #[.agg (rcs k f)] w fun e w' => e = .returned (.bool v) ∧ Below w.heap.size w w'
abbrev CAcy (k : Nat) (f : Nat → BitVec 64) (v : Bool) : Prop := ∀ w, Tab w → Calls Tryd.prog 55 #[.agg (rcs k f)] w fun e w' => e = .returned (.bool v) ∧ Below w.heap.size w w'
/-- A function of one relation answers a list of things. -/
abbrev CLs (F : FuncId) (k : Nat) (f : Nat → BitVec 64) (l : List Nat) (m : Nat) : Prop := ∀ w, Tab w → Calls Tryd.prog F #[.agg (rcs k f)] w fun e w' => ∃ ad cap, e = .returned (.slice ad m cap) ∧ SlAt w' w'.heap.size ad (vn l) ∧ Below w.heap.size w w'
abbrev CTop (k : Nat) (f : Nat → BitVec 64) (l : List Nat) (m : Nat) (v : Bool) : Prop := ∀ w, Tab w → Calls Tryd.prog 49 #[.agg (rcs k f)] w fun e w' => ∃ ad cap, e = .returned (.tuple #[.slice ad m cap, .bool v]) ∧ SlAt w' w'.heap.size ad (vn l) ∧ Below w.heap.size w w'
abbrev CPrs (k : Nat) (f : Nat → BitVec 64) (l : List (Nat × Nat)) (m : Nat) : Prop := ∀ w, Tab w → Calls Tryd.prog 56 #[.agg (rcs k f)] w fun e w' => ∃ ad cap, e = .returned (.slice ad m cap) ∧ PrAt w' w'.heap.size ad l ∧ Below w.heap.size w w'
abbrev CHas (k : Nat) (f : Nat → BitVec 64) : Prop := ∀ (a b : Nat) w, Tab w → Calls Tryd.prog 47 #[.agg (rcs k f), .int .i64 a, .int .i64 b] w fun e w' => e = .returned (.bool (hasR k f a b)) ∧ Below w.heap.size w w'

/-- The set of a list. -/
def metS (l : List Nat) : BitVec 64 := l.foldl (fun s x => s ||| 1#64 <<< x) 0#64
theorem metS_succ {l : List Nat} {i : Nat} (h : i < l.length) : metS (l.take (i + 1)) = metS (l.take i) ||| 1#64 <<< l[i] := by
  unfold metS
  rw [List.take_succ_eq_append_getElem h, List.foldl_append]; rfl
theorem has_metS_from (l : List Nat) (hl : ∀ x ∈ l, x < 64) (s : BitVec 64) (y : Nat) : has (l.foldl (fun s x => s ||| 1#64 <<< x) s) y = (has s y || decide (y ∈ l)) := by
  induction l generalizing s with
  | nil => simp
  | cons x l ih =>
    rw [List.foldl_cons, ih (fun z hz => hl z (by simp [hz])), has_or, has_one x y (hl x (by simp)), Bool.or_assoc]
    congr 1
    simp only [List.mem_cons]
    by_cases h1 : y = x <;> simp [h1]
theorem has_metS {l : List Nat} (hl : ∀ x ∈ l, x < 64) (y : Nat) : has (metS l) y = decide (y ∈ l) := by
  unfold metS
  rw [has_metS_from l hl, has_zero, Bool.false_or]

set_option maxRecDepth 8000 in
set_option maxHeartbeats 8000000 in
/-- Where the relation is acyclic. -/
theorem ring_walkA (n : Int) (f : Nat → BitVec 64) (k : Nat) (A P : Nat → BitVec 64) (tl : List Nat) (prl : List (Nat × Nat)) (m : Nat) (hk : k ≤ 20) (htl : tl.length = k) (htk : ∀ x ∈ tl, x < k) (hnd : ∀ i (h : i < tl.length), tl[i] ∉ tl.take i)
    (hprl : prl.length = m) (hm : m ≤ 3072) (hpk : ∀ p ∈ prl, p.1 < k ∧ p.2 < k) (hpre : ∀ i (h : i < tl.length) (p : Nat × Nat), p ∈ prl → p.2 = tl[i] → p.1 ∈ tl.take i)
    (h1 : CFine n f 20 k A) (h2 : CLs 53 k A [] 0) (h3 : C1 46 k A P) (h4 : CIrr k P true) (h5 : CAcy k A true) (h6 : CTop k A tl k true) (h7 : CPrs k A prl m) (w : World) (hT : Tab w) :
    Calls Tryd.prog 12 #[.agg (rcs n f)] w fun e w' => e = .returned (.bool true) ∧ Below w.heap.size w w' := by
  have H1 := Lib.hid h1
  have H2 := Lib.hid h2
  have H3 := Lib.hid h3
  have H4 := Lib.hid h4
  have H5 := Lib.hid h5
  have H6 := Lib.hid h6
  have H7 := Lib.hid h7
  have HT := Lib.hid hT
  have HLen := Lib.hid htl
  have HTk := Lib.hid htk
  have HNd := Lib.hid hnd
  have HPl := Lib.hid hprl
  have HPk := Lib.hid hpk
  have HPre := Lib.hid hpre
  have hS := Sk.of (St.box1 w n f)
  clear h1 h2 h3 h4 h5 h6 h7 hT htl htk hnd hprl hpk hpre
  go_enter Tryd.func12, Tryd.ntmps12
  go_upto_region 1 with (fail)
  generalize w.alloc (.cells (rcs n f) 53) = wS at *
  obtain ⟨b2, hb2⟩ : ∃ b2, w.heap.size = b2 := ⟨_, rfl⟩
  simp only [hb2] at hS ⊢
  go_upto_region 11 with (first
    | (refine wpList_allocK hS rfl rfl ?_; clear hS; intro bS wS hS) | (refine wpList_build_rel0 rfl rfl ?_) | (refine wpList_build_rel1 rfl _ rfl _ rfl ?_) | (refine wpList_loadK _ hS _ rfl rfl (by first | exact ix0 | exact ixS ix0 | exact ixS (ixS ix0)) (by rfl) ?_) | (refine wpList_loadNK _ hS _ rfl rfl (by first | exact ix0 | exact ixS ix0 | exact ixS (ixS ix0)) (by rfl) ?_) | (refine wpList_storeK _ hS _ _ rfl rfl (by first | exact ix0 | exact ixS ix0 | exact ixS (ixS ix0)) rfl rfl ?_; clear hS; intro wS hS; (first | simp only [List.set_cons_zero] at hS | simp only [List.set_cons_succ, List.set_cons_zero] at hS)) | (refine wpList_storeNK _ hS _ _ rfl rfl (by first | exact ix0 | exact ixS ix0 | exact ixS (ixS ix0)) rfl (by rfl) ?_; clear hS; intro wS hS; (first | simp only [List.set_cons_zero] at hS | simp only [List.set_cons_succ, List.set_cons_zero] at hS)) | (refine wpList_eqlK _ _ _ rfl rfl rfl (by rfl) ?_) | (refine wpList_neqK _ _ _ rfl rfl rfl (by rfl) ?_)
    | (go_at_call 43; (with_reducible refine (H1.out _).mono ?_); rintro e wS ⟨rfl, hb⟩; have hS2 := hS.over hb; clear hS hb; have hS := hS2; clear hS2) | (go_at_call 46; (with_reducible refine (H3.out _ (hS.tab HT.out)).mono ?_); rintro e wS ⟨rfl, hb⟩; have hS2 := hS.over hb; clear hS hb; have hS := hS2; clear hS2) | (go_at_call 54; (with_reducible refine (H4.out _ (hS.tab HT.out)).mono ?_); rintro e wS ⟨rfl, hb⟩; have hS2 := hS.over hb; clear hS hb; have hS := hS2; clear hS2) | (go_at_call 55; (with_reducible refine (H5.out _ (hS.tab HT.out)).mono ?_); rintro e wS ⟨rfl, hb⟩; have hS2 := hS.over hb; clear hS hb; have hS := hS2; clear hS2)
    | (go_at_call 53; (with_reducible refine (H2.out _ (hS.tab HT.out)).mono ?_); rintro e wS ⟨ad0, cap0, rfl, -, hb⟩; have hS2 := hS.over hb; clear hS hb; have hS := hS2; clear hS2)
    | (go_at_call 49; (with_reducible refine (H6.out _ (hS.tab HT.out)).mono ?_); rintro e wS ⟨adt, capt, rfl, hsl, hb⟩; have HTL := Lib.hid hsl; clear hsl; have hS2 := hS.over hb; clear hS hb; have hS := hS2; clear hS2))
  have hpt := HTL.out
  have hbl := (hS.st.get (i := 0) rfl).lt
  have HW := Lib.hid (hS.st.bel)
  have HR := Lib.hid (hS.st.get (i := 0) rfl)
  have HTS := Lib.hid (hS.tab HT.out)
  clear hpt hbl hS
  go_wp2
  go_loopw [7, 49] (fun s i wr => ∃ j : Nat, j ≤ k ∧ i = .int .i64 j ∧ s = .int .u64 (iv (metS (tl.take j))) ∧ Below wS.heap.size wS wr) (fun _ i _ => k - (intOf i).toNat)
  case atStart => exact ⟨0, by omega, rfl, rfl, Below.refl _ _⟩
  case round =>
    obtain ⟨j, hj, rfl, rfl, hbr⟩ := hrel
    have HBr := Lib.hid hbr
    have HR1 := Lib.hid (HR.out.over hbr)
    have hc0 := HR1.out.n_cell
    clear hbr
    by_cases hlt : j < k
    · have hjl : j < tl.length := by have := HLen.out; omega
      have hx20 := HTk.out _ (List.getElem_mem hjl)
      have hno := HNd.out j hjl
      have hpre := HPre.out j hjl
      have hms := metS_succ hjl
      have hmet : has (metS (tl.take j)) tl[j] = false := by
        rw [has_metS (fun x hx => by have := HTk.out x (List.mem_of_mem_take hx); omega), decide_eq_false hno]
      obtain ⟨c, off, rfl, hclt, hc⟩ := (HTL.out.below HBr.out).nat hjl
      obtain ⟨x, hx⟩ : ∃ x, x = tl[j] := ⟨_, rfl⟩
      rw [← hx] at hx20 hpre hms hmet hc
      have HPr := Lib.hid hpre
      have HMs := Lib.hid hms
      clear hx hno hpre hms
      have hxk : (x : Int) < (k : Int) := by omega
      have hx0 : (0 : Int) ≤ (x : Int) := by omega
      have hkk : (k : Int) ≤ 20 := by omega
      go_upto_region 17 with (first
        | (refine wpList_load_rel rfl _ rfl rfl HR1.out ?_)
        | (go_at_call 56; (with_reducible refine (H7.out _ (Tab.bel HBr.out HTS.out)).mono ?_); rintro e w2 ⟨ad2, cap2, rfl, hpr, hb2⟩; have HPR := Lib.hid hpr; have HB2 := Lib.hid hb2; clear hpr hb2))
      go_loopw [71] (fun i wr2 => ∃ q : Nat, q ≤ m ∧ i = .int .i64 q ∧ Below w2.heap.size w2 wr2) (fun i _ => m - (intOf i).toNat)
      case atStart => exact ⟨0, by omega, rfl, Below.refl _ _⟩
      case round =>
        obtain ⟨q, hq, rfl, hbq⟩ := hrel
        have HBq := Lib.hid hbq
        clear hbq
        by_cases hlq : q < m
        · have hql : q < prl.length := by have := HPl.out; omega
          have hmem := List.getElem_mem hql
          have hpk := HPk.out _ hmem
          have hpx := HPr.out _ hmem
          obtain ⟨c2, rfl, hclt2, hc1, hc2⟩ := (HPR.out.below HBq.out) q _ (List.getElem?_eq_getElem hql)
          obtain ⟨p, hp⟩ : ∃ p, p = prl[q] := ⟨_, rfl⟩
          rw [← hp] at hpk hpx hc1 hc2
          clear hp hmem
          obtain ⟨y, z⟩ := p
          simp only at hpk hpx hc1 hc2
          obtain ⟨hy20, hz20⟩ := hpk
          have hyi : (y : Int) < 64 := by omega
          cases hzx : ((z : Int) == (x : Int)) with
          | false =>
            clear hpx
            go_wp2
            refine ⟨⟨q + 1, by omega, by go_num, HBq.out.alloc HBq.out.size _⟩, by simp [intOf]; omega⟩
          | true =>
            have hmy : has (metS (tl.take j)) y = true := by
              have hzx2 : z = x := by have := eq_of_beq hzx; omega
              rw [has_metS (fun u hu => by have := HTk.out u (List.mem_of_mem_take hu); omega), decide_eq_true (hpx hzx2)]
            clear hpx
            go_wp2
            refine ⟨⟨q + 1, by omega, by go_num, HBq.out.alloc HBq.out.size _⟩, by simp [intOf]; omega⟩
        · go_wp2
          refine ⟨⟨j + 1, by omega, by go_num, by rw [HMs.out], HBr.out.trans ((HB2.out.trans (HBq.out.mono HB2.out.size)).mono HBr.out.size)⟩, by simp [intOf]; omega⟩
    · have hjk : j = k := by omega
      subst hjk
      go_wp2_with (go_at_call 57; (with_reducible refine (c_awake2 _ (Tab.bel HBr.out HTS.out)).mono ?_); rintro e w3 ⟨rfl, hb3⟩)
      go_ret
      exact ⟨rfl, HW.out.trans ((HBr.out.trans (hb3.mono HBr.out.size)).mono HW.out.size)⟩
end Go.Proofs.YtgegmoedgegkcaaDoor
