/-
  seisinlaw02.RelRing, where the relation is cyclic.
-/
import Derived.Test.YtgegmoedgegkcaaDoorLRing
namespace Go.Proofs.YtgegmoedgegkcaaDoor
open Go.RowKit

theorem Sk.tail {w0 w : World} {e : RlE} {L : List RlE} {K : List (Nat × Obj)} (h : Sk w0 w (e :: L) K) : Sk w0 w L K :=
  ⟨⟨h.st.bel, fun e he => h.st.old e (by simp [he]), fun e he => h.st.rel e (by simp [he]), (List.pairwise_cons.1 h.st.dis).2⟩, h.keep, fun p hp e he => h.apart p hp e (by simp [he])⟩
theorem Sk.drop2 {w0 w : World} {e d : RlE} {L : List RlE} {K : List (Nat × Obj)} (h : Sk w0 w (e :: d :: L) K) : Sk w0 w (e :: L) K :=
  ⟨⟨h.st.bel, fun x hx => h.st.old x (by rcases List.mem_cons.1 hx with rfl | hx <;> simp_all), fun x hx => h.st.rel x (by rcases List.mem_cons.1 hx with rfl | hx <;> simp_all), by
    have h1 := List.pairwise_cons.1 h.st.dis
    exact List.pairwise_cons.2 ⟨fun x hx => h1.1 x (by simp [hx]), (List.pairwise_cons.1 h1.2).2⟩⟩, h.keep, fun p hp x hx => h.apart p hp x (by rcases List.mem_cons.1 hx with rfl | hx <;> simp_all)⟩

set_option maxRecDepth 8000 in
set_option maxHeartbeats 8000000 in
theorem ring_walkC (n : Int) (f : Nat → BitVec 64) (k : Nat) (A P : Nat → BitVec 64) (Q : Nat → Nat → BitVec 64) (rg : List Nat) (m : Nat) (hk : k ≤ 20) (hrg : rg.length = m) (hm : 0 < m) (hm66 : m ≤ 66) (hrk : ∀ x ∈ rg, x < k) (hnd : ∀ i (h : i < rg.length), rg[i] ∉ rg.take i)
    (hst : ∀ i (h : i < rg.length), ∃ x, rg[(i + 1) % m]? = some x ∧ hasR k A rg[i] x = true) (hlo : ∀ i (h : i < rg.length) x, rg[0]? = some x → x ≤ rg[i]) (hQ0 : Q 0 = A)
    (h1 : CFine n f 20 k A) (h2 : CLs 53 k A rg m) (h3 : C1 46 k A P) (h4 : CIrr k P false) (h5 : CAcy k A false) (h6 : CTop k A [] 0 false) (h7 : CHas k A) (h8 : ∀ i, i + 1 < m → CIrr k (Q i) true) (h9 : ∀ i, C2 58 k (Q i) A (Q (i + 1))) (h10 : CIrr k (Q (m - 1)) false) (w : World) (hT : Tab w) :
    Calls Tryd.prog 12 #[.agg (rcs n f)] w fun e w' => e = .returned (.bool true) ∧ Below w.heap.size w w' := by
  have H1 := Lib.hid h1
  have H2 := Lib.hid h2
  have H3 := Lib.hid h3
  have H4 := Lib.hid h4
  have H5 := Lib.hid h5
  have H6 := Lib.hid h6
  have H7 := Lib.hid h7
  have H8 := Lib.hid h8
  have H9 := Lib.hid h9
  have H10 := Lib.hid h10
  have HT := Lib.hid hT
  have HLen := Lib.hid hrg
  have HRk := Lib.hid hrk
  have HNd := Lib.hid hnd
  have HSt := Lib.hid hst
  have HLo := Lib.hid hlo
  have HQ0 := Lib.hid hQ0
  have hS := Sk.of (St.box1 w n f)
  clear h1 h2 h3 h4 h5 h6 h7 h8 h9 h10 hT hrg hrk hnd hst hlo hQ0
  go_enter Tryd.func12, Tryd.ntmps12
  go_upto_region 1 with (fail)
  generalize w.alloc (.cells (rcs n f) 53) = wS at *
  obtain ⟨b2, hb2⟩ : ∃ b2, w.heap.size = b2 := ⟨_, rfl⟩
  simp only [hb2] at hS ⊢
  have hmi : (0 : Int) < (m : Int) := by omega
  go_upto_region 3 with (first
    | (refine wpList_allocK hS rfl rfl ?_; clear hS; intro bS wS hS) | (refine wpList_build_rel0 rfl rfl ?_) | (refine wpList_build_rel1 rfl _ rfl _ rfl ?_) | (refine wpList_loadK _ hS _ rfl rfl (by first | exact ix0 | exact ixS ix0 | exact ixS (ixS ix0)) (by rfl) ?_) | (refine wpList_loadNK _ hS _ rfl rfl (by first | exact ix0 | exact ixS ix0 | exact ixS (ixS ix0)) (by rfl) ?_) | (refine wpList_storeK _ hS _ _ rfl rfl (by first | exact ix0 | exact ixS ix0 | exact ixS (ixS ix0)) rfl rfl ?_; clear hS; intro wS hS; (first | simp only [List.set_cons_zero] at hS | simp only [List.set_cons_succ, List.set_cons_zero] at hS)) | (refine wpList_storeNK _ hS _ _ rfl rfl (by first | exact ix0 | exact ixS ix0 | exact ixS (ixS ix0)) rfl (by rfl) ?_; clear hS; intro wS hS; (first | simp only [List.set_cons_zero] at hS | simp only [List.set_cons_succ, List.set_cons_zero] at hS)) | (refine wpList_eqlK _ _ _ rfl rfl rfl (by rfl) ?_) | (refine wpList_neqK _ _ _ rfl rfl rfl (by rfl) ?_)
    | (go_at_call 43; (with_reducible refine (H1.out _).mono ?_); rintro e wS ⟨rfl, hb⟩; have hS2 := hS.over hb; clear hS hb; have hS := hS2; clear hS2)
    | (go_at_call 53; (with_reducible refine (H2.out _ (hS.tab HT.out)).mono ?_); rintro e wS ⟨ad0, cap0, rfl, hsl, hb⟩; have HRG := Lib.hid hsl; clear hsl; have hS2 := hS.over hb; clear hS hb; have hS := hS2; clear hS2))
  go_upto_region 26 with (first
    | (refine wpList_allocK hS rfl rfl ?_; clear hS; intro bS wS hS) | (refine wpList_build_rel0 rfl rfl ?_) | (refine wpList_build_rel1 rfl _ rfl _ rfl ?_) | (refine wpList_loadK _ hS _ rfl rfl (by first | exact ix0 | exact ixS ix0 | exact ixS (ixS ix0)) (by rfl) ?_) | (refine wpList_loadNK _ hS _ rfl rfl (by first | exact ix0 | exact ixS ix0 | exact ixS (ixS ix0)) (by rfl) ?_) | (refine wpList_storeK _ hS _ _ rfl rfl (by first | exact ix0 | exact ixS ix0 | exact ixS (ixS ix0)) rfl rfl ?_; clear hS; intro wS hS; (first | simp only [List.set_cons_zero] at hS | simp only [List.set_cons_succ, List.set_cons_zero] at hS)) | (refine wpList_storeNK _ hS _ _ rfl rfl (by first | exact ix0 | exact ixS ix0 | exact ixS (ixS ix0)) rfl (by rfl) ?_; clear hS; intro wS hS; (first | simp only [List.set_cons_zero] at hS | simp only [List.set_cons_succ, List.set_cons_zero] at hS)) | (refine wpList_eqlK _ _ _ rfl rfl rfl (by rfl) ?_) | (refine wpList_neqK _ _ _ rfl rfl rfl (by rfl) ?_)
    | (go_at_call 46; (with_reducible refine (H3.out _ (hS.tab HT.out)).mono ?_); rintro e wS ⟨rfl, hb⟩; have HRG2 := Lib.hid ((HRG.out.below hb).mono hb.size); clear HRG; have HRG := HRG2; clear HRG2; have hS2 := hS.over hb; clear hS hb; have hS := hS2; clear hS2) | (go_at_call 54; (with_reducible refine (H4.out _ (hS.tab HT.out)).mono ?_); rintro e wS ⟨rfl, hb⟩; have HRG2 := Lib.hid ((HRG.out.below hb).mono hb.size); clear HRG; have HRG := HRG2; clear HRG2; have hS2 := hS.over hb; clear hS hb; have hS := hS2; clear hS2) | (go_at_call 55; (with_reducible refine (H5.out _ (hS.tab HT.out)).mono ?_); rintro e wS ⟨rfl, hb⟩; have HRG2 := Lib.hid ((HRG.out.below hb).mono hb.size); clear HRG; have HRG := HRG2; clear HRG2; have hS2 := hS.over hb; clear hS hb; have hS := hS2; clear hS2)
    | (go_at_call 49; (with_reducible refine (H6.out _ (hS.tab HT.out)).mono ?_); rintro e wS ⟨adt, capt, rfl, -, hb⟩; have HRG2 := Lib.hid ((HRG.out.below hb).mono hb.size); clear HRG; have HRG := HRG2; clear HRG2; have hS2 := hS.over hb; clear hS hb; have hS := hS2; clear hS2))
  have HW := Lib.hid (hS.st.bel)
  have HR := Lib.hid (hS.st.get (i := 0) rfl)
  have HTS := Lib.hid (hS.tab HT.out)
  have HSS := Lib.hid hS
  clear hS
  go_wp2
  go_loopw [12, 103] (fun s i wr => ∃ j : Nat, j ≤ m ∧ i = .int .i64 j ∧ s = .int .u64 (iv (metS (rg.take j))) ∧ Below wS.heap.size wS wr) (fun _ i _ => m - (intOf i).toNat)
  case atStart => exact ⟨0, by omega, rfl, rfl, Below.refl _ _⟩
  case round =>
    obtain ⟨j, hj, rfl, rfl, hbr⟩ := hrel
    have HBr := Lib.hid hbr
    clear hbr
    by_cases hlt : j < m
    · have hjl : j < rg.length := by have := HLen.out; omega
      have hx20 := HRk.out _ (List.getElem_mem hjl)
      have hno := HNd.out j hjl
      obtain ⟨nx, hnx1, hnx2⟩ := HSt.out j hjl
      have hms := metS_succ hjl
      have hmet : has (metS (rg.take j)) rg[j] = false := by
        rw [has_metS (fun x hx => by have := HRk.out x (List.mem_of_mem_take hx); omega), decide_eq_false hno]
      have h0l : 0 < rg.length := by have := HLen.out; omega
      have hle0 := HLo.out j hjl rg[0] (List.getElem?_eq_getElem h0l)
      obtain ⟨c, off, rfl, hclt, hc⟩ := (HRG.out.below HBr.out).nat hjl
      obtain ⟨c', off', e0, _, hc0⟩ := (HRG.out.below HBr.out).nat h0l
      simp only [Option.some.injEq, Addr.mk.injEq] at e0
      obtain ⟨rfl, rfl, _⟩ := e0
      have hj2 : (j + 1) % m < m := Nat.mod_lt _ hm
      have hj2l : (j + 1) % m < rg.length := by have := HLen.out; omega
      obtain ⟨c', off', e0, _, hcn⟩ := (HRG.out.below HBr.out).nat hj2l
      simp only [Option.some.injEq, Addr.mk.injEq] at e0
      obtain ⟨rfl, rfl, _⟩ := e0
      rw [List.getElem?_eq_getElem hj2l, Option.some.injEq] at hnx1
      rw [hnx1] at hcn
      have hmod1 : ((j : Int) + 1) % (m : Int) = (((j + 1) % m : Nat) : Int) := by rw [Int.natCast_emod]; rfl
      have hmod2 : ((j : Int) + 1).tmod (m : Int) = (((j + 1) % m : Nat) : Int) := by rw [Int.tmod_eq_emod_of_nonneg (by omega)]; exact hmod1
      obtain ⟨j2, hj2e⟩ : ∃ j2, (j + 1) % m = j2 := ⟨_, rfl⟩
      rw [hj2e] at hj2 hcn hmod1 hmod2
      obtain ⟨x, hx⟩ : ∃ x, x = rg[j] := ⟨_, rfl⟩
      obtain ⟨x0, hx0e⟩ : ∃ x, x = rg[0] := ⟨_, rfl⟩
      rw [← hx] at hx20 hnx2 hms hmet hc hle0
      rw [← hx0e] at hle0 hc0
      have HMs := Lib.hid hms
      clear hx hx0e hno hms hnx1 hj2e hj2l
      have HHs := Lib.hid (show ∀ w, Tab w → Calls Tryd.prog 47 #[.agg (rcs k A), .int .i64 x, .int .i64 nx] w fun e w' => e = .returned (.bool true) ∧ Below w.heap.size w w' from fun w hT => hnx2 ▸ H7.out x nx w hT)
      clear hnx2
      have hxk : (x : Int) < (k : Int) := by omega
      have hx64 : (x : Int) < 64 := by omega
      have hkk : (k : Int) ≤ 20 := by omega
      have hlow : decide ((x : Int) < (x0 : Int)) = false := decide_eq_false (by omega)
      have hmne : ¬ m = 0 := by omega
      have hwr : IntKind.i64.wrap ((j : Int) + 1) = (j : Int) + 1 := by rw [IntKind.wrap_i64]; omega
      have hj2i : (j2 : Int) < (m : Int) := by omega
      go_upto_region 29 with (fail)
      have HTr := Lib.hid (Tab.bel HBr.out HTS.out)
      have HRr := Lib.hid (HR.out.over HBr.out)
      have hcw := Nat.lt_of_lt_of_le hclt HBr.out.size
      (refine wp_region_calm (by kernel_rfl) (by kernel_rfl) ?_; (repeat (first | ((refine calm_step (fun K hK => ?_)); (refine calm_load_rel rfl _ rfl rfl (fun w hC => HRr.out.over hC) ?_); refine hK _ ?_; clear hK K) | ((refine calm_step (fun K hK => ?_)); go_simp; (first | (refine hK _ ?_; clear hK K) | (refine Calm.of ?_; apply Exists.intro; refine ⟨fun wcalm hcalm => ?_, hK _ ?_⟩; (focus ((have hcc := (hcalm.cell (p := ⟨c, off + j, none⟩) hcw).trans hc; have hcc0 := (hcalm.cell (p := ⟨c, off + 0, none⟩) hcw).trans hc0; have hccn := (hcalm.cell (p := ⟨c, off + j2, none⟩) hcw).trans hcn; simp only [Nat.add_zero] at hcc0); go_simp; first | done | (go_at_call 47; with_reducible exact calm_below hcalm (HHs.out _ (Tab.bel hcalm HTr.out))) | rfl)); clear hK K))))); refine calm_nil ?_; intro wq hq)
      go_wp2
      refine ⟨⟨j + 1, by omega, by go_num, by rw [HMs.out], HBr.out.trans (hq.mono HBr.out.size)⟩, by simp [intOf]; omega⟩
    · have hjm : j = m := by omega
      subst hjm
      have hS := HSS.out.over HBr.out
      clear HR HW HTS HSS HRG HRk HNd HSt HLo
      go_upto_region 34 with (first | (refine wpList_allocK hS rfl rfl ?_; clear hS; intro bS wS hS) | (refine wpList_build_rel0 rfl rfl ?_) | (refine wpList_build_rel1 rfl _ rfl _ rfl ?_) | (refine wpList_loadK _ hS _ rfl rfl (by first | exact ix0 | exact ixS ix0 | exact ixS (ixS ix0)) (by rfl) ?_) | (refine wpList_loadNK _ hS _ rfl rfl (by first | exact ix0 | exact ixS ix0 | exact ixS (ixS ix0)) (by rfl) ?_) | (refine wpList_storeK _ hS _ _ rfl rfl (by first | exact ix0 | exact ixS ix0 | exact ixS (ixS ix0)) rfl rfl ?_; clear hS; intro wS hS; (first | simp only [List.set_cons_zero] at hS | simp only [List.set_cons_succ, List.set_cons_zero] at hS)) | (refine wpList_storeNK _ hS _ _ rfl rfl (by first | exact ix0 | exact ixS ix0 | exact ixS (ixS ix0)) rfl (by rfl) ?_; clear hS; intro wS hS; (first | simp only [List.set_cons_zero] at hS | simp only [List.set_cons_succ, List.set_cons_zero] at hS)) | (refine wpList_eqlK _ _ _ rfl rfl rfl (by rfl) ?_) | (refine wpList_neqK _ _ _ rfl rfl rfl (by rfl) ?_))
      have hj1 : 1 ≤ j := by omega
      have hS0 := Lib.hid (show Sk w wS [⟨bS, k, Q 0⟩, ⟨b2, k, A⟩] [] by rw [HQ0.out]; exact hS)
      clear hS
      go_wp2
      go_loopw [143] (fun i wr2 => ∃ q : Nat, q + 1 ≤ j ∧ i = .int .i64 q ∧ Sk w wr2 [⟨bS, k, Q q⟩, ⟨b2, k, A⟩] []) (fun i _ => j - (intOf i).toNat)
      case atStart => exact ⟨0, by omega, rfl, hS0.out⟩
      case round =>
        obtain ⟨q, hq, rfl, hS⟩ := hrel
        by_cases hlq : q + 1 < j
        · have HI := Lib.hid (H8.out q hlq)
          have HTh := Lib.hid (H9.out q)
          have hqi : ((q : Int) < (j : Int) - 1) := by omega
          go_wp2_with (first
            | (refine wpList_allocK hS rfl rfl ?_; clear hS; intro bS wS hS) | (refine wpList_build_rel0 rfl rfl ?_) | (refine wpList_build_rel1 rfl _ rfl _ rfl ?_) | (refine wpList_loadK _ hS _ rfl rfl (by first | exact ix0 | exact ixS ix0 | exact ixS (ixS ix0) | exact ixS (ixS (ixS ix0))) (by rfl) ?_) | (refine wpList_loadNK _ hS _ rfl rfl (by first | exact ix0 | exact ixS ix0 | exact ixS (ixS ix0) | exact ixS (ixS (ixS ix0))) (by rfl) ?_) | (refine wpList_storeK _ hS _ _ rfl rfl (by first | exact ix0 | exact ixS ix0 | exact ixS (ixS ix0) | exact ixS (ixS (ixS ix0))) rfl rfl ?_; clear hS; intro wS hS; (first | simp only [List.set_cons_zero] at hS | simp only [List.set_cons_succ, List.set_cons_zero] at hS)) | (refine wpList_storeNK _ hS _ _ rfl rfl (by first | exact ix0 | exact ixS ix0 | exact ixS (ixS ix0) | exact ixS (ixS (ixS ix0))) rfl (by rfl) ?_; clear hS; intro wS hS; (first | simp only [List.set_cons_zero] at hS | simp only [List.set_cons_succ, List.set_cons_zero] at hS)) | (refine wpList_eqlK _ _ _ rfl rfl rfl (by rfl) ?_) | (refine wpList_neqK _ _ _ rfl rfl rfl (by rfl) ?_)
            | (go_at_call 54; (with_reducible refine (HI.out _ (hS.tab HT.out)).mono ?_); rintro e wS ⟨rfl, hb⟩; have hS2 := hS.over hb; clear hS hb; have hS := hS2; clear hS2) | (go_at_call 58; (with_reducible refine (HTh.out _ (hS.tab HT.out)).mono ?_); rintro e wS ⟨rfl, hb⟩; have hS2 := hS.over hb; clear hS hb; have hS := hS2; clear hS2))
          refine ⟨⟨q + 1, by omega, by go_num, hS.tail⟩, by simp [intOf]; omega⟩
        · have hqj : q = j - 1 := by omega
          have HF := Lib.hid (show CIrr k (Q q) false by rw [hqj]; exact H10.out)
          have hqi : ¬ ((q : Int) < (j : Int) - 1) := by omega
          clear hqj
          go_wp2_with (first
            | (refine wpList_allocK hS rfl rfl ?_; clear hS; intro bS wS hS) | (refine wpList_build_rel0 rfl rfl ?_) | (refine wpList_build_rel1 rfl _ rfl _ rfl ?_) | (refine wpList_loadK _ hS _ rfl rfl (by first | exact ix0 | exact ixS ix0 | exact ixS (ixS ix0) | exact ixS (ixS (ixS ix0))) (by rfl) ?_) | (refine wpList_loadNK _ hS _ rfl rfl (by first | exact ix0 | exact ixS ix0 | exact ixS (ixS ix0) | exact ixS (ixS (ixS ix0))) (by rfl) ?_) | (refine wpList_storeK _ hS _ _ rfl rfl (by first | exact ix0 | exact ixS ix0 | exact ixS (ixS ix0) | exact ixS (ixS (ixS ix0))) rfl rfl ?_; clear hS; intro wS hS; (first | simp only [List.set_cons_zero] at hS | simp only [List.set_cons_succ, List.set_cons_zero] at hS)) | (refine wpList_storeNK _ hS _ _ rfl rfl (by first | exact ix0 | exact ixS ix0 | exact ixS (ixS ix0) | exact ixS (ixS (ixS ix0))) rfl (by rfl) ?_; clear hS; intro wS hS; (first | simp only [List.set_cons_zero] at hS | simp only [List.set_cons_succ, List.set_cons_zero] at hS)) | (refine wpList_eqlK _ _ _ rfl rfl rfl (by rfl) ?_) | (refine wpList_neqK _ _ _ rfl rfl rfl (by rfl) ?_)
            | (go_at_call 54; (with_reducible refine (HF.out _ (hS.tab HT.out)).mono ?_); rintro e wS ⟨rfl, hb⟩; have hS2 := hS.over hb; clear hS hb; have hS := hS2; clear hS2)
            | (go_at_call 57; (with_reducible refine (c_awake2 _ (hS.tab HT.out)).mono ?_); rintro e wS ⟨rfl, hb⟩; have hS2 := hS.over hb; clear hS hb; have hS := hS2; clear hS2))
          go_ret
          exact ⟨rfl, hS.st.bel⟩
end Go.Proofs.YtgegmoedgegkcaaDoor
