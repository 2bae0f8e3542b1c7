/-
  seisinlaw02.RelThen returns true for every three relations, if the library table is laid.
-/
import Derived.Test.YtgegmoedgegkcaaDoorCC
namespace Go.Proofs.YtgegmoedgegkcaaDoor
open Go.RowKit

set_option maxRecDepth 8000 in
set_option maxHeartbeats 8000000 in
theorem then_walk (n m q : Int) (f g h : Nat → BitVec 64) (k : Nat) (A B C AB BC X U AU AC BB BA T I : Nat → BitVec 64)
    (h1 : CFine n f 20 k A) (h2 : CFine k g 20 k B) (h3 : CFine k h 20 k C) (h4 : C2 58 k A B AB) (h5 : C2 58 k B C BC) (h6 : C2 58 k AB C X) (h7 : C2 58 k A BC X) (h8 : C2 67 k B C U) (h9 : C2 58 k A U AU) (h10 : C2 58 k A C AC) (h11 : C2 67 k AB AC AU)
    (h12 : C1 68 k B BB) (h13 : C1 68 k A BA) (h14 : C2 58 k BB BA T) (h15 : ∀ w, Calls Tryd.prog 69 #[.int .i64 k, .int .u64 18446744073709551615] w fun e w' => e = .returned (.agg (rcs k I)) ∧ Below w.heap.size w w') (h16 : C2 58 k A I A) (h17 : C1 68 k AB T) (h18 : C1 68 k BA A) (w : World) (hT : Tab w) :
    Calls Tryd.prog 15 #[.agg (rcs n f), .agg (rcs m g), .agg (rcs q h)] w fun e w' => e = .returned (.bool true) ∧ Below w.heap.size w w' := by
  have H1 := Lib.hid h1
  have H2 := Lib.hid h2
  have H3 := Lib.hid h3
  have H4 := Lib.hid h4
  have H5 := Lib.hid h5
  have H6 := Lib.hid h6
  have H7 := Lib.hid h7
  have H8 := Lib.hid h8
  have H9 := Lib.hid h9
  have H10 := Lib.hid h10
  have H11 := Lib.hid h11
  have H12 := Lib.hid h12
  have H13 := Lib.hid h13
  have H14 := Lib.hid h14
  have H15 := Lib.hid h15
  have H16 := Lib.hid h16
  have H17 := Lib.hid h17
  have H18 := Lib.hid h18
  have HT := Lib.hid hT
  have hS := Sk.of (St.box3 w n m q f g h)
  clear h1 h2 h3 h4 h5 h6 h7 h8 h9 h10 h11 h12 h13 h14 h15 h16 h17 h18 hT
  go_enter Tryd.func15, Tryd.ntmps15
  go_upto_region 1 with (fail)
  generalize ((w.alloc (.cells (rcs n f) 53)).alloc (.cells (rcs m g) 53)).alloc (.cells (rcs q h) 53) = wS at *
  generalize w.heap.size + 1 + 1 = b5 at *
  generalize w.heap.size + 1 = b4 at *
  obtain ⟨b3, hb3⟩ : ∃ b3, w.heap.size = b3 := ⟨_, rfl⟩
  simp only [hb3] at hS ⊢
  go_upto_region 2 with (first
    | (refine wpList_allocK hS rfl rfl ?_; clear hS; intro bS wS hS) | (refine wpList_build_rel0 rfl rfl ?_) | (refine wpList_build_rel1 rfl _ rfl _ rfl ?_) | (refine wpList_loadK _ hS _ rfl rfl (by first | exact ix0 | exact ixS ix0 | exact ixS (ixS ix0) | exact ixS (ixS (ixS ix0))) (by rfl) ?_) | (refine wpList_loadNK _ hS _ rfl rfl (by first | exact ix0 | exact ixS ix0 | exact ixS (ixS ix0) | exact ixS (ixS (ixS ix0))) (by rfl) ?_) | (refine wpList_storeK _ hS _ _ rfl rfl (by first | exact ix0 | exact ixS ix0 | exact ixS (ixS ix0) | exact ixS (ixS (ixS ix0))) rfl rfl ?_; clear hS; intro wS hS; (first | simp only [List.set_cons_zero] at hS | simp only [List.set_cons_succ, List.set_cons_zero] at hS)) | (refine wpList_storeNK _ hS _ _ rfl rfl (by first | exact ix0 | exact ixS ix0 | exact ixS (ixS ix0) | exact ixS (ixS (ixS ix0))) rfl (by rfl) ?_; clear hS; intro wS hS; (first | simp only [List.set_cons_zero] at hS | simp only [List.set_cons_succ, List.set_cons_zero] at hS)) | (refine wpList_eqlK _ _ _ rfl rfl rfl (by rfl) ?_) | (refine wpList_neqK _ _ _ rfl rfl rfl (by rfl) ?_)
    | (go_at_call 43; (with_reducible refine (H1.out _).mono ?_); rintro e wS ⟨rfl, hb⟩; have hS2 := hS.over hb; clear hS hb; have hS := hS2; clear hS2))
  have hn3 := hS.st.n_cell (i := 2) rfl
  have hn4 := hS.st.n_cell (i := 1) rfl
  have hn5 := hS.st.n_cell (i := 0) rfl
  have hf4 := (hS.st.get (i := 1) rfl).unfrozen 0
  have hf5 := (hS.st.get (i := 0) rfl).unfrozen 0
  simp only at hf4 hf5
  have hSa := hS.putN (i := 1) (k : Int) rfl
  simp only [List.set_cons_succ, List.set_cons_zero] at hSa
  have hm3 := hSa.st.n_cell (i := 2) rfl
  have hm5 := hSa.st.n_cell (i := 0) rfl
  have hg5 := (hSa.st.get (i := 0) rfl).unfrozen 0
  simp only at hg5
  have hSb := ((hSa.putN (i := 0) (k : Int) rfl).drewN 1)
  simp only [List.set_cons_zero] at hSb
  change Sk w ((wS.setCell ⟨b4, 0, none⟩ (.int .i64 (k : Int))).setCell ⟨b5, 0, none⟩ (.int .i64 (k : Int))).drew _ _ at hSb
  clear hSa hS
  apply wp_share
  · intro hR
    go_region
    all_goals exact hR.out
  clear hm3 hm5 hg5 hn3 hn4 hn5 hf4 hf5
  generalize ((wS.setCell ⟨b4, 0, none⟩ (.int .i64 (k : Int))).setCell ⟨b5, 0, none⟩ (.int .i64 (k : Int))).drew = wS at *
  have hS := hSb
  clear hSb
  go_wp2
  (refine wp_region_tail 4 (by kernel_rfl) (by kernel_rfl) ?_; simp only [List.take_succ_cons, List.take_zero, List.drop_succ_cons, List.drop_zero]; refine WpV.out ?_; (repeat (first | ((refine t_step (fun K hK => ?_)); (first | (refine cb_load _ hS _ rfl rfl (by first | exact ix0 | exact ixS ix0 | exact ixS (ixS ix0) | exact ixS (ixS (ixS ix0)) | exact ixS (ixS (ixS (ixS ix0))) | exact ixS (ixS (ixS (ixS (ixS ix0)))) | exact ixS (ixS (ixS (ixS (ixS (ixS ix0))))) | exact ixS (ixS (ixS (ixS (ixS (ixS (ixS ix0)))))) | exact ixS (ixS (ixS (ixS (ixS (ixS (ixS (ixS ix0))))))) | exact ixS (ixS (ixS (ixS (ixS (ixS (ixS (ixS (ixS ix0)))))))) | exact ixS (ixS (ixS (ixS (ixS (ixS (ixS (ixS (ixS (ixS ix0))))))))) | exact ixS (ixS (ixS (ixS (ixS (ixS (ixS (ixS (ixS (ixS (ixS ix0)))))))))) | exact ixS (ixS (ixS (ixS (ixS (ixS (ixS (ixS (ixS (ixS (ixS (ixS ix0)))))))))))) (by rfl) ?_) | (refine cb_loadN _ hS _ rfl rfl (by first | exact ix0 | exact ixS ix0 | exact ixS (ixS ix0) | exact ixS (ixS (ixS ix0)) | exact ixS (ixS (ixS (ixS ix0))) | exact ixS (ixS (ixS (ixS (ixS ix0)))) | exact ixS (ixS (ixS (ixS (ixS (ixS ix0))))) | exact ixS (ixS (ixS (ixS (ixS (ixS (ixS ix0)))))) | exact ixS (ixS (ixS (ixS (ixS (ixS (ixS (ixS ix0))))))) | exact ixS (ixS (ixS (ixS (ixS (ixS (ixS (ixS (ixS ix0)))))))) | exact ixS (ixS (ixS (ixS (ixS (ixS (ixS (ixS (ixS (ixS ix0))))))))) | exact ixS (ixS (ixS (ixS (ixS (ixS (ixS (ixS (ixS (ixS (ixS ix0)))))))))) | exact ixS (ixS (ixS (ixS (ixS (ixS (ixS (ixS (ixS (ixS (ixS (ixS ix0)))))))))))) (by rfl) ?_) | (refine cb_eql _ _ _ rfl rfl rfl (by rfl) ?_) | (refine cb_neq _ _ _ rfl rfl rfl (by rfl) ?_)); refine hK _ ?_; clear hK K) | ((refine t_step (fun K hK => ?_)); go_simp; (first | (refine hK _ ?_; clear hK K) | (refine CalmB.of ?_; apply Exists.intro; refine ⟨fun wcalm hcalm => ?_, hK _ ?_⟩; (focus ((skip); go_simp; first | done | (first | (go_at_call 43; with_reducible exact H2.out _) | (go_at_call 43; with_reducible exact H3.out _)) | rfl)); clear hK K))))); refine v_nil ?_; intro wq hq)
  have hS2 := hS.over hq; clear hS hq; have hS := hS2; clear hS2
  go_upto_region 12 with (first
    | (refine wpList_allocK hS rfl rfl ?_; clear hS; intro bS wS hS) | (refine wpList_build_rel0 rfl rfl ?_) | (refine wpList_build_rel1 rfl _ rfl _ rfl ?_) | (refine wpList_loadK _ hS _ rfl rfl (by first | exact ix0 | exact ixS ix0 | exact ixS (ixS ix0) | exact ixS (ixS (ixS ix0)) | exact ixS (ixS (ixS (ixS ix0))) | exact ixS (ixS (ixS (ixS (ixS ix0)))) | exact ixS (ixS (ixS (ixS (ixS (ixS ix0))))) | exact ixS (ixS (ixS (ixS (ixS (ixS (ixS ix0)))))) | exact ixS (ixS (ixS (ixS (ixS (ixS (ixS (ixS ix0))))))) | exact ixS (ixS (ixS (ixS (ixS (ixS (ixS (ixS (ixS ix0)))))))) | exact ixS (ixS (ixS (ixS (ixS (ixS (ixS (ixS (ixS (ixS ix0))))))))) | exact ixS (ixS (ixS (ixS (ixS (ixS (ixS (ixS (ixS (ixS (ixS ix0))))))))))) (by rfl) ?_) | (refine wpList_loadNK _ hS _ rfl rfl (by first | exact ix0 | exact ixS ix0 | exact ixS (ixS ix0) | exact ixS (ixS (ixS ix0)) | exact ixS (ixS (ixS (ixS ix0))) | exact ixS (ixS (ixS (ixS (ixS ix0)))) | exact ixS (ixS (ixS (ixS (ixS (ixS ix0))))) | exact ixS (ixS (ixS (ixS (ixS (ixS (ixS ix0)))))) | exact ixS (ixS (ixS (ixS (ixS (ixS (ixS (ixS ix0))))))) | exact ixS (ixS (ixS (ixS (ixS (ixS (ixS (ixS (ixS ix0)))))))) | exact ixS (ixS (ixS (ixS (ixS (ixS (ixS (ixS (ixS (ixS ix0))))))))) | exact ixS (ixS (ixS (ixS (ixS (ixS (ixS (ixS (ixS (ixS (ixS ix0))))))))))) (by rfl) ?_) | (refine wpList_storeK _ hS _ _ rfl rfl (by first | exact ix0 | exact ixS ix0 | exact ixS (ixS ix0) | exact ixS (ixS (ixS ix0)) | exact ixS (ixS (ixS (ixS ix0))) | exact ixS (ixS (ixS (ixS (ixS ix0)))) | exact ixS (ixS (ixS (ixS (ixS (ixS ix0))))) | exact ixS (ixS (ixS (ixS (ixS (ixS (ixS ix0)))))) | exact ixS (ixS (ixS (ixS (ixS (ixS (ixS (ixS ix0))))))) | exact ixS (ixS (ixS (ixS (ixS (ixS (ixS (ixS (ixS ix0)))))))) | exact ixS (ixS (ixS (ixS (ixS (ixS (ixS (ixS (ixS (ixS ix0))))))))) | exact ixS (ixS (ixS (ixS (ixS (ixS (ixS (ixS (ixS (ixS (ixS ix0))))))))))) rfl rfl ?_; clear hS; intro wS hS; (first | simp only [List.set_cons_zero] at hS | simp only [List.set_cons_succ, List.set_cons_zero] at hS)) | (refine wpList_storeNK _ hS _ _ rfl rfl (by first | exact ix0 | exact ixS ix0 | exact ixS (ixS ix0) | exact ixS (ixS (ixS ix0)) | exact ixS (ixS (ixS (ixS ix0))) | exact ixS (ixS (ixS (ixS (ixS ix0)))) | exact ixS (ixS (ixS (ixS (ixS (ixS ix0))))) | exact ixS (ixS (ixS (ixS (ixS (ixS (ixS ix0)))))) | exact ixS (ixS (ixS (ixS (ixS (ixS (ixS (ixS ix0))))))) | exact ixS (ixS (ixS (ixS (ixS (ixS (ixS (ixS (ixS ix0)))))))) | exact ixS (ixS (ixS (ixS (ixS (ixS (ixS (ixS (ixS (ixS ix0))))))))) | exact ixS (ixS (ixS (ixS (ixS (ixS (ixS (ixS (ixS (ixS (ixS ix0))))))))))) rfl (by rfl) ?_; clear hS; intro wS hS; (first | simp only [List.set_cons_zero] at hS | simp only [List.set_cons_succ, List.set_cons_zero] at hS)) | (refine wpList_eqlK _ _ _ rfl rfl rfl (by rfl) ?_) | (refine wpList_neqK _ _ _ rfl rfl rfl (by rfl) ?_)
    | (go_at_call 58; (with_reducible refine (H4.out _ (hS.tab HT.out)).mono ?_); rintro e wS ⟨rfl, hb⟩; have hS2 := hS.over hb; clear hS hb; have hS := hS2; clear hS2) | (go_at_call 58; (with_reducible refine (H5.out _ (hS.tab HT.out)).mono ?_); rintro e wS ⟨rfl, hb⟩; have hS2 := hS.over hb; clear hS hb; have hS := hS2; clear hS2) | (go_at_call 58; (with_reducible refine (H6.out _ (hS.tab HT.out)).mono ?_); rintro e wS ⟨rfl, hb⟩; have hS2 := hS.over hb; clear hS hb; have hS := hS2; clear hS2) | (go_at_call 58; (with_reducible refine (H7.out _ (hS.tab HT.out)).mono ?_); rintro e wS ⟨rfl, hb⟩; have hS2 := hS.over hb; clear hS hb; have hS := hS2; clear hS2) | (go_at_call 58; (with_reducible refine (H9.out _ (hS.tab HT.out)).mono ?_); rintro e wS ⟨rfl, hb⟩; have hS2 := hS.over hb; clear hS hb; have hS := hS2; clear hS2) | (go_at_call 58; (with_reducible refine (H10.out _ (hS.tab HT.out)).mono ?_); rintro e wS ⟨rfl, hb⟩; have hS2 := hS.over hb; clear hS hb; have hS := hS2; clear hS2) | (go_at_call 67; (with_reducible refine (H8.out _ (hS.tab HT.out)).mono ?_); rintro e wS ⟨rfl, hb⟩; have hS2 := hS.over hb; clear hS hb; have hS := hS2; clear hS2) | (go_at_call 67; (with_reducible refine (H11.out _ (hS.tab HT.out)).mono ?_); rintro e wS ⟨rfl, hb⟩; have hS2 := hS.over hb; clear hS hb; have hS := hS2; clear hS2))
  have HTS := Lib.hid (hS.tab HT.out)
  (refine wp_region_fresh 8 9 23 (nn := k) (hh := T) (by kernel_rfl) (by kernel_rfl) (by first | simp | simp [Act.put]) ?_; refine WpV.out ?_; (repeat (first | (refine f_alloc rfl rfl rfl rfl ?_) | (refine f_store _ rfl rfl (by decide) rfl rfl rfl ?_) | ((refine f_step (by rfl) (fun K hK => ?_)); (first | (refine cb_load _ hS _ rfl rfl (by first | exact ix0 | exact ixS ix0 | exact ixS (ixS ix0) | exact ixS (ixS (ixS ix0)) | exact ixS (ixS (ixS (ixS ix0))) | exact ixS (ixS (ixS (ixS (ixS ix0)))) | exact ixS (ixS (ixS (ixS (ixS (ixS ix0))))) | exact ixS (ixS (ixS (ixS (ixS (ixS (ixS ix0)))))) | exact ixS (ixS (ixS (ixS (ixS (ixS (ixS (ixS ix0))))))) | exact ixS (ixS (ixS (ixS (ixS (ixS (ixS (ixS (ixS ix0)))))))) | exact ixS (ixS (ixS (ixS (ixS (ixS (ixS (ixS (ixS (ixS ix0))))))))) | exact ixS (ixS (ixS (ixS (ixS (ixS (ixS (ixS (ixS (ixS (ixS ix0)))))))))) | exact ixS (ixS (ixS (ixS (ixS (ixS (ixS (ixS (ixS (ixS (ixS (ixS ix0)))))))))))) (by rfl) ?_) | (refine cb_loadN _ hS _ rfl rfl (by first | exact ix0 | exact ixS ix0 | exact ixS (ixS ix0) | exact ixS (ixS (ixS ix0)) | exact ixS (ixS (ixS (ixS ix0))) | exact ixS (ixS (ixS (ixS (ixS ix0)))) | exact ixS (ixS (ixS (ixS (ixS (ixS ix0))))) | exact ixS (ixS (ixS (ixS (ixS (ixS (ixS ix0)))))) | exact ixS (ixS (ixS (ixS (ixS (ixS (ixS (ixS ix0))))))) | exact ixS (ixS (ixS (ixS (ixS (ixS (ixS (ixS (ixS ix0)))))))) | exact ixS (ixS (ixS (ixS (ixS (ixS (ixS (ixS (ixS (ixS ix0))))))))) | exact ixS (ixS (ixS (ixS (ixS (ixS (ixS (ixS (ixS (ixS (ixS ix0)))))))))) | exact ixS (ixS (ixS (ixS (ixS (ixS (ixS (ixS (ixS (ixS (ixS (ixS ix0)))))))))))) (by rfl) ?_) | (refine cb_eql _ _ _ rfl rfl rfl (by rfl) ?_) | (refine cb_neq _ _ _ rfl rfl rfl (by rfl) ?_)); refine hK _ ?_; clear hK K) | ((refine f_step (by rfl) (fun K hK => ?_)); go_simp; (first | (refine hK _ ?_; clear hK K) | (refine CalmB.of ?_; apply Exists.intro; refine ⟨fun wcalm hcalm => ?_, hK _ ?_⟩; (focus ((skip); go_simp; first | done | (first | (go_at_call 68; with_reducible exact H12.out _ (Tab.bel hcalm HTS.out)) | (go_at_call 68; with_reducible exact H13.out _ (Tab.bel hcalm HTS.out)) | (go_at_call 58; with_reducible exact H14.out _ (Tab.bel hcalm HTS.out))) | rfl)); clear hK K))))); refine v_nil ?_; intro bF wq hq hrF hbF; try go_simp)
  have hS2 := hS.fresh hq hrF hbF; clear hS hq hrF hbF; have hS := hS2; clear hS2
  clear HTS
  go_wp2
  have HTS := Lib.hid (hS.tab HT.out)
  (refine wp_region_fresh 8 9 25 (nn := k) (hh := A) (by kernel_rfl) (by kernel_rfl) (by first | simp | simp [Act.put]) ?_; refine WpV.out ?_; (repeat (first | (refine f_alloc rfl rfl rfl rfl ?_) | (refine f_store _ rfl rfl (by decide) rfl rfl rfl ?_) | ((refine f_step (by rfl) (fun K hK => ?_)); (first | (refine cb_load _ hS _ rfl rfl (by first | exact ix0 | exact ixS ix0 | exact ixS (ixS ix0) | exact ixS (ixS (ixS ix0)) | exact ixS (ixS (ixS (ixS ix0))) | exact ixS (ixS (ixS (ixS (ixS ix0)))) | exact ixS (ixS (ixS (ixS (ixS (ixS ix0))))) | exact ixS (ixS (ixS (ixS (ixS (ixS (ixS ix0)))))) | exact ixS (ixS (ixS (ixS (ixS (ixS (ixS (ixS ix0))))))) | exact ixS (ixS (ixS (ixS (ixS (ixS (ixS (ixS (ixS ix0)))))))) | exact ixS (ixS (ixS (ixS (ixS (ixS (ixS (ixS (ixS (ixS ix0))))))))) | exact ixS (ixS (ixS (ixS (ixS (ixS (ixS (ixS (ixS (ixS (ixS ix0)))))))))) | exact ixS (ixS (ixS (ixS (ixS (ixS (ixS (ixS (ixS (ixS (ixS (ixS ix0)))))))))))) (by rfl) ?_) | (refine cb_loadN _ hS _ rfl rfl (by first | exact ix0 | exact ixS ix0 | exact ixS (ixS ix0) | exact ixS (ixS (ixS ix0)) | exact ixS (ixS (ixS (ixS ix0))) | exact ixS (ixS (ixS (ixS (ixS ix0)))) | exact ixS (ixS (ixS (ixS (ixS (ixS ix0))))) | exact ixS (ixS (ixS (ixS (ixS (ixS (ixS ix0)))))) | exact ixS (ixS (ixS (ixS (ixS (ixS (ixS (ixS ix0))))))) | exact ixS (ixS (ixS (ixS (ixS (ixS (ixS (ixS (ixS ix0)))))))) | exact ixS (ixS (ixS (ixS (ixS (ixS (ixS (ixS (ixS (ixS ix0))))))))) | exact ixS (ixS (ixS (ixS (ixS (ixS (ixS (ixS (ixS (ixS (ixS ix0)))))))))) | exact ixS (ixS (ixS (ixS (ixS (ixS (ixS (ixS (ixS (ixS (ixS (ixS ix0)))))))))))) (by rfl) ?_) | (refine cb_eql _ _ _ rfl rfl rfl (by rfl) ?_) | (refine cb_neq _ _ _ rfl rfl rfl (by rfl) ?_)); refine hK _ ?_; clear hK K) | ((refine f_step (by rfl) (fun K hK => ?_)); go_simp; (first | (refine hK _ ?_; clear hK K) | (refine CalmB.of ?_; apply Exists.intro; refine ⟨fun wcalm hcalm => ?_, hK _ ?_⟩; (focus ((skip); go_simp; first | done | (first | (go_at_call 69; with_reducible exact H15.out _) | (go_at_call 58; with_reducible exact H16.out _ (Tab.bel hcalm HTS.out))) | rfl)); clear hK K))))); refine v_nil ?_; intro bF wq hq hrF hbF; try go_simp)
  have hS2 := hS.fresh hq hrF hbF; clear hS hq hrF hbF; have hS := hS2; clear hS2
  clear HTS
  go_wp2
  have HTS := Lib.hid (hS.tab HT.out)
  (refine wp_region_only (by kernel_rfl) (by kernel_rfl) ?_; refine WpV.out ?_; (repeat (first | ((refine t_step (fun K hK => ?_)); (first | (refine cb_load _ hS _ rfl rfl (by first | exact ix0 | exact ixS ix0 | exact ixS (ixS ix0) | exact ixS (ixS (ixS ix0)) | exact ixS (ixS (ixS (ixS ix0))) | exact ixS (ixS (ixS (ixS (ixS ix0)))) | exact ixS (ixS (ixS (ixS (ixS (ixS ix0))))) | exact ixS (ixS (ixS (ixS (ixS (ixS (ixS ix0)))))) | exact ixS (ixS (ixS (ixS (ixS (ixS (ixS (ixS ix0))))))) | exact ixS (ixS (ixS (ixS (ixS (ixS (ixS (ixS (ixS ix0)))))))) | exact ixS (ixS (ixS (ixS (ixS (ixS (ixS (ixS (ixS (ixS ix0))))))))) | exact ixS (ixS (ixS (ixS (ixS (ixS (ixS (ixS (ixS (ixS (ixS ix0)))))))))) | exact ixS (ixS (ixS (ixS (ixS (ixS (ixS (ixS (ixS (ixS (ixS (ixS ix0)))))))))))) (by rfl) ?_) | (refine cb_loadN _ hS _ rfl rfl (by first | exact ix0 | exact ixS ix0 | exact ixS (ixS ix0) | exact ixS (ixS (ixS ix0)) | exact ixS (ixS (ixS (ixS ix0))) | exact ixS (ixS (ixS (ixS (ixS ix0)))) | exact ixS (ixS (ixS (ixS (ixS (ixS ix0))))) | exact ixS (ixS (ixS (ixS (ixS (ixS (ixS ix0)))))) | exact ixS (ixS (ixS (ixS (ixS (ixS (ixS (ixS ix0))))))) | exact ixS (ixS (ixS (ixS (ixS (ixS (ixS (ixS (ixS ix0)))))))) | exact ixS (ixS (ixS (ixS (ixS (ixS (ixS (ixS (ixS (ixS ix0))))))))) | exact ixS (ixS (ixS (ixS (ixS (ixS (ixS (ixS (ixS (ixS (ixS ix0)))))))))) | exact ixS (ixS (ixS (ixS (ixS (ixS (ixS (ixS (ixS (ixS (ixS (ixS ix0)))))))))))) (by rfl) ?_) | (refine cb_eql _ _ _ rfl rfl rfl (by rfl) ?_) | (refine cb_neq _ _ _ rfl rfl rfl (by rfl) ?_)); refine hK _ ?_; clear hK K) | ((refine t_step (fun K hK => ?_)); go_simp; (first | (refine hK _ ?_; clear hK K) | (refine CalmB.of ?_; apply Exists.intro; refine ⟨fun wcalm hcalm => ?_, hK _ ?_⟩; (focus ((skip); go_simp; first | done | (first | (go_at_call 68; with_reducible exact H17.out _ (Tab.bel hcalm HTS.out)) | (go_at_call 68; with_reducible exact H13.out _ (Tab.bel hcalm HTS.out)) | (go_at_call 68; with_reducible exact H18.out _ (Tab.bel hcalm HTS.out)) | (go_at_call 57; with_reducible exact c_awake2 _ (Tab.bel hcalm HTS.out))) | rfl)); clear hK K))))); refine v_nil ?_; intro wq hq)
  go_wp2
  go_ret
  exact ⟨rfl, (hS.over hq).st.bel⟩
end Go.Proofs.YtgegmoedgegkcaaDoor
