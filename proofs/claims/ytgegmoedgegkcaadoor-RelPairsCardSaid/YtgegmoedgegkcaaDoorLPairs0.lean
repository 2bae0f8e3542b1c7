/-
  seisinlaw02.RelPairs: the walk, where the relation has no pairs.
-/
import Derived.Test.YtgegmoedgegkcaaDoorLPairsT
namespace Go.Proofs.YtgegmoedgegkcaaDoor
open Go.RowKit

theorem run_append_zero {P : Program} (w : World) (base : Nat) (t ty e : TypeId) (i : TypeInfo) (size : Nat) (ht : P.underlying t = some (.slice e)) (hi : P.info? e = some i) (v : Value) (n : Nat) (xs : List Value) (hown : w.ownsRow base e size v n xs) (hn : n = 0) :
    (Builtin.append_ #[t, t] ty #[v, v]).run P w = .ok v w := by
  subst hn
  rcases hown.2 with ⟨rfl, _⟩ | ⟨g, cap, cur, rfl, _, _, hnc, _⟩
  · simp [Builtin.append_, run_underlying ht, sizeOf, typeInfo, hi, Builtin.lenOf, Builtin.firstCells]
  · simp [Builtin.append_, run_underlying ht, sizeOf, typeInfo, hi, Builtin.lenOf, Builtin.firstCells, loadCells, loadCellsFrom, storeCells]
theorem cb_app {P : Program} {ops : Array Oper} {w0 : World} {o : Oper} {a : Act} {K : Act → Prop} {v u v' : Value} (x y : Operand) (t : TypeId) (hop : o.op = .call { callee := .builtin .append, args := #[x, y], argTypes := #[t, t] }) (hx : a.eval x = v) (hy : a.eval y = u)
    (hgd : Region.wanted o (yielded ops a.tmps) = true) (hrun : ∀ w, Cls w0 w → (Builtin.append_ #[t, t] o.type #[v, u]).run P w = .ok v' w) (h : K (a.put o.dst v')) : if Region.wanted o (yielded ops a.tmps) = true then CalmB P o a w0 K else K (a.put o.dst undef) := by
  rw [if_pos hgd]
  refine CalmB.of ⟨v', fun w hC => ?_, h⟩
  unfold Oper.quietAt
  rw [run_app x y t v u hop hx hy (hrun w hC)]
  exact ⟨rfl, rfl⟩
theorem app_zero {base m : Nat} {v : Value} {xs : List Value} (w : World) (_ : base ≤ w.heap.size) (h : w.ownsRow base 74 2 v m xs) (hm : m = 0) :
    ∃ ad cap, v = .slice ad m cap ∧ ∀ w', Cls w w' → (Builtin.append_ #[72, 72] 72 #[.slice ad m cap, .slice ad m cap]).run Tryd.prog w' = .ok (.slice ad m cap) w' := by
  obtain ⟨i0, hi, _⟩ := info_parts info74
  have key : ∀ w', Cls w w' → (Builtin.append_ #[72, 72] 72 #[v, v]).run Tryd.prog w' = .ok v w' := fun w' hC => run_append_zero w' base 72 72 74 i0 2 Tryd.underlying72 hi v m xs (owns_below h hC) hm
  rcases h.2 with ⟨rfl, _⟩ | ⟨g, cap, cur, rfl, _⟩
  · subst hm; exact ⟨none, 0, rfl, key⟩
  · exact ⟨_, cap, rfl, key⟩
set_option maxRecDepth 8000 in
set_option maxHeartbeats 8000000 in
theorem pairs_walk0 (n n2 : Int) (f g : Nat → BitVec 64) (x : Nat) (k : Nat) (A B : Nat → BitVec 64) (l : List (Nat × Nat)) (m r : Nat) (hx : x ≤ 65535) (hk : k ≤ 20) (hl : l.length = m) (hm0 : m = 0) (hm3 : m ≤ 3072) (hof : ofV k [] = .tuple #[.agg (rcs k A), .int .i64 0])
    (U V D : Nat → BitVec 64) (lu lv lb ld : List (Nat × Nat)) (mu mv mb md : Nat) (hmu : mu ≤ 3072) (hmv : mv ≤ 3072) (hmb : mb ≤ 3072) (hmd : md ≤ 3072) (he1 : mu + mv = m + mb) (he2 : md + mv = m) 
    (h1 : CFine n f 20 k A) (h2 : CFine k g 20 k B) (h3 : COwn k A l m) (h4 : C2 67 k A B U) (h5 : C2 52 k A B V) (h6 : C2 71 k A B D) (h7 : CPrs k A l m) (h8 : CPrs k U lu mu) (h9 : CPrs k V lv mv) (h10 : CPrs k B lb mb) (h11 : CPrs k D ld md)
    (h12 : CIn k A U) (h13 : CIn k V B) (h14 : CIn k D A) (h15 : CHas k A) (h16 : CSet 72 k A 0#64) (h17 : CSet 73 k A 0#64) (w : World) (hT : Tab w) :
    Calls Tryd.prog 16 #[.agg (rcs n f), .agg (rcs n2 g), .int .u16 (x : Int)] w fun e w' => e = .returned (.bool true) ∧ Below w.heap.size w w' := by
  have H1 := Lib.hid h1
  have H2 := Lib.hid h2
  have H3 := Lib.hid h3
  have H4 := Lib.hid h4
  have H5 := Lib.hid h5
  have H6 := Lib.hid h6
  have H7 := Lib.hid h7
  have H8 := Lib.hid h8
  have H9 := Lib.hid h9
  have H10 := Lib.hid h10
  have H11 := Lib.hid h11
  have H12 := Lib.hid h12
  have H13 := Lib.hid h13
  have H14 := Lib.hid h14
  have H15 := Lib.hid h15
  have H16 := Lib.hid h16
  have H17 := Lib.hid h17
  have HT := Lib.hid hT
  have HLen := Lib.hid hl
  have hS := Sk.of (St.box2 w n n2 f g)
  have hmi : ¬ (0 : Int) < (m : Int) := by omega
  have HM0 := Lib.hid hm0
  have HOF := Lib.hid hof
  clear h1 h2 h3 h4 h5 h6 h7 h8 h9 h10 h11 h12 h13 h14 h15 h16 h17 hT hl hm0 hof
  go_enter Tryd.func16, Tryd.ntmps16
  go_upto_region 1 with (fail)
  generalize (w.alloc (.cells (rcs n f) 53)).alloc (.cells (rcs n2 g) 53) = wS at *
  obtain ⟨b2, hb2⟩ : ∃ b2, w.heap.size = b2 := ⟨_, rfl⟩
  simp only [hb2] at hS ⊢
  go_upto_region 4 with (first
    | (refine wpList_allocK hS rfl rfl ?_; clear hS; intro bS wS hS) | (refine wpList_build_rel0 rfl rfl ?_) | (refine wpList_build_rel1 rfl _ rfl _ rfl ?_) | (refine wpList_loadK _ hS _ rfl rfl (by first | exact ix0 | exact ixS ix0 | exact ixS (ixS ix0) | exact ixS (ixS (ixS ix0))) (by rfl) ?_) | (refine wpList_loadNK _ hS _ rfl rfl (by first | exact ix0 | exact ixS ix0 | exact ixS (ixS ix0) | exact ixS (ixS (ixS ix0))) (by rfl) ?_) | (refine wpList_storeK _ hS _ _ rfl rfl (by first | exact ix0 | exact ixS ix0 | exact ixS (ixS ix0) | exact ixS (ixS (ixS ix0))) rfl rfl ?_; clear hS; intro wS hS; (first | simp only [List.set_cons_zero] at hS | simp only [List.set_cons_succ, List.set_cons_zero] at hS)) | (refine wpList_storeNK _ hS _ _ rfl rfl (by first | exact ix0 | exact ixS ix0 | exact ixS (ixS ix0) | exact ixS (ixS (ixS ix0))) rfl (by rfl) ?_; clear hS; intro wS hS; (first | simp only [List.set_cons_zero] at hS | simp only [List.set_cons_succ, List.set_cons_zero] at hS)) | (refine wpList_eqlK _ _ _ rfl rfl rfl (by rfl) ?_) | (refine wpList_neqK _ _ _ rfl rfl rfl (by rfl) ?_)
    | (go_at_call 43; (with_reducible refine (H1.out _).mono ?_); rintro e wS ⟨rfl, hb⟩; have hS2 := hS.over hb; clear hS hb; have hS := hS2; clear hS2) | (go_at_call 43; (with_reducible refine (H2.out _).mono ?_); rintro e wS ⟨rfl, hb⟩; have hS2 := hS.over hb; clear hS hb; have hS := hS2; clear hS2))
  go_upto_region 5 with (first
    | (refine wpList_allocK hS rfl rfl ?_; clear hS; intro bS wS hS) | (refine wpList_build_rel0 rfl rfl ?_) | (refine wpList_build_rel1 rfl _ rfl _ rfl ?_) | (refine wpList_loadK _ hS _ rfl rfl (by first | exact ix0 | exact ixS ix0 | exact ixS (ixS ix0) | exact ixS (ixS (ixS ix0))) (by rfl) ?_) | (refine wpList_loadNK _ hS _ rfl rfl (by first | exact ix0 | exact ixS ix0 | exact ixS (ixS ix0) | exact ixS (ixS (ixS ix0))) (by rfl) ?_) | (refine wpList_storeK _ hS _ _ rfl rfl (by first | exact ix0 | exact ixS ix0 | exact ixS (ixS ix0) | exact ixS (ixS (ixS ix0))) rfl rfl ?_; clear hS; intro wS hS; (first | simp only [List.set_cons_zero] at hS | simp only [List.set_cons_succ, List.set_cons_zero] at hS)) | (refine wpList_storeNK _ hS _ _ rfl rfl (by first | exact ix0 | exact ixS ix0 | exact ixS (ixS ix0) | exact ixS (ixS (ixS ix0))) rfl (by rfl) ?_; clear hS; intro wS hS; (first | simp only [List.set_cons_zero] at hS | simp only [List.set_cons_succ, List.set_cons_zero] at hS)) | (refine wpList_eqlK _ _ _ rfl rfl rfl (by rfl) ?_) | (refine wpList_neqK _ _ _ rfl rfl rfl (by rfl) ?_)
    | (go_at_call 56; (with_reducible refine (H3.out _ (hS.tab HT.out)).mono ?_); rintro e wS ⟨v, rfl, ho, hb⟩; obtain ⟨c, cap, rfl, hap⟩ := app_zero wS hb.size ho HM0.out; have HAP := Lib.hid hap; clear ho hap; have hS2 := hS.over hb; clear hS hb; have hS := hS2; clear hS2))
  go_upto_region 8 with (fail)
  have HOFC := Lib.hid (show ∀ w', Calls Tryd.prog 70 #[.int .i64 (k : Int), .slice c m cap] w' fun e w'' => e = .returned (.tuple #[.agg (rcs (k : Int) A), .int .i64 0]) ∧ Below w'.heap.size w' w'' from fun w' => by
    rw [← HOF.out]
    exact c_ROf k [] m (by rw [HM0.out]; rfl) (by unfold maxLen; omega) c cap w' (fun j p hp => by simp at hp))
  (refine wp_region_fresh 9 10 9 (nn := k) (hh := A) (by kernel_rfl) (by kernel_rfl) (by first | simp | simp [Act.put]) ?_; refine WpV.out ?_; (repeat (first | (refine f_alloc rfl rfl rfl rfl ?_) | (refine f_store _ rfl rfl (by decide) rfl rfl rfl ?_) | ((refine f_step (by rfl) (fun K hK => ?_)); (first | (refine cb_app _ _ _ rfl rfl rfl (by rfl) HAP.out ?_) | (refine cb_load _ hS _ rfl rfl (by first | exact ix0 | exact ixS ix0 | exact ixS (ixS ix0) | exact ixS (ixS (ixS ix0)) | exact ixS (ixS (ixS (ixS ix0))) | exact ixS (ixS (ixS (ixS (ixS ix0)))) | exact ixS (ixS (ixS (ixS (ixS (ixS ix0))))) | exact ixS (ixS (ixS (ixS (ixS (ixS (ixS ix0)))))) | exact ixS (ixS (ixS (ixS (ixS (ixS (ixS (ixS ix0))))))) | exact ixS (ixS (ixS (ixS (ixS (ixS (ixS (ixS (ixS ix0)))))))) | exact ixS (ixS (ixS (ixS (ixS (ixS (ixS (ixS (ixS (ixS ix0))))))))) | exact ixS (ixS (ixS (ixS (ixS (ixS (ixS (ixS (ixS (ixS (ixS ix0)))))))))) | exact ixS (ixS (ixS (ixS (ixS (ixS (ixS (ixS (ixS (ixS (ixS (ixS ix0)))))))))))) (by rfl) ?_) | (refine cb_loadN _ hS _ rfl rfl (by first | exact ix0 | exact ixS ix0 | exact ixS (ixS ix0) | exact ixS (ixS (ixS ix0)) | exact ixS (ixS (ixS (ixS ix0))) | exact ixS (ixS (ixS (ixS (ixS ix0)))) | exact ixS (ixS (ixS (ixS (ixS (ixS ix0))))) | exact ixS (ixS (ixS (ixS (ixS (ixS (ixS ix0)))))) | exact ixS (ixS (ixS (ixS (ixS (ixS (ixS (ixS ix0))))))) | exact ixS (ixS (ixS (ixS (ixS (ixS (ixS (ixS (ixS ix0)))))))) | exact ixS (ixS (ixS (ixS (ixS (ixS (ixS (ixS (ixS (ixS ix0))))))))) | exact ixS (ixS (ixS (ixS (ixS (ixS (ixS (ixS (ixS (ixS (ixS ix0)))))))))) | exact ixS (ixS (ixS (ixS (ixS (ixS (ixS (ixS (ixS (ixS (ixS (ixS ix0)))))))))))) (by rfl) ?_) | (refine cb_eql _ _ _ rfl rfl rfl (by rfl) ?_) | (refine cb_neq _ _ _ rfl rfl rfl (by rfl) ?_)); refine hK _ ?_; clear hK K) | ((refine f_step (by rfl) (fun K hK => ?_)); go_simp; (first | (refine hK _ ?_; clear hK K) | (refine CalmB.of ?_; apply Exists.intro; refine ⟨fun wcalm hcalm => ?_, hK _ ?_⟩; (focus ((skip); go_simp; first | done | (go_at_call 70; with_reducible exact HOFC.out _) | rfl)); clear hK K))))); refine v_nil ?_; intro bF wq hq hrF hbF; try go_simp)
  have hS2 := hS.fresh hq hrF hbF; clear hS hq hrF hbF; have hS := hS2; clear hS2
  go_upto_region 12 with (first
    | (refine wpList_allocK hS rfl rfl ?_; clear hS; intro bS wS hS) | (refine wpList_build_rel0 rfl rfl ?_) | (refine wpList_build_rel1 rfl _ rfl _ rfl ?_) | (refine wpList_loadK _ hS _ rfl rfl (by first | exact ix0 | exact ixS ix0 | exact ixS (ixS ix0) | exact ixS (ixS (ixS ix0)) | exact ixS (ixS (ixS (ixS ix0))) | exact ixS (ixS (ixS (ixS (ixS ix0)))) | exact ixS (ixS (ixS (ixS (ixS (ixS ix0)))))) (by rfl) ?_) | (refine wpList_loadNK _ hS _ rfl rfl (by first | exact ix0 | exact ixS ix0 | exact ixS (ixS ix0) | exact ixS (ixS (ixS ix0)) | exact ixS (ixS (ixS (ixS ix0))) | exact ixS (ixS (ixS (ixS (ixS ix0)))) | exact ixS (ixS (ixS (ixS (ixS (ixS ix0)))))) (by rfl) ?_) | (refine wpList_storeK _ hS _ _ rfl rfl (by first | exact ix0 | exact ixS ix0 | exact ixS (ixS ix0) | exact ixS (ixS (ixS ix0)) | exact ixS (ixS (ixS (ixS ix0))) | exact ixS (ixS (ixS (ixS (ixS ix0)))) | exact ixS (ixS (ixS (ixS (ixS (ixS ix0)))))) rfl rfl ?_; clear hS; intro wS hS; (first | simp only [List.set_cons_zero] at hS | simp only [List.set_cons_succ, List.set_cons_zero] at hS)) | (refine wpList_storeNK _ hS _ _ rfl rfl (by first | exact ix0 | exact ixS ix0 | exact ixS (ixS ix0) | exact ixS (ixS (ixS ix0)) | exact ixS (ixS (ixS (ixS ix0))) | exact ixS (ixS (ixS (ixS (ixS ix0)))) | exact ixS (ixS (ixS (ixS (ixS (ixS ix0)))))) rfl (by rfl) ?_; clear hS; intro wS hS; (first | simp only [List.set_cons_zero] at hS | simp only [List.set_cons_succ, List.set_cons_zero] at hS)) | (refine wpList_eqlK _ _ _ rfl rfl rfl (by rfl) ?_) | (refine wpList_neqK _ _ _ rfl rfl rfl (by rfl) ?_) | (go_at_call 67; (with_reducible refine (H4.out _ (hS.tab HT.out)).mono ?_); rintro e wS ⟨rfl, hb⟩; have hS2 := hS.over hb; clear hS hb; have hS := hS2; clear hS2) | (go_at_call 52; (with_reducible refine (H5.out _ (hS.tab HT.out)).mono ?_); rintro e wS ⟨rfl, hb⟩; have hS2 := hS.over hb; clear hS hb; have hS := hS2; clear hS2) | (go_at_call 71; (with_reducible refine (H6.out _ (hS.tab HT.out)).mono ?_); rintro e wS ⟨rfl, hb⟩; have hS2 := hS.over hb; clear hS hb; have hS := hS2; clear hS2))
  have HTS := Lib.hid (hS.tab HT.out)
  have hz0 : IntKind.i64.wrap 0 = 0 := by rfl
  have hw1 : IntKind.i64.wrap ((mu : Int) + (mv : Int)) = (m : Int) + (mb : Int) := wrap_sum he1 hmu hmv
  have hw2 : IntKind.i64.wrap ((m : Int) + (mb : Int)) = (m : Int) + (mb : Int) := wrap_sum rfl hm3 hmb
  have hw3 : IntKind.i64.wrap ((md : Int) + (mv : Int)) = (m : Int) := (wrap_sum (b := 0) he2 hmd hmv).trans (by simp)
  (refine wp_region_ptr [89, 92, 96, 99, 106, 109, 113] [(89, LenP mu), (92, LenP mv), (96, LenP m), (99, LenP mb), (106, LenP md), (109, LenP mv), (113, LenP m)] (by kernel_rfl) (by kernel_rfl) (by intro p hp; simp only [List.mem_cons, List.not_mem_nil, or_false] at hp; rcases hp with rfl | rfl | rfl | rfl | rfl | rfl | rfl <;> exact LenP.stays _) ?_; refine WpV.out ?_; (repeat (first | (refine p_call0 89 rfl (by rfl) (by rfl) (by rfl) (fun wcalm hcalm => ?_) ?_; focus (go_simp; refine ptrUpon_enter ?_; exact (H8.out _ (Tab.bel hcalm HTS.out)).mono fun e w2 h => (by obtain ⟨ad2, cap2, e1, _, h3⟩ := h; exact ⟨⟨_, e1, fun q hq => (by cases hq; exact ⟨_, _, rfl⟩)⟩, h3⟩))) | (refine p_call0 92 rfl (by rfl) (by rfl) (by rfl) (fun wcalm hcalm => ?_) ?_; focus (go_simp; refine ptrUpon_enter ?_; exact (H9.out _ (Tab.bel hcalm HTS.out)).mono fun e w2 h => (by obtain ⟨ad2, cap2, e1, _, h3⟩ := h; exact ⟨⟨_, e1, fun q hq => (by cases hq; exact ⟨_, _, rfl⟩)⟩, h3⟩))) | (refine p_call0 96 rfl (by rfl) (by rfl) (by rfl) (fun wcalm hcalm => ?_) ?_; focus (go_simp; refine ptrUpon_enter ?_; exact (H7.out _ (Tab.bel hcalm HTS.out)).mono fun e w2 h => (by obtain ⟨ad2, cap2, e1, _, h3⟩ := h; exact ⟨⟨_, e1, fun q hq => (by cases hq; exact ⟨_, _, rfl⟩)⟩, h3⟩))) | (refine p_call0 99 rfl (by rfl) (by rfl) (by rfl) (fun wcalm hcalm => ?_) ?_; focus (go_simp; refine ptrUpon_enter ?_; exact (H10.out _ (Tab.bel hcalm HTS.out)).mono fun e w2 h => (by obtain ⟨ad2, cap2, e1, _, h3⟩ := h; exact ⟨⟨_, e1, fun q hq => (by cases hq; exact ⟨_, _, rfl⟩)⟩, h3⟩))) | (refine p_call0 106 rfl (by rfl) (by rfl) (by rfl) (fun wcalm hcalm => ?_) ?_; focus (go_simp; refine ptrUpon_enter ?_; exact (H11.out _ (Tab.bel hcalm HTS.out)).mono fun e w2 h => (by obtain ⟨ad2, cap2, e1, _, h3⟩ := h; exact ⟨⟨_, e1, fun q hq => (by cases hq; exact ⟨_, _, rfl⟩)⟩, h3⟩))) | (refine p_call0 109 rfl (by rfl) (by rfl) (by rfl) (fun wcalm hcalm => ?_) ?_; focus (go_simp; refine ptrUpon_enter ?_; exact (H9.out _ (Tab.bel hcalm HTS.out)).mono fun e w2 h => (by obtain ⟨ad2, cap2, e1, _, h3⟩ := h; exact ⟨⟨_, e1, fun q hq => (by cases hq; exact ⟨_, _, rfl⟩)⟩, h3⟩))) | (refine p_call0 113 rfl (by rfl) (by rfl) (by rfl) (fun wcalm hcalm => ?_) ?_; focus (go_simp; refine ptrUpon_enter ?_; exact (H7.out _ (Tab.bel hcalm HTS.out)).mono fun e w2 h => (by obtain ⟨ad2, cap2, e1, _, h3⟩ := h; exact ⟨⟨_, e1, fun q hq => (by cases hq; exact ⟨_, _, rfl⟩)⟩, h3⟩))) | ((refine p_step (by rfl) (fun K hK => ?_)); (first | (refine cb_load _ hS _ rfl rfl (by first | exact ix0 | exact ixS ix0 | exact ixS (ixS ix0) | exact ixS (ixS (ixS ix0)) | exact ixS (ixS (ixS (ixS ix0))) | exact ixS (ixS (ixS (ixS (ixS ix0))))) (by rfl) ?_) | (refine cb_neq _ _ _ rfl rfl rfl (by rfl) ?_)); refine hK _ ?_; clear hK K) | ((refine p_step (by rfl) (fun K hK => ?_)); go_simp; (first | (refine hK _ ?_; clear hK K) | (refine CalmB.of ?_; apply Exists.intro; refine ⟨fun wcalm hcalm => ?_, hK _ ?_⟩; (focus ((skip); go_simp; first | done | (first | (go_at_call 66; with_reducible exact H12.out _ (Tab.bel hcalm HTS.out)) | (go_at_call 66; with_reducible exact H13.out _ (Tab.bel hcalm HTS.out)) | (go_at_call 66; with_reducible exact H14.out _ (Tab.bel hcalm HTS.out))) | rfl)); clear hK K))) | (refine p_stepL (by rfl) (fun K hK => ?_); go_simp; refine CalmL.of ?_; apply Exists.intro; refine ⟨fun bP wcalm hcalm hgood => ?_, hK _ ?_⟩; (focus (first | (obtain ⟨ad2, cap2, hv2⟩ := (hgood.get 89 (by rfl) (by rfl)).at_ rfl; simp only [ovl]; go_simp; first | done | rfl) | (obtain ⟨ad2, cap2, hv2⟩ := (hgood.get 92 (by rfl) (by rfl)).at_ rfl; simp only [ovl]; go_simp; first | done | rfl) | (obtain ⟨ad2, cap2, hv2⟩ := (hgood.get 96 (by rfl) (by rfl)).at_ rfl; simp only [ovl]; go_simp; first | done | rfl) | (obtain ⟨ad2, cap2, hv2⟩ := (hgood.get 99 (by rfl) (by rfl)).at_ rfl; simp only [ovl]; go_simp; first | done | rfl) | (obtain ⟨ad2, cap2, hv2⟩ := (hgood.get 106 (by rfl) (by rfl)).at_ rfl; simp only [ovl]; go_simp; first | done | rfl) | (obtain ⟨ad2, cap2, hv2⟩ := (hgood.get 109 (by rfl) (by rfl)).at_ rfl; simp only [ovl]; go_simp; first | done | rfl) | (obtain ⟨ad2, cap2, hv2⟩ := (hgood.get 113 (by rfl) (by rfl)).at_ rfl; simp only [ovl]; go_simp; first | done | rfl) | rfl)); clear hK K))); refine v_nil ?_; intro bP wq hq hX; simp only [ovl]; try go_simp)
  have hS2 := hS.over hq; clear hS hq; have hS := hS2; clear hS2
  have HW := Lib.hid (hS.st.bel)
  have HR := Lib.hid (hS.st.get (i := 5) rfl)
  have hk20 : (k : Int) ≤ 20 := by omega
  clear HTS
  have HTS := Lib.hid (hS.tab HT.out)
  clear hS hw1 hw2 hw3 hz0 hX
  generalize wq = wL at *
  go_upto_region 16 with (fail)
  go_loopw [17, 18, 137] (fun s u i wr => i = .int .i64 0 ∧ s = .int .u64 (iv 0#64) ∧ u = .int .u64 (iv 0#64) ∧ Below wL.heap.size wL wr) (fun _ _ i _ => 0)
  case atStart => exact ⟨rfl, rfl, rfl, Below.refl _ _⟩
  case round =>
    obtain ⟨rfl, rfl, rfl, hbr⟩ := hrel
    have HBr := Lib.hid hbr
    have HR1 := Lib.hid (HR.out.over hbr)
    clear hbr
    have hq1 : (iv 0#64 == iv 0#64) = true := beq_self_eq_true _
    go_wp2_with (first
      | (refine wpList_load_rel_g _ rfl rfl (by rfl) HR1.out ?_)
      | (go_at_call 72; (with_reducible refine (H16.out _ (Tab.bel HBr.out HTS.out)).mono ?_); rintro e w3 ⟨rfl, hb3⟩; have HB3 := Lib.hid (HBr.out.trans (hb3.mono HBr.out.size)); have HR2 := Lib.hid (HR1.out.over hb3); clear hb3 HR1; have HR1 := HR2; clear HR2)
      | (go_at_call 73; (with_reducible refine (H17.out _ (Tab.bel HB3.out HTS.out)).mono ?_); rintro e w4 ⟨rfl, hb4⟩; have HB4 := Lib.hid (HB3.out.trans (hb4.mono HB3.out.size)); clear hb4)
      | (go_at_call 57; (with_reducible refine (c_awake2 _ (Tab.bel HB4.out HTS.out)).mono ?_); rintro e w5 ⟨rfl, hb5⟩))
    go_ret
    exact ⟨rfl, HW.out.trans ((HB4.out.trans (hb5.mono HB4.out.size)).mono HW.out.size)⟩
end Go.Proofs.YtgegmoedgegkcaaDoor
