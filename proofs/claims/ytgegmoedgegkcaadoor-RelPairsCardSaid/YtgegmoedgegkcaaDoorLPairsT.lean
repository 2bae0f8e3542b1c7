/-
  seisinlaw02.RelPairs: the walk.
-/
import Derived.Test.YtgegmoedgegkcaaDoorPairsB
import Derived.Test.YtgegmoedgegkcaaDoorPPlus2
namespace Go.Proofs.YtgegmoedgegkcaaDoor
open Go.RowKit

/-- The plan of the region that turns the list. -/
@[reducible] def p7 (wA : World) (l : List (Nat × Nat)) (m r : Nat) : Pl where
  T := [38, 42, 46, 7]
  S := [0, 4, 8, 9]
  U := fun i => match i with | 4 => [0] | 8 => [4] | 9 => [8] | _ => []
  E := [8, 9]
  C := Cls wA
  X := fun i β w => match i with
    | 0 => w.ownsRow wA.heap.size 74 2 (β 38) 0 []
    | 4 => w.ownsRow wA.heap.size 74 2 (β 42) (m - r) (vpr ((l.drop r).take (m - r)))
    | 8 => w.ownsRow wA.heap.size 74 2 (β 46) m (vpr ((l.drop r).take (m - r)) ++ vpr ((l.drop 0).take r))
    | 9 => β 7 = β 46
    | _ => True
theorem p7_stays (wA : World) (l : List (Nat × Nat)) (m r : Nat) : ∀ i β w w', (p7 wA l m r).X i β w → Below w.heap.size w w' → (p7 wA l m r).X i β w' := by
  intro i β w w' h hb
  match i with
  | 0 => exact owns_below h hb
  | 4 => exact owns_below h hb
  | 8 => exact owns_below h hb
  | 9 => exact h
  | 1 | 2 | 3 | 5 | 6 | 7 => trivial
  | n + 10 => trivial

theorem p7_op0 {wA wc : World} {l : List (Nat × Nat)} {m r : Nat} {ops : Array Oper} {β : Tmp → Value} (hC : Cls wA wc) :
    sUpon (p7 wA l m r) Tryd.prog .any ops 0 (some 38) β wc (.ok (.value (.slice (some ⟨wc.heap.size, 0, none⟩) 0 0)) (wc.alloc (.cells #[] 74))) := by
  have hb : Below wc.heap.size wc (wc.alloc (.cells #[] 74)) := (Below.refl _ _).alloc (Nat.le_refl _) _
  refine ⟨owns_build0 wc _ hC.size, Below.chain hC hb, fun j hj hne _ hx => ?_⟩
  simp only [List.mem_cons, List.not_mem_nil, or_false] at hj
  rcases hj with rfl | rfl | rfl | rfl
  · exact absurd rfl hne
  · exact owns_below hx hb
  · exact owns_below hx hb
  · exact hx
/-- Pairs answers a row of its own. -/
abbrev CSet (F : FuncId) (k : Nat) (f : Nat → BitVec 64) (s : BitVec 64) : Prop := ∀ w, Tab w → Calls Tryd.prog F #[.agg (rcs k f)] w fun e w' => e = .returned (.int .u64 (iv s)) ∧ Below w.heap.size w w'
theorem wrap_sum {a b c d : Nat} (h : c + d = a + b) (h1 : c ≤ 3072) (h2 : d ≤ 3072) : IntKind.i64.wrap ((c : Int) + (d : Int)) = (a : Int) + (b : Int) := by
  rw [IntKind.wrap_i64]; omega
theorem metF_of {l : List (Nat × Nat)} {F : List Nat} (hF : l.map (·.1) = F) {i : Nat} (h : i < l.length) : metS (F.take (i + 1)) = metS (F.take i) ||| 1#64 <<< l[i].1 := by
  subst hF
  rw [metS_succ (by simpa using h), List.getElem_map]
theorem metG_of {l : List (Nat × Nat)} {F : List Nat} (hF : l.map (·.2) = F) {i : Nat} (h : i < l.length) : metS (F.take (i + 1)) = metS (F.take i) ||| 1#64 <<< l[i].2 := by
  subst hF
  rw [metS_succ (by simpa using h), List.getElem_map]
/-- A slice of so many. -/
def LenP (m : Nat) (v : Value) (_ : World) : Prop := ∃ ad cap, v = .slice ad m cap
theorem LenP.stays (m : Nat) : Stays (LenP m) := fun _ _ _ h _ => h
theorem Sk.keepC {w0 w : World} {L : List RlE} {K : List (Nat × Obj)} (h : Sk w0 w L K) {g : Nat} {o : Obj} (ho : w.heap[g]? = some o) (ha : ∀ e ∈ L, e.b ≠ g) : Sk w0 w L ((g, o) :: K) :=
  ⟨h.st, fun p hp => (by rcases List.mem_cons.1 hp with rfl | hp; exact ho; exact h.keep p hp), fun p hp => (by rcases List.mem_cons.1 hp with rfl | hp; exact ha; exact h.apart p hp)⟩
theorem PrAt.same {w w' : World} {N c : Nat} {l : List (Nat × Nat)} (h : PrAt w N (some ⟨c, 0, none⟩) l) (hh : w'.heap[c]? = w.heap[c]?) (hc : c < w'.heap.size) : PrAt w' w'.heap.size (some ⟨c, 0, none⟩) l := by
  intro j p hp
  obtain ⟨c', e, _, h1, h2⟩ := h j p hp
  cases e
  refine ⟨c, rfl, hc, ?_, ?_⟩
  · rw [← h1]; exact World.cell?_of_block hh
  · rw [← h2]; exact World.cell?_of_block hh
abbrev COwn (k : Nat) (f : Nat → BitVec 64) (l : List (Nat × Nat)) (m : Nat) : Prop := ∀ w, Tab w → Calls Tryd.prog 56 #[.agg (rcs k f)] w fun e w' => ∃ v, e = .returned v ∧ w'.ownsRow w.heap.size 74 2 v m (vpr l) ∧ Below w.heap.size w w'

set_option maxRecDepth 8000 in
set_option maxHeartbeats 8000000 in
theorem pairs_walkP (n n2 : Int) (f g : Nat → BitVec 64) (x : Nat) (k : Nat) (A B : Nat → BitVec 64) (l : List (Nat × Nat)) (m r : Nat) (hx : x ≤ 65535) (hk : k ≤ 20) (hl : l.length = m) (hm : 0 < m) (hm3 : m ≤ 3072) (hr : x % m = r) (l2 : List (Nat × Nat)) (hl2 : l2 = (l.drop r).take (m - r) ++ (l.drop 0).take r) (hl2m : l2.length = m) (hof : ofV k (ipr (l2 ++ l2)) = .tuple #[.agg (rcs k A), .int .i64 0])
    (U V D : Nat → BitVec 64) (lu lv lb ld : List (Nat × Nat)) (mu mv mb md : Nat) (hmu : mu ≤ 3072) (hmv : mv ≤ 3072) (hmb : mb ≤ 3072) (hmd : md ≤ 3072) (he1 : mu + mv = m + mb) (he2 : md + mv = m) (hlk : ∀ p ∈ l2, p.1 < k ∧ p.2 < k) (hlh : ∀ p ∈ l2, hasR k A p.1 p.2 = true)
    (h1 : CFine n f 20 k A) (h2 : CFine k g 20 k B) (h3 : COwn k A l m) (h4 : C2 67 k A B U) (h5 : C2 52 k A B V) (h6 : C2 71 k A B D) (h7 : CPrs k A l m) (h8 : CPrs k U lu mu) (h9 : CPrs k V lv mv) (h10 : CPrs k B lb mb) (h11 : CPrs k D ld md)
    (h12 : CIn k A U) (h13 : CIn k V B) (h14 : CIn k D A) (h15 : CHas k A) (h16 : CSet 72 k A (metS (l2.map (·.1)))) (h17 : CSet 73 k A (metS (l2.map (·.2)))) (w : World) (hT : Tab w) :
    Calls Tryd.prog 16 #[.agg (rcs n f), .agg (rcs n2 g), .int .u16 (x : Int)] w fun e w' => e = .returned (.bool true) ∧ Below w.heap.size w w' := by
  have H1 := Lib.hid h1
  have H2 := Lib.hid h2
  have H3 := Lib.hid h3
  have H4 := Lib.hid h4
  have H5 := Lib.hid h5
  have H6 := Lib.hid h6
  have H7 := Lib.hid h7
  have H8 := Lib.hid h8
  have H9 := Lib.hid h9
  have H10 := Lib.hid h10
  have H11 := Lib.hid h11
  have H12 := Lib.hid h12
  have H13 := Lib.hid h13
  have H14 := Lib.hid h14
  have H15 := Lib.hid h15
  have H16 := Lib.hid h16
  have H17 := Lib.hid h17
  have HT := Lib.hid hT
  have HLen := Lib.hid hl
  have hS := Sk.of (St.box2 w n n2 f g)
  have hrm : r < m := hr ▸ Nat.mod_lt _ hm
  have hx2 : (x : Int) ≤ 65535 := by omega
  have hmi : (0 : Int) < (m : Int) := by omega
  have hmne : ¬ m = 0 := by omega
  have hr1 : (x : Int) % (m : Int) = (r : Int) := by rw [← hr, Int.natCast_emod]
  have hr2 : (x : Int).tmod (m : Int) = (r : Int) := by rw [Int.tmod_eq_emod_of_nonneg (by omega)]; exact hr1
  have hri : (r : Int) < (m : Int) := by omega
  have HL2 := Lib.hid hl2
  have HL2M := Lib.hid hl2m
  have HOF := Lib.hid hof
  have HLK := Lib.hid hlk
  have HLH := Lib.hid hlh
  clear h1 h2 h3 h4 h5 h6 h7 h8 h9 h10 h11 h12 h13 h14 h15 h16 h17 hT hl hr hl2 hl2m hof hlk hlh
  go_enter Tryd.func16, Tryd.ntmps16
  go_upto_region 1 with (fail)
  generalize (w.alloc (.cells (rcs n f) 53)).alloc (.cells (rcs n2 g) 53) = wS at *
  obtain ⟨b2, hb2⟩ : ∃ b2, w.heap.size = b2 := ⟨_, rfl⟩
  simp only [hb2] at hS ⊢
  go_upto_region 4 with (first
    | (refine wpList_allocK hS rfl rfl ?_; clear hS; intro bS wS hS) | (refine wpList_build_rel0 rfl rfl ?_) | (refine wpList_build_rel1 rfl _ rfl _ rfl ?_) | (refine wpList_loadK _ hS _ rfl rfl (by first | exact ix0 | exact ixS ix0 | exact ixS (ixS ix0) | exact ixS (ixS (ixS ix0))) (by rfl) ?_) | (refine wpList_loadNK _ hS _ rfl rfl (by first | exact ix0 | exact ixS ix0 | exact ixS (ixS ix0) | exact ixS (ixS (ixS ix0))) (by rfl) ?_) | (refine wpList_storeK _ hS _ _ rfl rfl (by first | exact ix0 | exact ixS ix0 | exact ixS (ixS ix0) | exact ixS (ixS (ixS ix0))) rfl rfl ?_; clear hS; intro wS hS; (first | simp only [List.set_cons_zero] at hS | simp only [List.set_cons_succ, List.set_cons_zero] at hS)) | (refine wpList_storeNK _ hS _ _ rfl rfl (by first | exact ix0 | exact ixS ix0 | exact ixS (ixS ix0) | exact ixS (ixS (ixS ix0))) rfl (by rfl) ?_; clear hS; intro wS hS; (first | simp only [List.set_cons_zero] at hS | simp only [List.set_cons_succ, List.set_cons_zero] at hS)) | (refine wpList_eqlK _ _ _ rfl rfl rfl (by rfl) ?_) | (refine wpList_neqK _ _ _ rfl rfl rfl (by rfl) ?_)
    | (go_at_call 43; (with_reducible refine (H1.out _).mono ?_); rintro e wS ⟨rfl, hb⟩; have hS2 := hS.over hb; clear hS hb; have hS := hS2; clear hS2) | (go_at_call 43; (with_reducible refine (H2.out _).mono ?_); rintro e wS ⟨rfl, hb⟩; have hS2 := hS.over hb; clear hS hb; have hS := hS2; clear hS2))
  go_upto_region 5 with (first
    | (refine wpList_allocK hS rfl rfl ?_; clear hS; intro bS wS hS) | (refine wpList_build_rel0 rfl rfl ?_) | (refine wpList_build_rel1 rfl _ rfl _ rfl ?_) | (refine wpList_loadK _ hS _ rfl rfl (by first | exact ix0 | exact ixS ix0 | exact ixS (ixS ix0) | exact ixS (ixS (ixS ix0))) (by rfl) ?_) | (refine wpList_loadNK _ hS _ rfl rfl (by first | exact ix0 | exact ixS ix0 | exact ixS (ixS ix0) | exact ixS (ixS (ixS ix0))) (by rfl) ?_) | (refine wpList_storeK _ hS _ _ rfl rfl (by first | exact ix0 | exact ixS ix0 | exact ixS (ixS ix0) | exact ixS (ixS (ixS ix0))) rfl rfl ?_; clear hS; intro wS hS; (first | simp only [List.set_cons_zero] at hS | simp only [List.set_cons_succ, List.set_cons_zero] at hS)) | (refine wpList_storeNK _ hS _ _ rfl rfl (by first | exact ix0 | exact ixS ix0 | exact ixS (ixS ix0) | exact ixS (ixS (ixS ix0))) rfl (by rfl) ?_; clear hS; intro wS hS; (first | simp only [List.set_cons_zero] at hS | simp only [List.set_cons_succ, List.set_cons_zero] at hS)) | (refine wpList_eqlK _ _ _ rfl rfl rfl (by rfl) ?_) | (refine wpList_neqK _ _ _ rfl rfl rfl (by rfl) ?_)
    | (go_at_call 56; (with_reducible refine (H3.out _ (hS.tab HT.out)).mono ?_); rintro e wS ⟨v, rfl, ho, hb⟩; obtain ⟨c, cap, rfl, hcap, hcapm⟩ := owns_pos ho hm; have HPR := Lib.hid (pr_own ho); clear ho; have hS2 := hS.over hb; clear hS hb; have hS := hS2; clear hS2))
  have hcapi : (m : Int) ≤ (cap : Int) := by omega
  have hrmi : (r : Int) ≤ (m : Int) := by omega
  have hrmi2 : (r : Int) ≤ (cap : Int) := by omega
  have hri0 : (0 : Int) ≤ (r : Int) := by omega
  have hcr : ¬ cap = r := by omega
  go_upto_region 7 with (fail)
  obtain ⟨wA, hwA⟩ : ∃ wA, wA = wS := ⟨_, rfl⟩
  have hcls : ∀ w, (p7 wS l m r).C w → Cls wS w := fun _ h => h
  (refine wp_region_s (p7 wS l m r) (by kernel_rfl) (by kernel_rfl) (below_drewN (Below.refl _ _) 1) (fun _ _ h hb => Below.chain h hb) (p7_stays _ _ _ _) ?_; refine WpV.out ?_; (repeat (first | (refine s_spec [] (by dsimp only [p7]; decide +kernel) (by rfl) (by rfl) (by rfl) (fun bP wc hC hgood => ?_) ?_; focus (simp only [ovl]; go_simp; exact p7_op0 hC)) | (refine s_spec [38] (by dsimp only [p7]; decide +kernel) (by rfl) (by rfl) (by rfl) (fun bP wc hC hgood => ?_) ?_; focus (obtain ⟨v', w', r1, r2, r3, r4⟩ := app_part 72 hC HPR.out HLen.out (bP 38) 0 [] (hgood 0 (show 0 ∈ [0] from List.mem_singleton.2 rfl)) r (m - r) (cap - r) (by omega) (by omega); rw [run_app (.tmp 38) (.tmp 41) 72 _ _ rfl rfl rfl r1]; rw [Nat.zero_add, List.nil_append] at r2; refine ⟨r2, r3, fun j hj hne hst hx => ?_⟩; simp only [List.mem_cons, List.not_mem_nil, or_false] at hj; rcases hj with rfl | rfl | rfl | rfl; exact r4; exact absurd rfl hne; exact absurd hst (by dsimp only [p7]; decide +kernel); exact hx)) | (refine s_spec [42] (by dsimp only [p7]; decide +kernel) (by rfl) (by rfl) (by rfl) (fun bP wc hC hgood => ?_) ?_; focus (obtain ⟨v', w', r1, r2, r3, r4⟩ := app_part 72 hC HPR.out HLen.out (bP 42) (m - r) _ (hgood 4 (show 4 ∈ [4] from List.mem_singleton.2 rfl)) 0 r cap (by omega) (by omega); rw [run_app (.tmp 42) (.tmp 45) 72 _ _ rfl rfl rfl r1]; rw [Nat.sub_add_cancel (Nat.le_of_lt hrm)] at r2; refine ⟨r2, r3, fun j hj hne hst hx => ?_⟩; simp only [List.mem_cons, List.not_mem_nil, or_false] at hj; rcases hj with rfl | rfl | rfl | rfl; exact absurd hst (by dsimp only [p7]; decide +kernel); exact r4; exact absurd rfl hne; exact absurd hst (by dsimp only [p7]; decide +kernel))) | (refine s_spec [38, 42, 46] (by dsimp only [p7]; decide +kernel) (by rfl) (by rfl) (by rfl) (fun bP wc hC hgood => ?_) ?_; focus (simp only [ovl]; go_simp; refine ⟨rfl, hC, fun j hj hne hst hx => ?_⟩; simp only [List.mem_cons, List.not_mem_nil, or_false] at hj; rcases hj with rfl | rfl | rfl | rfl; exact hx; exact hx; exact hx; exact absurd rfl hne)) | ((refine s_step (fun _ h => hcls _ h) (by dsimp only [p7]; decide +kernel) (fun K hK => ?_)); go_simp; (first | (refine hK _ ?_; clear hK K) | (refine CalmB.of ?_; apply Exists.intro; refine ⟨fun wcalm hcalm => ?_, hK _ ?_⟩; (focus ((skip); go_simp; first | done | (fail) | rfl)); clear hK K))) | fail)); refine v_nil ?_; intro bP wq hq hX; simp only [ovl]; try go_simp)
  have h9 : bP 7 = bP 46 := hX 9 (show 9 ∈ [8, 9] by simp)
  have h8 : wq.ownsRow wS.heap.size 74 2 (bP 46) m (vpr ((l.drop r).take (m - r)) ++ vpr ((l.drop 0).take r)) := hX 8 (show 8 ∈ [8, 9] by simp)
  rw [← h9, ← vpr_append, ← HL2.out] at h8
  obtain ⟨c2, cap2, hv, hcap2, hcapm2⟩ := owns_pos h8 hm
  rw [hv] at h8
  have hc2 : c2 < wq.heap.size := (owned_block h8 rfl).2
  simp only [hv]
  have HOW8 := Lib.hid h8
  have HQ := Lib.hid hq
  clear h9 hX hv h8 hcls hq
  go_upto_region 8 with (fail)
  have hcls : ∀ w, (p8 wS wq l2 m c2 cap2 k A).C w → Cls wS w := fun _ h => h.1
  (refine wp_region_s (p8 wS wq l2 m c2 cap2 k A) (by kernel_rfl) (by kernel_rfl) (⟨below_drewN HQ.out 1, Nat.le_refl _, HOW8.out⟩) (p8_C _ _ _ _ _ _ _ _) (p8_X _ _ _ _ _ _ _ _) ?_; refine WpV.out ?_; (repeat (first | (refine s_spec [] (by dsimp only [p8]; decide +kernel) (by rfl) (by rfl) (by rfl) (fun bP wc hC hgood => ?_) ?_; focus (obtain ⟨v', w', r1, r2, r3, r4⟩ := p8_app 72 hC HL2M.out hm3; rw [run_app (.tmp 50) (.tmp 51) 72 _ _ rfl rfl rfl r1]; refine ⟨r2, r3, fun j hj hne hst hx => ?_⟩; simp only [List.mem_cons, List.not_mem_nil, or_false] at hj; rcases hj with rfl | rfl | rfl; exact absurd rfl hne; (obtain ⟨b, e1, e2, e3⟩ := hx; exact ⟨b, e1, e2, ⟨(r4 b e3.lt (by omega)).trans e3.heap⟩⟩); exact absurd hst (by dsimp only [p8]; decide +kernel))) | (refine s_spec [] (by dsimp only [p8]; decide +kernel) (by rfl) (by rfl) (by rfl) (fun bP wc hC hgood => ?_) ?_; focus (rw [run_alloc_rel wc rfl]; refine ⟨⟨wc.heap.size, rfl, hC.2.1, RelAt.new _ _ _⟩, p8_C _ _ _ _ _ _ _ _ _ _ hC ((Below.refl _ _).alloc (Nat.le_refl _) _), fun j hj hne hst hx => ?_⟩; simp only [List.mem_cons, List.not_mem_nil, or_false] at hj; rcases hj with rfl | rfl | rfl; exact p8_X wS wq l2 m c2 cap2 k A 4 _ _ _ hx ((Below.refl _ _).alloc (Nat.le_refl _) _); exact absurd rfl hne; exact absurd hst (by dsimp only [p8]; decide +kernel))) | (refine s_stepL [52] (by dsimp only [p8]; decide +kernel) (by rfl) (by rfl) (by rfl) (fun K hK => ?_); refine CalmS.of ?_; apply Exists.intro; refine ⟨fun bP wc hC hgood => ?_, hK _ ?_⟩; (focus (obtain ⟨ad, cp, hv2, hp2⟩ := hgood 4 (show 4 ∈ [4] from List.mem_singleton.2 rfl); simp only [ovl]; go_simp; (have hr := c_ROf k (ipr (l2 ++ l2)) (m + m) (by unfold ipr; rw [List.length_map, List.length_append, HL2M.out]) (by unfold maxLen; omega) ad cp wc hp2); rw [HOF.out] at hr; exact hr)); clear hK K) | (refine s_spec [52, 9] (by dsimp only [p8]; decide +kernel) (by rfl) (by rfl) (by rfl) (fun bP wc hC hgood => ?_) ?_; focus (refine p8_store HQ.out hc2 hC (hgood 9 (show 9 ∈ [9] from List.mem_singleton.2 rfl)) ?_ ?_ ?_ ?_ ?_; exact rfl; exact rfl; exact rfl; (dsimp only [p8]; decide +kernel); (dsimp only [p8]; decide +kernel))) | ((refine s_step (fun _ h => hcls _ h) (by dsimp only [p8]; decide +kernel) (fun K hK => ?_)); (refine cb_loadN _ hS _ rfl rfl (by first | exact ix0 | exact ixS ix0 | exact ixS (ixS ix0)) (by rfl) ?_); refine hK _ ?_; clear hK K) | ((refine s_step (fun _ h => hcls _ h) (by dsimp only [p8]; decide +kernel) (fun K hK => ?_)); go_simp; (first | (refine hK _ ?_; clear hK K) | (refine CalmB.of ?_; apply Exists.intro; refine ⟨fun wcalm hcalm => ?_, hK _ ?_⟩; (focus ((skip); go_simp; first | done | (fail) | rfl)); clear hK K))) | fail)); refine v_nil ?_; intro bP wq hq hX; simp only [ovl]; try go_simp)
  obtain ⟨bR, hv9, hb9, hR9⟩ := hX 10 (show 10 ∈ [10] from List.mem_singleton.2 rfl)
  obtain ⟨hq1, hq2, hq3⟩ := hq
  have hcge : wS.heap.size ≤ c2 := (owned_block HOW8.out rfl).1
  obtain ⟨oC, hoC⟩ : ∃ o, wq.heap[c2]? = some o := ⟨_, Array.getElem?_eq_getElem (Nat.lt_of_lt_of_le hc2 hq2)⟩
  have hcq := Nat.lt_of_lt_of_le hc2 hq2
  have HPC := Lib.hid (pr_own hq3)
  have hS2 := (hS.fresh hq1 hR9 (Nat.le_trans HQ.out.size hb9)).keepC hoC (fun e he => (by
    rcases List.mem_cons.1 he with rfl | he
    · exact Nat.ne_of_gt (Nat.lt_of_lt_of_le hc2 hb9)
    · exact Nat.ne_of_lt (Nat.lt_of_lt_of_le (hS.st.rel e he).lt hcge)))
  have HOC := Lib.hid hoC
  simp only [hv9]
  clear hS hX hv9 hb9 hR9 hq1 hq2 hq3 hoC hcls hcge
  have hS := hS2
  clear hS2
  generalize wq = wC at *
  go_upto_region 12 with (first
    | (refine wpList_allocK hS rfl rfl ?_; clear hS; intro bS wS hS) | (refine wpList_build_rel0 rfl rfl ?_) | (refine wpList_build_rel1 rfl _ rfl _ rfl ?_) | (refine wpList_loadK _ hS _ rfl rfl (by first | exact ix0 | exact ixS ix0 | exact ixS (ixS ix0) | exact ixS (ixS (ixS ix0)) | exact ixS (ixS (ixS (ixS ix0))) | exact ixS (ixS (ixS (ixS (ixS ix0)))) | exact ixS (ixS (ixS (ixS (ixS (ixS ix0)))))) (by rfl) ?_) | (refine wpList_loadNK _ hS _ rfl rfl (by first | exact ix0 | exact ixS ix0 | exact ixS (ixS ix0) | exact ixS (ixS (ixS ix0)) | exact ixS (ixS (ixS (ixS ix0))) | exact ixS (ixS (ixS (ixS (ixS ix0)))) | exact ixS (ixS (ixS (ixS (ixS (ixS ix0)))))) (by rfl) ?_) | (refine wpList_storeK _ hS _ _ rfl rfl (by first | exact ix0 | exact ixS ix0 | exact ixS (ixS ix0) | exact ixS (ixS (ixS ix0)) | exact ixS (ixS (ixS (ixS ix0))) | exact ixS (ixS (ixS (ixS (ixS ix0)))) | exact ixS (ixS (ixS (ixS (ixS (ixS ix0)))))) rfl rfl ?_; clear hS; intro wS hS; (first | simp only [List.set_cons_zero] at hS | simp only [List.set_cons_succ, List.set_cons_zero] at hS)) | (refine wpList_storeNK _ hS _ _ rfl rfl (by first | exact ix0 | exact ixS ix0 | exact ixS (ixS ix0) | exact ixS (ixS (ixS ix0)) | exact ixS (ixS (ixS (ixS ix0))) | exact ixS (ixS (ixS (ixS (ixS ix0)))) | exact ixS (ixS (ixS (ixS (ixS (ixS ix0)))))) rfl (by rfl) ?_; clear hS; intro wS hS; (first | simp only [List.set_cons_zero] at hS | simp only [List.set_cons_succ, List.set_cons_zero] at hS)) | (refine wpList_eqlK _ _ _ rfl rfl rfl (by rfl) ?_) | (refine wpList_neqK _ _ _ rfl rfl rfl (by rfl) ?_) | (go_at_call 67; (with_reducible refine (H4.out _ (hS.tab HT.out)).mono ?_); rintro e wS ⟨rfl, hb⟩; have hS2 := hS.over hb; clear hS hb; have hS := hS2; clear hS2) | (go_at_call 52; (with_reducible refine (H5.out _ (hS.tab HT.out)).mono ?_); rintro e wS ⟨rfl, hb⟩; have hS2 := hS.over hb; clear hS hb; have hS := hS2; clear hS2) | (go_at_call 71; (with_reducible refine (H6.out _ (hS.tab HT.out)).mono ?_); rintro e wS ⟨rfl, hb⟩; have hS2 := hS.over hb; clear hS hb; have hS := hS2; clear hS2))
  have HTS := Lib.hid (hS.tab HT.out)
  have hz0 : IntKind.i64.wrap 0 = 0 := by rfl
  have hw1 : IntKind.i64.wrap ((mu : Int) + (mv : Int)) = (m : Int) + (mb : Int) := wrap_sum he1 hmu hmv
  have hw2 : IntKind.i64.wrap ((m : Int) + (mb : Int)) = (m : Int) + (mb : Int) := wrap_sum rfl hm3 hmb
  have hw3 : IntKind.i64.wrap ((md : Int) + (mv : Int)) = (m : Int) := (wrap_sum (b := 0) he2 hmd hmv).trans (by simp)
  (refine wp_region_ptr [89, 92, 96, 99, 106, 109, 113] [(89, LenP mu), (92, LenP mv), (96, LenP m), (99, LenP mb), (106, LenP md), (109, LenP mv), (113, LenP m)] (by kernel_rfl) (by kernel_rfl) (by intro p hp; simp only [List.mem_cons, List.not_mem_nil, or_false] at hp; rcases hp with rfl | rfl | rfl | rfl | rfl | rfl | rfl <;> exact LenP.stays _) ?_; refine WpV.out ?_; (repeat (first | (refine p_call0 89 rfl (by rfl) (by rfl) (by rfl) (fun wcalm hcalm => ?_) ?_; focus (go_simp; refine ptrUpon_enter ?_; exact (H8.out _ (Tab.bel hcalm HTS.out)).mono fun e w2 h => (by obtain ⟨ad2, cap2, e1, _, h3⟩ := h; exact ⟨⟨_, e1, fun q hq => (by cases hq; exact ⟨_, _, rfl⟩)⟩, h3⟩))) | (refine p_call0 92 rfl (by rfl) (by rfl) (by rfl) (fun wcalm hcalm => ?_) ?_; focus (go_simp; refine ptrUpon_enter ?_; exact (H9.out _ (Tab.bel hcalm HTS.out)).mono fun e w2 h => (by obtain ⟨ad2, cap2, e1, _, h3⟩ := h; exact ⟨⟨_, e1, fun q hq => (by cases hq; exact ⟨_, _, rfl⟩)⟩, h3⟩))) | (refine p_call0 96 rfl (by rfl) (by rfl) (by rfl) (fun wcalm hcalm => ?_) ?_; focus (go_simp; refine ptrUpon_enter ?_; exact (H7.out _ (Tab.bel hcalm HTS.out)).mono fun e w2 h => (by obtain ⟨ad2, cap2, e1, _, h3⟩ := h; exact ⟨⟨_, e1, fun q hq => (by cases hq; exact ⟨_, _, rfl⟩)⟩, h3⟩))) | (refine p_call0 99 rfl (by rfl) (by rfl) (by rfl) (fun wcalm hcalm => ?_) ?_; focus (go_simp; refine ptrUpon_enter ?_; exact (H10.out _ (Tab.bel hcalm HTS.out)).mono fun e w2 h => (by obtain ⟨ad2, cap2, e1, _, h3⟩ := h; exact ⟨⟨_, e1, fun q hq => (by cases hq; exact ⟨_, _, rfl⟩)⟩, h3⟩))) | (refine p_call0 106 rfl (by rfl) (by rfl) (by rfl) (fun wcalm hcalm => ?_) ?_; focus (go_simp; refine ptrUpon_enter ?_; exact (H11.out _ (Tab.bel hcalm HTS.out)).mono fun e w2 h => (by obtain ⟨ad2, cap2, e1, _, h3⟩ := h; exact ⟨⟨_, e1, fun q hq => (by cases hq; exact ⟨_, _, rfl⟩)⟩, h3⟩))) | (refine p_call0 109 rfl (by rfl) (by rfl) (by rfl) (fun wcalm hcalm => ?_) ?_; focus (go_simp; refine ptrUpon_enter ?_; exact (H9.out _ (Tab.bel hcalm HTS.out)).mono fun e w2 h => (by obtain ⟨ad2, cap2, e1, _, h3⟩ := h; exact ⟨⟨_, e1, fun q hq => (by cases hq; exact ⟨_, _, rfl⟩)⟩, h3⟩))) | (refine p_call0 113 rfl (by rfl) (by rfl) (by rfl) (fun wcalm hcalm => ?_) ?_; focus (go_simp; refine ptrUpon_enter ?_; exact (H7.out _ (Tab.bel hcalm HTS.out)).mono fun e w2 h => (by obtain ⟨ad2, cap2, e1, _, h3⟩ := h; exact ⟨⟨_, e1, fun q hq => (by cases hq; exact ⟨_, _, rfl⟩)⟩, h3⟩))) | ((refine p_step (by rfl) (fun K hK => ?_)); (first | (refine cb_load _ hS _ rfl rfl (by first | exact ix0 | exact ixS ix0 | exact ixS (ixS ix0) | exact ixS (ixS (ixS ix0)) | exact ixS (ixS (ixS (ixS ix0))) | exact ixS (ixS (ixS (ixS (ixS ix0))))) (by rfl) ?_) | (refine cb_neq _ _ _ rfl rfl rfl (by rfl) ?_)); refine hK _ ?_; clear hK K) | ((refine p_step (by rfl) (fun K hK => ?_)); go_simp; (first | (refine hK _ ?_; clear hK K) | (refine CalmB.of ?_; apply Exists.intro; refine ⟨fun wcalm hcalm => ?_, hK _ ?_⟩; (focus ((skip); go_simp; first | done | (first | (go_at_call 66; with_reducible exact H12.out _ (Tab.bel hcalm HTS.out)) | (go_at_call 66; with_reducible exact H13.out _ (Tab.bel hcalm HTS.out)) | (go_at_call 66; with_reducible exact H14.out _ (Tab.bel hcalm HTS.out))) | rfl)); clear hK K))) | (refine p_stepL (by rfl) (fun K hK => ?_); go_simp; refine CalmL.of ?_; apply Exists.intro; refine ⟨fun bP wcalm hcalm hgood => ?_, hK _ ?_⟩; (focus (first | (obtain ⟨ad2, cap2, hv2⟩ := (hgood.get 89 (by rfl) (by rfl)).at_ rfl; simp only [ovl]; go_simp; first | done | rfl) | (obtain ⟨ad2, cap2, hv2⟩ := (hgood.get 92 (by rfl) (by rfl)).at_ rfl; simp only [ovl]; go_simp; first | done | rfl) | (obtain ⟨ad2, cap2, hv2⟩ := (hgood.get 96 (by rfl) (by rfl)).at_ rfl; simp only [ovl]; go_simp; first | done | rfl) | (obtain ⟨ad2, cap2, hv2⟩ := (hgood.get 99 (by rfl) (by rfl)).at_ rfl; simp only [ovl]; go_simp; first | done | rfl) | (obtain ⟨ad2, cap2, hv2⟩ := (hgood.get 106 (by rfl) (by rfl)).at_ rfl; simp only [ovl]; go_simp; first | done | rfl) | (obtain ⟨ad2, cap2, hv2⟩ := (hgood.get 109 (by rfl) (by rfl)).at_ rfl; simp only [ovl]; go_simp; first | done | rfl) | (obtain ⟨ad2, cap2, hv2⟩ := (hgood.get 113 (by rfl) (by rfl)).at_ rfl; simp only [ovl]; go_simp; first | done | rfl) | rfl)); clear hK K))); refine v_nil ?_; intro bP wq hq hX; simp only [ovl]; try go_simp)
  have hS2 := hS.over hq; clear hS hq; have hS := hS2; clear hS2
  have HW := Lib.hid (hS.st.bel)
  have HR := Lib.hid (hS.st.get (i := 5) rfl)
  have hk20 : (k : Int) ≤ 20 := by omega
  clear HTS
  have HTS := Lib.hid (hS.tab HT.out)
  have HPL := Lib.hid (PrAt.same HPC.out ((hS.keep _ List.mem_cons_self).trans HOC.out.symm) (Array.getElem?_eq_some_iff.1 (hS.keep _ List.mem_cons_self)).1)
  clear hS hw1 hw2 hw3 hz0 hX
  generalize wq = wL at *
  go_upto_region 16 with (fail)
  obtain ⟨F, hF⟩ : ∃ F, l2.map (·.1) = F := ⟨_, rfl⟩
  obtain ⟨G, hG⟩ : ∃ F, l2.map (·.2) = F := ⟨_, rfl⟩
  rw [hF] at H16
  rw [hG] at H17
  have HFF := Lib.hid hF
  have HGG := Lib.hid hG
  clear hF hG
  go_loopw [17, 18, 137] (fun s u i wr => ∃ j : Nat, j ≤ m ∧ i = .int .i64 j ∧ s = .int .u64 (iv (metS (F.take j))) ∧ u = .int .u64 (iv (metS (G.take j))) ∧ Below wL.heap.size wL wr) (fun _ _ i _ => m - (intOf i).toNat)
  case atStart => exact ⟨0, by omega, rfl, rfl, rfl, Below.refl _ _⟩
  case round =>
    obtain ⟨j, hj, rfl, rfl, rfl, hbr⟩ := hrel
    have HBr := Lib.hid hbr
    have HR1 := Lib.hid (HR.out.over hbr)
    clear hbr
    by_cases hlt : j < m
    · have hjl : j < l2.length := by have := HL2M.out; omega
      have hmem := List.getElem_mem hjl
      have hpk := HLK.out _ hmem
      have hph := HLH.out _ hmem
      have hm1 := metF_of HFF.out hjl
      have hm2 := metG_of HGG.out hjl
      obtain ⟨c', e0, hclt, hc1, hc2⟩ := (HPL.out.below HBr.out) j _ (List.getElem?_eq_getElem hjl)
      cases e0
      obtain ⟨p, hp⟩ : ∃ p, p = l2[j] := ⟨_, rfl⟩
      rw [← hp] at hpk hph hc1 hc2 hm1 hm2
      clear hp hmem
      obtain ⟨y, z⟩ := p
      simp only at hpk hph hc1 hc2 hm1 hm2
      obtain ⟨hy20, hz20⟩ := hpk
      have hyi : (y : Int) < 64 := by omega
      have hzi : (z : Int) < 64 := by omega
      have hji : (j : Int) < (m : Int) := by omega
      have HM1 := Lib.hid hm1
      have HM2 := Lib.hid hm2
      have HHs := Lib.hid (show ∀ w, Tab w → Calls Tryd.prog 47 #[.agg (rcs k A), .int .i64 y, .int .i64 z] w fun e w' => e = .returned (.bool true) ∧ Below w.heap.size w w' from fun w hT => hph ▸ H15.out y z w hT)
      clear hph hm1 hm2
      go_upto_region 18 with (fail)
      have hbn := (Below.refl wr.heap.size wr).alloc (Nat.le_refl _) (.cells #[.int .i64 (y : Int), .int .i64 (z : Int)] 74)
      have hrow := heap_alloc_new wr (.cells #[.int .i64 (y : Int), .int .i64 (z : Int)] 74)
      have hcy := cell_of_row _ _ 0 _ _ _ hrow
      have hcz := cell_of_row _ _ 1 _ _ _ hrow
      simp only [List.getElem?_toArray, List.getElem?_cons_zero, List.getElem?_cons_succ] at hcy hcz
      have hd := (Array.getElem?_eq_some_iff.1 hrow).1
      have HB20 := Lib.hid (HBr.out.trans (hbn.mono HBr.out.size))
      have HR20 := Lib.hid (HR1.out.over hbn)
      clear hbn hrow hc1 hc2 hclt HR1 HBr
      generalize wr.alloc (.cells #[.int .i64 (y : Int), .int .i64 (z : Int)] 74) = w20 at *
      generalize wr.heap.size = d at *
      (refine wp_region_calm (by kernel_rfl) (by kernel_rfl) ?_; (repeat ((refine calm_step (fun K hK => ?_)); go_simp; (first | (refine hK _ ?_; clear hK K) | (refine Calm.of ?_; apply Exists.intro; refine ⟨fun wcalm hcalm => ?_, hK _ ?_⟩; (focus ((have hy2 := (hcalm.cell (p := ⟨d, 0, none⟩) hd).trans hcy; have hz2 := (hcalm.cell (p := ⟨d, 1, none⟩) hd).trans hcz); go_simp; first | done | (fail) | rfl)); clear hK K)))); refine calm_nil ?_; intro wq hq)
      have hy2 := (hq.cell (p := ⟨d, 0, none⟩) hd).trans hcy
      have hz2 := (hq.cell (p := ⟨d, 1, none⟩) hd).trans hcz
      have HR3 := Lib.hid (HR20.out.over hq)
      have HB3 := Lib.hid (HB20.out.trans (hq.mono HB20.out.size))
      clear hcy hcz hd hq
      go_wp2_with (first
        | (refine wpList_load_rel_g _ rfl rfl (by rfl) HR3.out ?_)
        | (go_at_call 47; (with_reducible refine (HHs.out _ (Tab.bel HB3.out HTS.out)).mono ?_); rintro e w3 ⟨rfl, hb3⟩))
      exact ⟨⟨j + 1, by omega, by go_num, by rw [HM1.out], by rw [HM2.out], HB3.out.trans (hb3.mono HB3.out.size)⟩, by simp [intOf]; omega⟩
    · have hjm : j = m := by omega
      subst hjm
      have hFl : F.length = j := by rw [← HFF.out, List.length_map]; exact HL2M.out
      have hGl : G.length = j := by rw [← HGG.out, List.length_map]; exact HL2M.out
      rw [List.take_of_length_le (Nat.le_of_eq hFl), List.take_of_length_le (Nat.le_of_eq hGl)]
      clear hFl hGl HFF HGG
      obtain ⟨s1, hs1⟩ : ∃ s, metS F = s := ⟨_, rfl⟩
      obtain ⟨s2, hs2⟩ : ∃ s, metS G = s := ⟨_, rfl⟩
      rw [hs1] at H16 ⊢
      rw [hs2] at H17 ⊢
      have hq1 : (iv s1 == iv s1) = true := beq_self_eq_true _
      have hq2 : (iv s2 == iv s2) = true := beq_self_eq_true _
      clear hs1 hs2
      go_wp2_with (first
        | (refine wpList_load_rel_g _ rfl rfl (by rfl) HR1.out ?_)
        | (go_at_call 72; (with_reducible refine (H16.out _ (Tab.bel HBr.out HTS.out)).mono ?_); rintro e w3 ⟨rfl, hb3⟩; have HB3 := Lib.hid (HBr.out.trans (hb3.mono HBr.out.size)); have HR2 := Lib.hid (HR1.out.over hb3); clear hb3 HR1; have HR1 := HR2; clear HR2)
        | (go_at_call 73; (with_reducible refine (H17.out _ (Tab.bel HB3.out HTS.out)).mono ?_); rintro e w4 ⟨rfl, hb4⟩; have HB4 := Lib.hid (HB3.out.trans (hb4.mono HB3.out.size)); clear hb4)
        | (go_at_call 57; (with_reducible refine (c_awake2 _ (Tab.bel HB4.out HTS.out)).mono ?_); rintro e w5 ⟨rfl, hb5⟩))
      go_ret
      exact ⟨rfl, HW.out.trans ((HB4.out.trans (hb5.mono HB4.out.size)).mono HW.out.size)⟩
end Go.Proofs.YtgegmoedgegkcaaDoor
