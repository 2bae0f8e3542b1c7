/-
  seisinlaw30.CoreStuck returns true for every list of instructions, rules and core.
-/
import Derived.Test.YtckcdpmfmfpmmaaLStuck
namespace Go.Proofs.Ytckcdpmfmfpmmaa
open Go.RowKit

/-- What came in: instructions, and a core whose buffer may be of any length. -/
structure Came (w : World) (ai : Option Addr) (ni : Nat) (l : List In) (c : Cr) (ab : Option Addr) (m cab : Nat) (bl : List (Nat × Nat)) : Prop where
  len : l.length = ni
  max : ni ≤ 140737488355328
  ins : InAt w w.heap.size ai l
  x : ∀ x ∈ l, XOk x
  pc0 : 0 ≤ c.pc
  pc1 : c.pc ≤ 255
  r : RgOk c
  bufv : c.buf = .slice ab m cab
  nil : ab = none → cab = 0
  blen : bl.length = m
  bmax : m ≤ 140737488355328
  st : StAt w w.heap.size ab bl
theorem Came.over {w w' : World} {ai : Option Addr} {ni : Nat} {l : List In} {c : Cr} {ab : Option Addr} {m cab : Nat} {bl : List (Nat × Nat)} (h : Came w ai ni l c ab m cab bl) (hb : Below w.heap.size w w') : Came w' ai ni l c ab m cab bl :=
  ⟨h.len, h.max, (h.ins.below hb).mono hb.size, h.x, h.pc0, h.pc1, h.r, h.bufv, h.nil, h.blen, h.bmax, (h.st.below hb).mono hb.size⟩
theorem Came.cin {w : World} {ai : Option Addr} {ni ci : Nat} {l : List In} {c : Cr} {ab : Option Addr} {m cab : Nat} {bl : List (Nat × Nat)} (h : Came w ai ni l c ab m cab bl) (hm : m ≤ 1000) : CIn w c bl (.slice ai ni ci) l :=
  ⟨⟨h.pc0, h.pc1, ⟨ab, cab, by rw [h.blen]; exact h.bufv, h.nil, h.st⟩, by rw [h.blen]; exact hm⟩, h.len ▸ InsOk.of h.ins (by have := h.max; have := h.len; unfold maxLen; omega) h.x, h.x, h.r⟩
theorem LPost.form {w w' : World} {c : Cr} {bl : List (Nat × Nat)} {e : Ending} (h : LPost w c bl e w') : ∃ ad cap, e = .returned (.agg { c with buf := .slice ad bl.length cap }.cells) ∧ bl.length ≤ cap ∧ BufOk w' (.slice ad bl.length cap) bl ∧ Below w.heap.size w w' := by
  obtain ⟨v, h1, h2, h3⟩ := h
  have hb := BufOk.of_owns h2
  obtain ⟨_, ⟨e1, e2⟩ | ⟨g, cap, cur, e1, _, _, e2, _⟩⟩ := h2
  · have hb0 : bl = [] := List.eq_nil_of_length_eq_zero e2
    subst e1 hb0
    exact ⟨none, 0, h1, Nat.le_refl _, hb, h3⟩
  · subst e1
    exact ⟨_, cap, h1, e2, hb, h3⟩

/-- A region that changes no memory: what its slots hold is forgotten but for one. -/
def Forgot (a : Act) (D : List Tmp) (t : Tmp) (v : Value) (a' : Act) : Prop := ∃ β, a' = (ovl a β D).put (some t) v
theorem Forgot.mk {a a' : Act} {D : List Tmp} {t : Tmp} {v : Value} (h : a' = (ovl a (fun s => a'.eval (.tmp s)) D).put (some t) v) : Forgot a D t v a' := ⟨_, h⟩
theorem wp_forget {P : Program} {C : Code} {Q : Exit → Act → World → Prop} {a : Act} {w : World} (D : List Tmp) (t : Tmp) (v : Value) (h1 : C.wp P (fun e a' w' => e = .normal ∧ w' = w ∧ Forgot a D t v a') a w)
    (h2 : ∀ β, Q .normal ((ovl a β D).put (some t) v) w) : C.wp P Q a w :=
  Code.wp_mono (fun e a' w' ⟨he, hw, β, hβ⟩ => by subst he hw hβ; exact h2 β) h1
theorem cell_pc (c : Cr) : c.cells[0]? = some (.int .u8 c.pc) := rfl
theorem cell_buf (c : Cr) : c.cells[9]? = some c.buf := rfl
theorem cell_wt (c : Cr) : c.cells[10]? = some (.bool c.wt) := rfl
theorem cell_dr (c : Cr) : c.cells[11]? = some (.bool c.dr) := rfl
theorem StAt.pre {w : World} {N : Nat} {ad : Option Addr} {l l' t : List (Nat × Nat)} (h : StAt w N ad l') (e : l' = l ++ t) : StAt w N ad l := fun j p hj => h j p (by
  rw [e, List.getElem?_append_left (List.getElem?_eq_some_iff.1 hj).1]; exact hj)
theorem cnt_le (r s : Nat → Int) : ∀ j, cntR r s j ≤ j
  | 0 => Nat.le_refl 0
  | j + 1 => by
    have := cnt_le r s j
    unfold cntR
    split <;> omega
theorem c_SameOwn (c : Cr) (v2 : Value) (bl : List (Nat × Nat)) (w : World) (hl : bl.length ≤ 1000) (h1 : BufOk w c.buf bl) (h2 : BufOk w v2 bl) :
    Calls Try.prog 17 #[.agg c.cells, .agg { c with buf := v2 }.cells] w fun e w' => e = .returned (.bool true) ∧ Below w.heap.size w w' := c_SameCore c c.buf v2 bl w hl h1 h2
set_option maxRecDepth 8000 in
set_option maxHeartbeats 8000000 in
theorem stuck_walk (ai : Option Addr) (ni ci : Nat) (l : List In) (k1 k2 k3 most : Int) (ev : Bool) (c : Cr) (ab : Option Addr) (m cab : Nat) (bl : List (Nat × Nat)) (w : World) (h : Came w ai ni l c ab m cab bl) :
    Calls Try.prog 4 #[.slice ai ni ci, .agg (rls k1 k2 k3 most ev), .agg c.cells] w fun e w' => e = .returned (.bool true) ∧ Below w.heap.size w w' := by
  have hb2 := ((Below.refl w.heap.size w).alloc (Nat.le_refl _) (.cells (rls k1 k2 k3 most ev) 35)).alloc (by simp) (.cells c.cells 27)
  have HB := Lib.hid hb2
  have HR := Lib.hid ((BlkAt.new w (rls k1 k2 k3 most ev) 35).over ((Below.refl _ _).alloc (Nat.le_refl _) (.cells c.cells 27)))
  have HC := Lib.hid (show CrAt ((w.alloc (.cells (rls k1 k2 k3 most ev) 35)).alloc (.cells c.cells 27)) (w.heap.size + 1) c by
    have := CrAt.new (w.alloc (.cells (rls k1 k2 k3 most ev) 35)) c
    rwa [World.size_alloc] at this)
  have HCa := Lib.hid (h.over hb2)
  have hmax := h.max
  have hbmax := h.bmax
  have hpc0 := h.pc0
  have hpc1 := h.pc1
  clear hb2 h
  go_enter Try.func4, Try.ntmps4
  go_upto_region 1 with (fail)
  generalize (w.alloc (.cells (rls k1 k2 k3 most ev) 35)).alloc (.cells c.cells 27) = wb at *
  generalize w.heap.size + 1 = b5 at *
  obtain ⟨b4, hb4⟩ : ∃ b, w.heap.size = b := ⟨_, rfl⟩
  have HW := Lib.hid hb4
  rw [hb4] at HR ⊢
  clear hb4
  go_upto_region 3 with (first
    | (go_at_call 14; (with_reducible refine (c_awake _).mono ?_); rintro e w1 ⟨rfl, hb⟩; have HR1 := Lib.hid (HR.out.over hb); have HC1 := Lib.hid (HC.out.over hb); have HCa1 := Lib.hid (HCa.out.over hb); have HB1 := Lib.hid (Below.chain HB.out hb); clear hb))
  clear HR HC HCa HB
  have q9 := HC1.out.at_ 9
  rw [show c.cells[9]? = some c.buf from rfl, HCa1.out.bufv] at q9
  have hwr : wrap64 ((ni : Int) + (m : Int)) = (ni : Int) + (m : Int) := by unfold wrap64; omega
  by_cases hbig : 300 < ni + m
  · have hbi : (300 : Int) < (ni : Int) + (m : Int) := by omega
    go_wp2
    go_ret
    exact ⟨rfl, HB1.out⟩
  have hbi : ¬ (300 : Int) < (ni : Int) + (m : Int) := by omega
  have HI1 := Lib.hid (HCa1.out.cin (ci := ci) (by omega))
  obtain ⟨p, hp⟩ : ∃ p : Nat, c.pc = p := ⟨c.pc.toNat, (Int.toNat_of_nonneg hpc0).symm⟩
  have hpt : c.pc.toNat = p := by omega
  have hp255 : p ≤ 255 := by omega
  obtain ⟨n, hn⟩ : ∃ n, nextV c l bl most = n := ⟨_, rfl⟩
  have HN := Lib.hid hn
  have HCN := Lib.hid (show ∀ w', CIn w' c bl (.slice ai ni ci) l → Calls Try.prog 15 #[.slice ai ni ci, .agg (rls k1 k2 k3 most ev), .agg c.cells] w' fun e w'' => e = .returned (.int .u8 n) ∧ Below w'.heap.size w' w'' from fun w' h => hn ▸ c_Next c bl _ l k1 k2 k3 most ev w' h.core h.ins)
  clear hn
  go_upto_region 6 with (first
    | (refine wpList_load_part 35 _ rfl rfl (by rfl) (load35 HR1.out) ?_)
    | (refine wpList_load_part 27 _ rfl rfl (by rfl) HC1.out.load ?_)
    | (go_at_call 15; (with_reducible refine (HCN.out _ HI1.out).mono ?_); rintro e w2 ⟨rfl, hb⟩; have HR2 := Lib.hid (HR1.out.over hb); have HC2 := Lib.hid (HC1.out.over hb); have HCa2 := Lib.hid (HCa1.out.over hb); have HB2 := Lib.hid (Below.chain HB1.out hb); have HI2 := Lib.hid (HI1.out.over hb); clear hb))
  clear HR1 HC1 HCa1 HB1 HI1 q9 HCN hbi
  -- is the next instruction undefined?
  have q0 := HC2.out.at_ 0
  rw [show c.cells[0]? = some (.int .u8 c.pc) from rfl, hp] at q0
  obtain ⟨od, hod⟩ : ∃ od, oddV c l = od := ⟨_, rfl⟩
  have HOd := Lib.hid hod
  refine wp_forget [25, 26, 27, 28, 29, 30, 31, 32, 33, 34, 35, 36, 37, 38, 39, 40, 41, 42, 43, 44, 45, 46, 47, 48] 8 (.bool od) ?_ (fun β => ?_)
  · by_cases hpn : p < ni
    · have hpl : p < l.length := by have := HCa2.out.len; omega
      obtain ⟨gi, off, rfl, hgl, hcells⟩ := HCa2.out.ins p _ (List.getElem?_eq_getElem hpl)
      have hx : xOf c l = l[p] := by unfold xOf; rw [hpt, List.getElem?_eq_getElem hpl]; rfl
      have hop := hcells 0 (.int .u8 (xOf c l).op) (by rw [hx]; rfl)
      rw [Nat.add_zero] at hop
      have hpi : (p : Int) < (ni : Int) := by omega
      have hodv : od = (decide ((xOf c l).op < 1) || decide (8 < (xOf c l).op)) := by rw [← hod]; unfold oddV; rw [decide_eq_true (p := c.pc.toNat < l.length) (by have := HCa2.out.len; omega), Bool.true_and]
      obtain ⟨op, hope⟩ : ∃ op, (xOf c l).op = op := ⟨_, rfl⟩
      rw [hope] at hop hodv
      subst hodv
      clear hcells hx hope hod hpt hp
      by_cases h1 : op < 1
      · rw [decide_eq_true h1]
        go_wp2
        refine Forgot.mk ?_; simp only [ovl]; go_simp
      · rw [decide_eq_false h1]
        by_cases h2 : 8 < op
        · rw [decide_eq_true h2]
          go_wp2
          refine Forgot.mk ?_; simp only [ovl]; go_simp
        · rw [decide_eq_false h2]
          go_wp2
          refine Forgot.mk ?_; simp only [ovl]; go_simp
    · have hpi : ¬ (p : Int) < (ni : Int) := by omega
      have hodv : od = false := by rw [← hod]; unfold oddV; rw [decide_eq_false (p := c.pc.toNat < l.length) (by have := HCa2.out.len; omega)]; rfl
      subst hodv
      go_wp2
      refine Forgot.mk ?_; simp only [ovl]; go_simp
  simp only [ovl]
  go_simp
  go_upto_region 7 with (fail)
  have q3 := HC2.out.at_ 10
  have q4 := HC2.out.at_ 11
  have q9 := HC2.out.at_ 9
  rw [show c.cells[10]? = some (.bool c.wt) from rfl] at q3
  rw [show c.cells[11]? = some (.bool c.dr) from rfl] at q4
  rw [show c.cells[9]? = some c.buf from rfl, HCa2.out.bufv] at q9
  refine wp_forget [49, 50, 51, 52, 53, 54, 55, 56, 57, 58, 59, 60, 61, 62, 63, 64, 65, 66, 67, 68, 69, 70, 71, 72, 73, 74, 75, 76, 77, 78, 79, 80, 81, 82, 83, 84, 85, 86, 87, 88, 89] 90 (.bool false) ?_ (fun γ => ?_)
  · have hr := next_range c l bl most
    rw [HN.out] at hr
    rcases hr with rfl | rfl | rfl | rfl
    · have hnp := next1 HN.out
      have hpi : ¬ (p : Int) < (ni : Int) := by have := HCa2.out.len; omega
      clear hnp
      go_wp2
      refine Forgot.mk ?_; simp only [ovl]; go_simp
    · go_wp2
      refine Forgot.mk ?_; simp only [ovl]; go_simp
    · go_wp2
      refine Forgot.mk ?_; simp only [ovl]; go_simp
    · obtain ⟨wt, hwt⟩ : ∃ x, c.wt = x := ⟨_, rfl⟩
      obtain ⟨dr, hdr⟩ : ∃ x, c.dr = x := ⟨_, rfl⟩
      rw [hwt] at q3
      rw [hdr] at q4
      cases wt with
      | true =>
        clear hwt hdr hod
        go_wp2
        refine Forgot.mk ?_; simp only [ovl]; go_simp
      | false =>
        cases dr with
        | true =>
          clear hwt hdr hod
          go_wp2
          refine Forgot.mk ?_; simp only [ovl]; go_simp
        | false =>
          by_cases hm0 : m = 0
          · have hbl : bl = [] := List.eq_nil_of_length_eq_zero (by have := HCa2.out.blen; omega)
            have hodt : od = true := by rw [← hod]; exact next4 (most := most) (by rw [← hbl]; exact HN.out) hwt hdr
            subst hodt hm0
            clear hwt hdr hod hbl
            go_wp2
            refine Forgot.mk ?_; simp only [ovl]; go_simp
          · have hmf : ((m : Int) == 0) = false := ne_beq (by omega)
            clear hwt hdr hod hm0
            go_wp2
            refine Forgot.mk ?_; simp only [ovl]; go_simp
  simp only [ovl]
  go_simp
  clear q3 q4 q9 hp hpt q0 hod HOd
  by_cases h2 : n = 2
  · subst h2
    have HLo := Lib.hid (show Calls Try.prog 16 #[.slice ai ni ci, .agg (rls k1 k2 k3 most ev), .agg c.cells] w2 fun e w' => LPost w2 { c with pc := mn3 l.length (c.pc + locM c l), r := locR c l bl } (locBl c l bl) e w' from by
      have := c_Local k1 k2 k3 most ev HI2.out
      unfold locC locB at this
      rw [if_pos HN.out, if_pos HN.out] at this
      exact this)
    have hcnt := loc_cnt c l bl
    obtain ⟨tt, hpre, htt⟩ := loc_pre c l bl
    have hpcl := loc_pc hpc0 hpc1 (xOf_ok (c := c) HI2.out.x).skip.1 (next2is HN.out)
    have hb0 := mn3_eq (l.length : Int) (c.pc + locM c l)
    have hm1 : 1 ≤ locM c l := by
      have hs := (xOf_ok (c := c) HI2.out.x).skip.1
      unfold locM
      split
      · split <;> omega
      · omega
    have HPre := Lib.hid hpre
    obtain ⟨r', hr'⟩ : ∃ r', locR c l bl = r' := ⟨_, rfl⟩
    obtain ⟨pc', hpc'⟩ : ∃ q, mn3 l.length (c.pc + locM c l) = q := ⟨_, rfl⟩
    rw [hr', hpc'] at HLo
    rw [hr'] at hcnt
    rw [hpc'] at hpcl hb0
    have hpb : 0 ≤ pc' ∧ pc' ≤ 255 := by omega
    have hnb : (locBl c l bl).length = bl.length + tt.length := by rw [hpre, List.length_append]
    have hblm : bl.length = m := HCa2.out.blen
    obtain ⟨bl', hbl'⟩ : ∃ b, locBl c l bl = b := ⟨_, rfl⟩
    rw [hbl'] at HLo HPre hnb
    obtain ⟨n9, hn9⟩ : ∃ n9, bl'.length = n9 := ⟨_, rfl⟩
    have h9a : m ≤ n9 := by omega
    have h9b : n9 ≤ m + 1 := by omega
    have HN9 := Lib.hid hn9
    have HBM := Lib.hid hblm
    have HF := Lib.hid (show ∀ e w', LPost w2 { c with pc := pc', r := r' } bl' e w' → ∃ ad cap, e = .returned (.agg (Cr.cells ⟨pc', r', .slice ad n9 cap, c.wt, c.dr⟩)) ∧ n9 ≤ cap ∧ StAt w' w'.heap.size ad bl' ∧ Below w2.heap.size w2 w' from by
      intro e w' h
      obtain ⟨ad, cap, h1, h2, ⟨ad', cap', e1, _, h3⟩, h4⟩ := h.form
      simp only [Value.slice.injEq] at e1
      obtain ⟨rfl, _, rfl⟩ := e1
      rw [hn9] at h1 h2
      exact ⟨ad, cap, h1, h2, h3, h4⟩)
    clear hpre hr' hpc' hbl' hn9 hnb hblm htt hm1 hb0
    have HBc := Lib.hid (show BufOk w2 c.buf bl from HI2.out.core.buf)
    go_upto_region 12 with (first
      | (refine wpList_load_part 35 _ rfl rfl (by rfl) (load35 HR2.out) ?_)
      | (go_at_call 16; (with_reducible refine HLo.out.mono ?_); intro e w3 hL; obtain ⟨ad9, cap9, rfl, hle9, hst9, hb9⟩ := HF.out e w3 hL; have HB3 := Lib.hid hb9; have HS9 := Lib.hid hst9; have HC3 := Lib.hid (HC2.out.over hb9); clear hL hst9 hb9)
      | (refine wpList_store_new rfl _ _ rfl rfl rfl size27 rfl (core_one rfl) ?_)
      | (refine wpList_load_part 27 _ rfl rfl (by rfl) HC2.out.load ?_))
    have hbn := (Below.refl w3.heap.size w3).alloc (Nat.le_refl _) (.cells (Cr.cells ⟨pc', r', .slice ad9 n9 cap9, c.wt, c.dr⟩) 27)
    have HC9 := Lib.hid (CrAt.new w3 ⟨pc', r', .slice ad9 n9 cap9, c.wt, c.dr⟩)
    have HC4 := Lib.hid (HC3.out.over hbn)
    have HB4 := Lib.hid (Below.chain HB2.out (HB3.out.trans (hbn.mono HB3.out.size)))
    have HS4 := Lib.hid ((HS9.out.below hbn).mono hbn.size)
    have HBc4 := Lib.hid ((HBc.out.over HB3.out).over hbn)
    clear hbn HS9 HC3 HB3 HR2 HC2 HB2 HI2 HBc HLo HF
    generalize w3.alloc (.cells (Cr.cells ⟨pc', r', .slice ad9 n9 cap9, c.wt, c.dr⟩) 27) = w4 at *
    generalize w3.heap.size = b9 at *
    go_wp2
    go_loopw [10, 11] (fun s i wr => ∃ j : Nat, j ≤ 8 ∧ i = .int .i64 j ∧ s = .int .i64 (cntR c.r r' j) ∧ Below w4.heap.size w4 wr) (fun _ i _ => 8 - (intOf i).toNat)
    case atStart => exact ⟨0, by omega, rfl, rfl, Below.refl _ _⟩
    case round =>
      obtain ⟨j, hj, rfl, rfl, hbr⟩ := hrel
      have HBr := Lib.hid hbr
      clear hbr
      by_cases hlt : j < 8
      · have ha := (HC4.out.over HBr.out).reg hlt
        have hb := (HC9.out.over HBr.out).reg hlt
        simp only at hb
        have HS := Lib.hid (show cntR c.r r' (j + 1) = cntR c.r r' j + if c.r j = r' j then 0 else 1 from rfl)
        have hji : (j : Int) < 8 := by omega
        have hcb : cntR c.r r' j ≤ 8 := Nat.le_trans (cnt_le c.r r' j) hj
        by_cases he : c.r j = r' j
        · have hne : (c.r j != r' j) = false := by rw [he, bne_self_eq_false]
          have HV := Lib.hid (show cntR c.r r' (j + 1) = cntR c.r r' j by rw [HS.out, if_pos he]; rfl)
          clear he
          go_upto_region 16 with (fail)
          go_quiet (fail)
          have HQ := Lib.hid (below_drewN' HBr.out nq)
          go_wp2
          refine ⟨⟨j + 1, by omega, by go_num, by rw [HV.out], HQ.out⟩, by simp [intOf]; omega⟩
        · have hne : (c.r j != r' j) = true := by rw [bne_iff_ne]; exact he
          have HV := Lib.hid (show cntR c.r r' (j + 1) = cntR c.r r' j + 1 by rw [HS.out, if_neg he])
          clear he
          go_upto_region 16 with (fail)
          go_quiet (fail)
          have HQ := Lib.hid (below_drewN' HBr.out nq)
          go_wp2
          refine ⟨⟨j + 1, by omega, by go_num, by rw [HV.out]; rfl, HQ.out⟩, by simp [intOf]; omega⟩
      · have hj8 : j = 8 := by omega
        subst hj8
        have HD9 := Lib.hid (HC9.out.over HBr.out)
        have HD4 := Lib.hid (HC4.out.over HBr.out)
        have HSA := Lib.hid (((HS4.out.below HBr.out).mono HBr.out.size).pre HPre.out)
        have HSX := Lib.hid (show StAt wr wr.heap.size ab bl from by
          obtain ⟨ad, cap, e, _, h⟩ := HBc4.out.over HBr.out
          have e2 : c.buf = .slice ab m cab := HCa2.out.bufv
          rw [e2] at e
          simp only [Value.slice.injEq] at e
          obtain ⟨rfl, _, _⟩ := e
          exact h)
        have HBE := Lib.hid (Below.chain HB4.out HBr.out)
        have hbuf : c.buf = .slice ab m cab := HCa2.out.bufv
        clear HC9 HC4 HS4 HBc4 HPre HBr HCa2
        have hci : ((cntR c.r r' 8 : Nat) : Int) ≤ 1 := by omega
        obtain ⟨cn, hcn⟩ : ∃ cn, cntR c.r r' 8 = cn := ⟨_, rfl⟩
        rw [hcn] at hci ⊢
        have hd0 : (0 : Int) ≤ (n9 : Int) - (m : Int) := by omega
        have hd1 : (n9 : Int) - (m : Int) ≤ 1 := by omega
        have hwd : wrap64 ((n9 : Int) - (m : Int)) = (n9 : Int) - (m : Int) := by unfold wrap64; omega
        have hwd2 : IntKind.i64.wrap ((n9 : Int) - (m : Int)) = (n9 : Int) - (m : Int) := by rw [IntKind.wrap_i64]; omega
        have hdd0 : decide ((0 : Int) ≤ (n9 : Int) - (m : Int)) = true := decide_eq_true hd0
        have hdd1 : decide ((n9 : Int) - (m : Int) ≤ 1) = true := decide_eq_true hd1
        have hcd : decide ((cn : Int) ≤ 1) = true := decide_eq_true hci
        have hmc : (m : Int) ≤ (cap9 : Int) := by omega
        have hmn : m ≤ cap9 := by omega
        clear hcn hcnt
        go_upto_region 18 with (fail)
        rcases hpcl with hp1 | hp1
        · have hpd : decide (c.pc < pc') = true := decide_eq_true hp1
          clear hp1
          (refine wp_region_only (by kernel_rfl) (by kernel_rfl) ?_; refine WpV.out ?_; (repeat (first | ((refine t_step (fun K hK => ?_)); (fail); refine hK _ ?_; clear hK K) | ((refine t_step (fun K hK => ?_)); go_simp; (first | (refine hK _ ?_; clear hK K) | (refine CalmB.of ?_; apply Exists.intro; refine ⟨fun wcalm hcalm => ?_, hK _ ?_⟩; (focus ((have y0 := (HD9.out.over hcalm).at_ 0; have y9 := (HD9.out.over hcalm).at_ 9; have y10 := (HD9.out.over hcalm).at_ 10; have y11 := (HD9.out.over hcalm).at_ 11; have x0 := (HD4.out.over hcalm).at_ 0; have x9 := (HD4.out.over hcalm).at_ 9; have x10 := (HD4.out.over hcalm).at_ 10; have x11 := (HD4.out.over hcalm).at_ 11; simp only [cell_pc, cell_buf, cell_wt, cell_dr, hbuf] at y0 y9 y10 y11 x0 x9 x10 x11); go_simp; first | done | (go_at_call 18; with_reducible exact c_SameStores bl m HBM.out (Nat.le_trans hbmax (by decide)) ad9 ab cap9 cab _ ((HSA.out.below hcalm).mono hcalm.size) ((HSX.out.below hcalm).mono hcalm.size)) | rfl)); clear hK K))))); refine v_nil ?_; intro wq hq)
          go_wp2
          go_ret
          exact ⟨rfl, Below.chain HBE.out hq⟩
        · have hpd : decide (c.pc < pc') = false := decide_eq_false (by omega)
          have hpe : (c.pc == 255) = true := by rw [hp1]; rfl
          clear hp1
          (refine wp_region_only (by kernel_rfl) (by kernel_rfl) ?_; refine WpV.out ?_; (repeat (first | ((refine t_step (fun K hK => ?_)); (fail); refine hK _ ?_; clear hK K) | ((refine t_step (fun K hK => ?_)); go_simp; (first | (refine hK _ ?_; clear hK K) | (refine CalmB.of ?_; apply Exists.intro; refine ⟨fun wcalm hcalm => ?_, hK _ ?_⟩; (focus ((have y0 := (HD9.out.over hcalm).at_ 0; have y9 := (HD9.out.over hcalm).at_ 9; have y10 := (HD9.out.over hcalm).at_ 10; have y11 := (HD9.out.over hcalm).at_ 11; have x0 := (HD4.out.over hcalm).at_ 0; have x9 := (HD4.out.over hcalm).at_ 9; have x10 := (HD4.out.over hcalm).at_ 10; have x11 := (HD4.out.over hcalm).at_ 11; simp only [cell_pc, cell_buf, cell_wt, cell_dr, hbuf] at y0 y9 y10 y11 x0 x9 x10 x11); go_simp; first | done | (go_at_call 18; with_reducible exact c_SameStores bl m HBM.out (Nat.le_trans hbmax (by decide)) ad9 ab cap9 cab _ ((HSA.out.below hcalm).mono hcalm.size) ((HSX.out.below hcalm).mono hcalm.size)) | rfl)); clear hK K))))); refine v_nil ?_; intro wq hq)
          go_wp2
          go_ret
          exact ⟨rfl, Below.chain HBE.out hq⟩
  · have hnf : (n == 2) = false := ne_beq h2
    have HLo := Lib.hid (show Calls Try.prog 16 #[.slice ai ni ci, .agg (rls k1 k2 k3 most ev), .agg c.cells] w2 fun e w' => LPost w2 c bl e w' from by
      have := c_Local k1 k2 k3 most ev HI2.out
      unfold locC locB at this
      rw [HN.out, if_neg h2, if_neg h2] at this
      exact this)
    clear h2
    have HBc := Lib.hid (show BufOk w2 c.buf bl from HI2.out.core.buf)
    go_wp2_with (first
      | (refine wpList_load_part 35 _ rfl rfl (by rfl) (load35 HR2.out) ?_)
      | (go_at_call 16; (with_reducible refine HLo.out.mono ?_); intro e w3 hL; obtain ⟨ad9, cap9, rfl, hle9, hbu9, hb9⟩ := hL.form; have HB3 := Lib.hid hb9; have HBu := Lib.hid hbu9; have HC3 := Lib.hid (HC2.out.over hb9); clear hL hbu9 hb9 hle9)
      | (refine wpList_store_new rfl _ _ rfl rfl rfl size27 rfl (core_one rfl) ?_; have hbn := (Below.refl w3.heap.size w3).alloc (Nat.le_refl _) (.cells { c with buf := .slice ad9 bl.length cap9 }.cells 27); have HC9 := Lib.hid (CrAt.new w3 { c with buf := .slice ad9 bl.length cap9 }); have HC4 := Lib.hid (HC3.out.over hbn); have HB4 := Lib.hid hbn; clear hbn)
      | (refine wpList_load_part 27 _ rfl rfl (by rfl) HC2.out.load ?_)
      | (refine wpList_load_part 27 _ rfl rfl (by rfl) HC4.out.load ?_)
      | (refine wpList_load_part 27 _ rfl rfl (by rfl) HC9.out.load ?_)
      | (go_at_call 17; (with_reducible refine (c_SameOwn c (.slice ad9 bl.length cap9) bl _ HI2.out.core.len ((HBc.out.over HB3.out).over HB4.out) (HBu.out.over HB4.out)).mono ?_); rintro e w5 ⟨rfl, hb5⟩))
    go_ret
    exact ⟨rfl, Below.chain HB2.out (HB3.out.trans ((HB4.out.trans (hb5.mono HB4.out.size)).mono HB3.out.size))⟩
end Go.Proofs.Ytckcdpmfmfpmmaa
