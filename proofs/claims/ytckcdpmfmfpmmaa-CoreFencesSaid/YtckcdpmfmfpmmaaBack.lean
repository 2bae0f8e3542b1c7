/-
  core.Back: the core when its request is carried out.
-/
import Derived.Test.YtckcdpmfmfpmmaaDrain
namespace Go.Proofs.Ytckcdpmfmfpmmaa
open Go.RowKit

/-- A buffer that reads as a list of stores. -/
def BufOk (w : World) (v : Value) (bl : List (Nat × Nat)) : Prop := ∃ ad cap, v = .slice ad bl.length cap ∧ (ad = none → cap = 0) ∧ StAt w w.heap.size ad bl
theorem BufOk.of_owns {w : World} {base : Nat} {v : Value} {bl : List (Nat × Nat)} (h : w.ownsRow base 59 2 v bl.length (vst bl)) : BufOk w v bl := by
  obtain ⟨ad, cap, hv, hs⟩ := StAt.of_owns h
  refine ⟨ad, cap, hv, fun hn => ?_, hs⟩
  subst hn
  obtain ⟨_, ⟨h1, _⟩ | ⟨g, cap', cur, h1, _⟩⟩ := h
  · rw [hv] at h1; simp only [Value.slice.injEq] at h1; exact h1.2.2
  · rw [hv] at h1; simp at h1
theorem BufOk.over {w w' : World} {v : Value} {bl : List (Nat × Nat)} (h : BufOk w v bl) (hb : Below w.heap.size w w') : BufOk w' v bl :=
  let ⟨ad, cap, h1, h2, h3⟩ := h; ⟨ad, cap, h1, h2, (h3.below hb).mono hb.size⟩
/-- A core is handed back. -/
def BPost (w : World) (c : Cr) (bl : List (Nat × Nat)) (e : Ending) (w' : World) : Prop :=
  ∃ v, e = .returned (.agg { c with buf := v }.cells) ∧ BufOk w' v bl ∧ Below w.heap.size w w'
theorem LPost.b {w w' : World} {c : Cr} {bl : List (Nat × Nat)} {e : Ending} (h : LPost w c bl e w') : BPost w c bl e w' :=
  let ⟨v, h1, h2, h3⟩ := h; ⟨v, h1, BufOk.of_owns h2, h3⟩

def prf (k0 k1 k2 k3 k4 old new : Int) : Array Value := #[.int .u8 k0, .int .u8 k1, .int .u8 k2, .int .u8 k3, .int .u8 k4, .int .u8 old, .int .u8 new]
def bckBl (c : Cr) (bl : List (Nat × Nat)) : List (Nat × Nat) := if c.dr then bl.drop 1 else bl
def bckC (c : Cr) (l : List In) (old : Int) : Cr :=
  if c.dr then { c with dr := false }
  else if c.wt then { c with wt := false, pc := mn3 l.length (c.pc + 1), r := if c.pc.toNat < l.length ∧ (xOf c l).op ≠ 2 then rsetC c (xOf c l) old else c.r }
  else c

theorem boxB (w : World) (c : Cr) (pr : Array Value) : CrAt (((w.alloc (.cells c.cells 27)).alloc (.cells pr 74)).alloc (.cells Cr.zero.cells 27)) w.heap.size c ∧
    (((w.alloc (.cells c.cells 27)).alloc (.cells pr 74)).alloc (.cells Cr.zero.cells 27)).heap[w.heap.size + 1]? = some (.cells pr 74) ∧
    CrAt (((w.alloc (.cells c.cells 27)).alloc (.cells pr 74)).alloc (.cells Cr.zero.cells 27)) (w.heap.size + 1 + 1) Cr.zero ∧ Below w.heap.size w (((w.alloc (.cells c.cells 27)).alloc (.cells pr 74)).alloc (.cells Cr.zero.cells 27)) := by
  have hb1 := (Below.refl w.heap.size w).alloc (Nat.le_refl _) (.cells c.cells 27)
  have hb2 := hb1.alloc (by simp) (.cells pr 74)
  have hb3 := hb2.alloc (by simp; omega) (.cells Cr.zero.cells 27)
  refine ⟨?_, ?_, ?_, hb3⟩
  · exact ((CrAt.new w c).over ((Below.refl _ _).alloc (Nat.le_refl _) _)).over ((Below.refl _ _).alloc (Nat.le_refl _) _)
  · have := heap_alloc_new (w.alloc (.cells c.cells 27)) (.cells pr 74)
    rw [World.size_alloc] at this
    exact (Below.heap_alloc _ _ _ (by simp)).trans this
  · have := CrAt.new ((w.alloc (.cells c.cells 27)).alloc (.cells pr 74)) Cr.zero
    rwa [World.size_alloc, World.size_alloc] at this

section
variable {w wb w1 : World} {b b6 B : Nat} {k : Wk} {bl : List (Nat × Nat)} {u u2 : Value} {cs : Array Value}
theorem back_z {c : Cr} (h : CrAt w1 b6 c) (hne : b6 ≠ b) : CrAt ((w1.setCell ⟨b, 9, none⟩ u).drew.setCell ⟨b, 11, none⟩ u2) b6 c :=
  ⟨(Below.heap_setCell (w1.setCell ⟨b, 9, none⟩ u).drew ⟨b, 11, none⟩ u2 b6 hne).trans ((Below.heap_setCell w1 ⟨b, 9, none⟩ u b6 hne).trans h.heap)⟩
theorem back_keep (h : WkS B w1 b k bl) (h6 : b6 < B) : ∀ g, k.c.buf.ownBlock = some g → (((w1.setCell ⟨b, 9, none⟩ u).drew.setCell ⟨b, 11, none⟩ u2).setRow b6 cs).heap[g]? = w1.heap[g]? := by
  intro g hg
  have h1 := (owned_block h.own hg).1
  have hne : g ≠ b := fun e => h.ne (by rw [hg, e])
  refine (setRow_other _ b6 g _ (by omega)).trans ?_
  exact (Below.heap_setCell (w1.setCell ⟨b, 9, none⟩ u).drew ⟨b, 11, none⟩ u2 g hne).trans (Below.heap_setCell w1 ⟨b, 9, none⟩ u g hne)
theorem back_below (h0 : Below w.heap.size w wb) (h1 : Below wb.heap.size wb w1) (h : WkS wb.heap.size w1 b k bl) (h6 : w.heap.size ≤ b6) :
    Below w.heap.size w (((w1.setCell ⟨b, 9, none⟩ u).drew.setCell ⟨b, 11, none⟩ u2).setRow b6 cs) := by
  have hb : w.heap.size ≤ b := Nat.le_trans h0.size h.ge
  exact Below.setRow' ((below_drewN' ((Below.chain h0 h1).setCell hb _) 1).setCell hb _) h6
theorem wks_setWt (h : WkS B w1 b k bl) (v : Bool) : WkS B (w1.setCell ⟨b, 10, none⟩ (.bool v)) b { k with c := { k.c with wt := v } } bl :=
  ⟨h.at_.setWt v, owns_of_heap h.own fun g hg => Below.heap_setCell w1 ⟨b, 10, none⟩ _ g (fun e => h.ne (by rw [hg, e])), h.ne, h.ge⟩
theorem drop_nil {w' : World} {ab : Option Addr} {cb : Nat} (h : WkS B w1 b k []) (hv : k.c.buf = .slice ab 0 cb) (_ : ∀ g, k.c.buf.ownBlock = some g → w'.heap[g]? = w1.heap[g]?) : BufOk w' (.slice ab 0 cb) (([] : List (Nat × Nat)).drop 1) := by
  obtain ⟨ad, cap, h1, h2, _⟩ := BufOk.of_owns h.own
  rw [hv] at h1
  simp only [Value.slice.injEq] at h1
  obtain ⟨rfl, _, rfl⟩ := h1
  exact ⟨ab, cb, rfl, h2, fun j p hp => by simp at hp⟩
theorem drop_cons {w' : World} {p : Nat × Nat} {g cb : Nat} {n : Nat} (h : WkS B w1 b k (p :: bl)) (hv : k.c.buf = .slice (some ⟨g, 0, none⟩) n cb) (hn : (p :: bl).length = n) (hle : n ≤ cb) (hk : ∀ g, k.c.buf.ownBlock = some g → w'.heap[g]? = w1.heap[g]?) (hsz : w1.heap.size ≤ w'.heap.size) : BufOk w' (.slice (if cb = 1 then some ⟨g, 0, none⟩ else some ⟨g, 2, none⟩) (n - 1) (cb - 1)) ((p :: bl).drop 1) := by
  obtain ⟨ad, cap, h1, h2, hs⟩ := BufOk.of_owns h.own
  rw [hv] at h1
  simp only [Value.slice.injEq] at h1
  obtain ⟨rfl, _, rfl⟩ := h1
  by_cases hcb : cb = 1
  · have hbl : bl = [] := List.eq_nil_of_length_eq_zero (by simp only [List.length_cons] at hn; omega)
    subst hbl
    rw [if_pos hcb]
    exact ⟨_, _, by rw [← hn]; rfl, fun h => (by cases h), fun j q hq => by simp at hq⟩
  rw [if_neg hcb]
  refine ⟨_, _, by rw [← hn]; rfl, fun h => (by cases h), fun j q hq => ?_⟩
  obtain ⟨c, off, e, hlt, c1, c2⟩ := hs (j + 1) q (by simpa using hq)
  simp only [Option.some.injEq, Addr.mk.injEq] at e
  obtain ⟨rfl, rfl, _⟩ := e
  have hg := hk g (by rw [hv]; rfl)
  have hcell : ∀ i, w'.cell? ⟨g, i, none⟩ = w1.cell? ⟨g, i, none⟩ := fun i => World.cell?_of_block (w := w1) (w' := w') (a := ⟨g, i, none⟩) hg
  refine ⟨g, 2, rfl, Nat.lt_of_lt_of_le hlt hsz, ?_, ?_⟩
  · rw [hcell, ← c1]; congr 2; omega
  · rw [hcell, ← c2]; congr 2; omega
end
set_option maxRecDepth 8000 in
set_option maxHeartbeats 4000000 in
theorem c_Back {c : Cr} {bl : List (Nat × Nat)} {v : Value} {l : List In} {w : World} (k0 k1 k2 k3 k4 old new : Int) (h : CIn w c bl v l) :
    Calls Try.prog 35 #[v, .agg c.cells, .agg (prf k0 k1 k2 k3 k4 old new)] w fun e w' => BPost w (bckC c l old) (bckBl c bl) e w' := by
  obtain ⟨hC, hP, hZ, hB⟩ := boxB w c (prf k0 k1 k2 k3 k4 old new)
  have HB := Lib.hid hB
  have HC := Lib.hid hC
  have HZ := Lib.hid hZ
  have hpo := cell_of_row _ _ 5 _ _ _ hP
  rw [show (prf k0 k1 k2 k3 k4 old new)[5]? = some (.int .u8 old) from rfl] at hpo
  have hplt := (Array.getElem?_eq_some_iff.1 hP).1
  have HI := Lib.hid (h.over hB)
  have HK := Lib.hid (show ∀ vb ins, KOk (mkW c vb ins l) from fun vb ins => mkW_ok h.x h.r h.core)
  obtain ⟨ai, ci, rfl, -⟩ := h.ins.sl
  have hlen := h.core.len
  have hnx := h.ins.len
  obtain ⟨ni, hni⟩ : ∃ ni, l.length = ni := ⟨_, rfl⟩
  have HX := Lib.hid (show bckC c l old = if c.dr then { c with dr := false } else if c.wt then { c with wt := false, pc := mn3 ni (c.pc + 1), r := if c.pc.toNat < ni ∧ (xOf c l).op ≠ 2 then rsetC c (xOf c l) old else c.r } else c by rw [← hni]; rfl)
  rw [hni] at HI hnx ⊢
  have HIs := Lib.hid (show ∀ vb ins, (mkW c vb ins l).is = decide (c.pc.toNat < ni) from fun vb ins => by rw [← hni]; rfl)
  rw [show Cr.zero.cells = #[.int .u8 0, .int .u8 0, .int .u8 0, .int .u8 0, .int .u8 0, .int .u8 0, .int .u8 0, .int .u8 0, .int .u8 0, .slice none 0 0, .bool false, .bool false] from rfl] at *
  clear h hC hP hZ hB hni
  go_enter Try.func35, Try.ntmps35
  go_upto_region 1 with (fail)
  generalize ((w.alloc (.cells c.cells 27)).alloc (.cells (prf k0 k1 k2 k3 k4 old new) 74)).alloc (.cells #[.int .u8 0, .int .u8 0, .int .u8 0, .int .u8 0, .int .u8 0, .int .u8 0, .int .u8 0, .int .u8 0, .int .u8 0, .slice none 0 0, .bool false, .bool false] 27) = wb at *
  have hge6 : w.heap.size ≤ w.heap.size + 1 + 1 := by omega
  generalize w.heap.size + 1 + 1 = b6 at *
  generalize w.heap.size + 1 = b5 at *
  go_upto_region 2 with (first
    | (refine wpList_load_part 27 _ rfl rfl (by rfl) HC.out.load ?_)
    | (go_at_call 27; (with_reducible refine (co_ofS _ HI.out.core HI.out.ins).mono ?_); rintro e w1 ⟨b, vb, rfl, hW, hbe⟩; have HW := Lib.hid hW; have HE := Lib.hid hbe; clear hW hbe))
  have q10 := HW.out.at_.wt
  have q11 := HW.out.at_.dr
  have q9 := HW.out.at_.buf
  have f9 := HW.out.at_.unfrozen 9
  have f10 := HW.out.at_.unfrozen 10
  have f11 := HW.out.at_.unfrozen 11
  have hblt := HW.out.at_.lt
  obtain ⟨ab, cb, hv, hnb, hst⟩ := BufOk.of_owns HW.out.own
  have hv : vb = .slice ab bl.length cb := hv
  subst hv
  rw [show (mkW c (.slice ab bl.length cb) (.slice ai ni ci) l).c.buf = .slice ab bl.length cb from rfl] at q9
  rw [show (mkW c (.slice ab bl.length cb) (.slice ai ni ci) l).c.wt = c.wt from rfl] at q10
  rw [show (mkW c (.slice ab bl.length cb) (.slice ai ni ci) l).c.dr = c.dr from rfl] at q11
  have HST := Lib.hid hst
  have hbge := HW.out.ge
  have HZ1 := Lib.hid (HZ.out.over HE.out)
  have hz6 := HZ.out.lt
  have hne6 : b6 ≠ b := by omega
  cases hdr : c.dr with
  | true =>
    rw [hdr] at q11
    have HXT := Lib.hid (show bckC c l old = { c with dr := false } by rw [HX.out, if_pos hdr])
    have HBT := Lib.hid (show bckBl c bl = bl.drop 1 by unfold bckBl; rw [if_pos hdr])
    have hdr2 := hdr
    clear hdr q10 hpo hnb
    cases bl with
    | nil =>
      simp only [List.length_nil] at q9
      go_wp2
      apply wp_share
      · intro hR
        go_region
        all_goals exact hR.out
      have HW2 := Lib.hid (((HW.out.at_.setBuf (.slice ab 0 cb)).drewN 1))
      have d11 := HW2.out.dr
      have g11 := HW2.out.unfrozen 11
      rw [show ({ mkW c (.slice ab ([] : List (Nat × Nat)).length cb) (.slice ai ni ci) l with c := { (mkW c (.slice ab ([] : List (Nat × Nat)).length cb) (.slice ai ni ci) l).c with buf := .slice ab 0 cb } } : Wk).c.dr = true from hdr2] at d11
      have HZ2 := Lib.hid (back_z HZ1.out hne6 (u := .slice ab 0 cb) (u2 := .bool false))
      go_wp2_with (first
        | (refine wpList_load_part 27 _ rfl rfl (by rfl) (HW2.out.setDr false).load ?_)
        | (refine wpList_store_core rfl _ _ rfl rfl rfl rfl HZ2.out ?_; intro hR))
      refine ret_core rfl rfl hR rfl ?_
      refine ⟨.slice ab 0 cb, by rw [HXT.out]; rfl, ?_, ?_⟩
      · rw [HBT.out]
        exact drop_nil HW.out rfl (back_keep HW.out hz6)
      · exact back_below HB.out HE.out HW.out hge6
    | cons p bl =>
      obtain ⟨hl, ⟨h1, _⟩ | ⟨g, cap, cur, h1, h2, h3, h4, h5⟩⟩ := HW.out.own
      · have h1 : (Value.slice ab (p :: bl).length cb) = .slice none 0 0 := h1
        simp at h1
      have h1 : (Value.slice ab (p :: bl).length cb) = .slice (some ⟨g, 0, none⟩) (p :: bl).length cap := h1
      simp only [Value.slice.injEq, true_and] at h1
      obtain ⟨rfl, rfl⟩ := h1
      clear h3 h5
      have hpos : 1 ≤ (p :: bl).length := by simp
      have HLN := Lib.hid (show (p :: bl).length - 1 = bl.length by simp)
      obtain ⟨n, hn⟩ : ∃ n, (p :: bl).length = n := ⟨_, rfl⟩
      rw [hn] at q9 h4 hpos hlen HLN
      clear hl
      go_wp2
      apply wp_share
      · intro hR
        go_region
        all_goals exact hR.out
      obtain ⟨na, hna⟩ : ∃ na : Option Addr, (if cb = 1 then some ⟨g, 0, none⟩ else some ⟨g, 2, none⟩) = na := ⟨_, rfl⟩
      have HNA := Lib.hid hna
      rw [hna]
      clear hna
      have HW2 := Lib.hid (((HW.out.at_.setBuf (.slice na (n - 1) (cb - 1))).drewN 1))
      have d11 := HW2.out.dr
      have g11 := HW2.out.unfrozen 11
      rw [show ∀ a b c d, ({ mkW c a b d with c := { (mkW c a b d).c with buf := .slice na (n - 1) (cb - 1) } } : Wk).c.dr = c.dr from fun _ _ _ _ => rfl, hdr2] at d11
      have HZ2 := Lib.hid (back_z HZ1.out hne6 (u := .slice na (n - 1) (cb - 1)) (u2 := .bool false))
      go_wp2_with (first
        | (refine wpList_load_part 27 _ rfl rfl (by rfl) (HW2.out.setDr false).load ?_)
        | (refine wpList_store_core rfl _ _ rfl rfl rfl rfl HZ2.out ?_; intro hR))
      refine ret_core rfl rfl hR rfl ?_
      refine ⟨.slice na (n - 1) (cb - 1), by rw [HXT.out]; rfl, ?_, ?_⟩
      · rw [HBT.out, ← HNA.out]
        exact drop_cons HW.out (by rw [hn]; rfl) hn h4 (back_keep HW.out hz6) (by simp [World.setRow, World.setCell])
      · exact back_below HB.out HE.out HW.out hge6
  | false =>
    rw [hdr] at q11
    have HBT := Lib.hid (show bckBl c bl = bl by unfold bckBl; rw [hdr]; rfl)
    have d23 := HW.out.at_.isC
    rw [HIs.out] at d23
    have d13 := HW.out.at_.op
    rw [show ∀ a b, (mkW c a b l).x = xOf c l from fun _ _ => rfl] at d13
    have hop0 := (xOf_ok (c := c) HI.out.x).op
    cases hwt : c.wt with
    | false =>
      have HXT := Lib.hid (show bckC c l old = c by rw [HX.out, hdr, hwt]; rfl)
      rw [hwt] at q10
      clear hdr hwt d23 d13
      go_wp2_with (first
        | (refine wpList_load_part 27 _ rfl rfl (by rfl) HW.out.at_.load ?_)
        | (refine wpList_store_core rfl _ _ rfl rfl rfl rfl HZ1.out ?_; intro hR))
      refine ret_core rfl rfl hR rfl ?_
      rw [HXT.out, HBT.out]
      exact (lpost_end HB.out rfl HE.out HW.out rfl hge6 hz6).b
    | true =>
      rw [hwt] at q10
      by_cases hset : c.pc.toNat < ni ∧ (xOf c l).op ≠ 2
      · have HXT := Lib.hid (show bckC c l old = { c with wt := false, pc := mn3 ni (c.pc + 1), r := rsetC c (xOf c l) old } by rw [HX.out, hdr, hwt, if_pos hset]; rfl)
        have hi : decide (c.pc.toNat < ni) = true := decide_eq_true hset.1
        rw [hi] at d23
        have hop : ((xOf c l).op == 2) = false := ne_beq hset.2
        clear hi hset hdr hwt
        have hpo1 := (HE.out.cell (p := ⟨b5, 5, none⟩) hplt).trans hpo
        go_upto_region 9 with (first
          | (go_at_call 42; (with_reducible refine (c_set b _ _ (HK.out _ _).dst _ hbge _ HW.out.at_).mono ?_); rintro e w2 ⟨rfl, hL⟩; have HW2 := Lib.hid (HW.out.left hL (by rw [Wk.setR_eq]; rfl)); rw [Wk.setR_eq] at HW2; have HB2 := Lib.hid hL.bel; clear hL)
          | (go_at_call 34; (with_reducible refine (c_on b _ 1 ai ni ci rfl HI.out.core.pc0 HI.out.core.pc1 (by decide) (by decide) hnx _ HW2.out.ge _ HW2.out.at_).mono ?_); rintro e w3 ⟨rfl, hL⟩; have HW3 := Lib.hid (HW2.out.left hL rfl); have HB3 := Lib.hid hL.bel; clear hL))
        have e10 := HW3.out.at_.wt
        have g10 := HW3.out.at_.unfrozen 10
        have HW4 := Lib.hid (wks_setWt HW3.out false)
        have HBX := Lib.hid ((HE.out.trans HB2.out).trans HB3.out)
        have HBY := Lib.hid (HBX.out.setCell (p := ⟨b, 10, none⟩) HW3.out.ge (.bool false))
        have HZ4 := Lib.hid (HZ.out.over HBY.out)
        go_wp2_with (first
          | (refine wpList_load_part 27 _ rfl rfl (by rfl) HW4.out.at_.load ?_)
          | (refine wpList_store_core rfl _ _ rfl rfl rfl rfl HZ4.out ?_; intro hR))
        refine ret_core rfl rfl hR rfl ?_
        rw [HXT.out, HBT.out]
        exact (lpost_end HB.out rfl HBY.out HW4.out rfl hge6 hz6).b
      · have HXT := Lib.hid (show bckC c l old = { c with wt := false, pc := mn3 ni (c.pc + 1), r := c.r } by rw [HX.out, hdr, hwt, if_neg hset]; rfl)
        clear hdr hwt
        by_cases hpc : c.pc.toNat < ni
        · have hi : decide (c.pc.toNat < ni) = true := decide_eq_true hpc
          rw [hi] at d23
          have hop2 : (xOf c l).op = 2 := Classical.byContradiction fun h => hset ⟨hpc, h⟩
          rw [hop2] at d13
          clear hi hset hpc hop2 hop0
          go_upto_region 9 with (first
            | (go_at_call 34; (with_reducible refine (c_on b _ 1 ai ni ci rfl HI.out.core.pc0 HI.out.core.pc1 (by decide) (by decide) hnx _ HW.out.ge _ HW.out.at_).mono ?_); rintro e w3 ⟨rfl, hL⟩; have HW3 := Lib.hid (HW.out.left hL rfl); have HB3 := Lib.hid hL.bel; clear hL))
          have e10 := HW3.out.at_.wt
          have g10 := HW3.out.at_.unfrozen 10
          have HW4 := Lib.hid (wks_setWt HW3.out false)
          have HBX := Lib.hid (HE.out.trans HB3.out)
          have HBY := Lib.hid (HBX.out.setCell (p := ⟨b, 10, none⟩) HW3.out.ge (.bool false))
          have HZ4 := Lib.hid (HZ.out.over HBY.out)
          go_wp2_with (first
            | (refine wpList_load_part 27 _ rfl rfl (by rfl) HW4.out.at_.load ?_)
            | (refine wpList_store_core rfl _ _ rfl rfl rfl rfl HZ4.out ?_; intro hR))
          refine ret_core rfl rfl hR rfl ?_
          rw [HXT.out, HBT.out]
          exact (lpost_end HB.out rfl HBY.out HW4.out rfl hge6 hz6).b
        · have hi : decide (c.pc.toNat < ni) = false := decide_eq_false hpc
          rw [hi] at d23
          clear hi hset hpc d13 hop0
          go_upto_region 9 with (first
            | (go_at_call 34; (with_reducible refine (c_on b _ 1 ai ni ci rfl HI.out.core.pc0 HI.out.core.pc1 (by decide) (by decide) hnx _ HW.out.ge _ HW.out.at_).mono ?_); rintro e w3 ⟨rfl, hL⟩; have HW3 := Lib.hid (HW.out.left hL rfl); have HB3 := Lib.hid hL.bel; clear hL))
          have e10 := HW3.out.at_.wt
          have g10 := HW3.out.at_.unfrozen 10
          have HW4 := Lib.hid (wks_setWt HW3.out false)
          have HBX := Lib.hid (HE.out.trans HB3.out)
          have HBY := Lib.hid (HBX.out.setCell (p := ⟨b, 10, none⟩) HW3.out.ge (.bool false))
          have HZ4 := Lib.hid (HZ.out.over HBY.out)
          go_wp2_with (first
            | (refine wpList_load_part 27 _ rfl rfl (by rfl) HW4.out.at_.load ?_)
            | (refine wpList_store_core rfl _ _ rfl rfl rfl rfl HZ4.out ?_; intro hR))
          refine ret_core rfl rfl hR rfl ?_
          rw [HXT.out, HBT.out]
          exact (lpost_end HB.out rfl HBY.out HW4.out rfl hge6 hz6).b
end Go.Proofs.Ytckcdpmfmfpmmaa
