/-
  core.Back: what it answers, and that the buffer is new.
-/
import Derived.Test.YtckcdpmfmfpmmaaDone
namespace Go.Proofs.Ytckcdpmfmfpmmaa
open Go.RowKit

/-- A slice whose row lies at or above a block. -/
def NewV (N : Nat) (v : Value) : Prop := ∀ ad n cap, v = .slice (some ad) n cap → N ≤ ad.block
theorem new_of_own {w : World} {base e sz n m N : Nat} {ab : Option Addr} {cap : Nat} {v : Value} {xs : List Value} (h : w.ownsRow base e sz v n xs) (hv : v = .slice ab m cap) (hN : N ≤ base) : NewV N (.slice ab m cap) := by
  intro ad n' cap' e'
  obtain ⟨_, ⟨e1, _⟩ | ⟨g, cap2, cur, e1, hb, _⟩⟩ := h
  · rw [e1] at hv; rw [← hv] at e'; simp at e'
  · rw [e1] at hv; rw [← hv] at e'
    simp only [Value.slice.injEq, Option.some.injEq] at e'
    rw [← e'.1]; exact Nat.le_trans hN hb
/-- A slice whose row is one of stores. -/
def Row59 (w : World) (v : Value) : Prop := ∀ ad n cap, v = .slice (some ad) n cap → ∃ cs, w.heap[ad.block]? = some (.cells cs 59 (0, 0))
theorem Row59.over {w w' : World} {v : Value} (h : Row59 w v) (hb : Below w.heap.size w w') : Row59 w' v := fun ad n cap e =>
  let ⟨cs, hc⟩ := h ad n cap e; ⟨cs, (hb.block _ (Array.getElem?_eq_some_iff.1 hc).1).trans hc⟩
theorem Row59.same {w w' : World} {v : Value} (h : Row59 w v) (hs : ∀ ad n cap, v = .slice (some ad) n cap → w'.heap[ad.block]? = w.heap[ad.block]?) : Row59 w' v := fun ad n cap e =>
  let ⟨cs, hc⟩ := h ad n cap e; ⟨cs, (hs ad n cap e).trans hc⟩
theorem Row59.ne {w : World} {v : Value} {b : Nat} {cs : Array Value} {T : TypeId} (h : Row59 w v) (hb : w.heap[b]? = some (.cells cs T (0, 0))) (hT : T ≠ 59) : ∀ ad n cap, v = .slice (some ad) n cap → ad.block ≠ b := fun ad n cap e eb => by
  obtain ⟨cs', hc⟩ := h ad n cap e
  rw [eb, hb] at hc
  simp only [Option.some.injEq, Obj.cells.injEq] at hc
  exact hT hc.2.1
theorem row59_own {w w' : World} {base n m : Nat} {ab : Option Addr} {cap : Nat} {v : Value} {xs : List Value} (h : w.ownsRow base 59 2 v n xs) (hv : v = .slice ab m cap) (hk : ∀ g, v.ownBlock = some g → w'.heap[g]? = w.heap[g]?) : Row59 w' (.slice ab m cap) := by
  intro ad n' cap' e'
  obtain ⟨_, ⟨e1, _⟩ | ⟨g, cap2, cur, e1, _, hh, _⟩⟩ := h
  · rw [e1] at hv; rw [← hv] at e'; simp at e'
  · have hg := hk g (by rw [e1]; rfl)
    rw [e1] at hv; rw [← hv] at e'
    simp only [Value.slice.injEq, Option.some.injEq] at e'
    rw [← e'.1]; exact ⟨cur, hg.trans hh⟩
def BPostN (w : World) (c : Cr) (bl : List (Nat × Nat)) (e : Ending) (w' : World) : Prop :=
  ∃ v, e = .returned (.agg { c with buf := v }.cells) ∧ BufOk w' v bl ∧ Below w.heap.size w w' ∧ NewV w.heap.size v ∧ Row59 w' v
theorem LPost.bn {w w' : World} {c : Cr} {bl : List (Nat × Nat)} {e : Ending} (h : LPost w c bl e w') : BPostN w c bl e w' := by
  obtain ⟨v, h1, h2, h3⟩ := h
  obtain ⟨ad, cap, hv, hs⟩ := StAt.of_owns h2
  refine ⟨v, h1, BufOk.of_owns h2, h3, ?_, ?_⟩
  · rw [hv]; exact new_of_own h2 hv (Nat.le_refl _)
  · rw [hv]; exact row59_own h2 hv fun _ _ => rfl
set_option maxRecDepth 8000 in
set_option maxHeartbeats 4000000 in
theorem c_BackN {c : Cr} {bl : List (Nat × Nat)} {v : Value} {l : List In} {w : World} (k0 k1 k2 k3 k4 old new : Int) (h : CIn w c bl v l) :
    Calls Try.prog 35 #[v, .agg c.cells, .agg (prf k0 k1 k2 k3 k4 old new)] w fun e w' => BPostN w (bckC c l old) (bckBl c bl) e w' := by
  obtain ⟨hC, hP, hZ, hB⟩ := boxB w c (prf k0 k1 k2 k3 k4 old new)
  have HB := Lib.hid hB
  have HC := Lib.hid hC
  have HZ := Lib.hid hZ
  have hpo := cell_of_row _ _ 5 _ _ _ hP
  rw [show (prf k0 k1 k2 k3 k4 old new)[5]? = some (.int .u8 old) from rfl] at hpo
  have hplt := (Array.getElem?_eq_some_iff.1 hP).1
  have HI := Lib.hid (h.over hB)
  have HK := Lib.hid (show ∀ vb ins, KOk (mkW c vb ins l) from fun vb ins => mkW_ok h.x h.r h.core)
  obtain ⟨ai, ci, rfl, -⟩ := h.ins.sl
  have hlen := h.core.len
  have hnx := h.ins.len
  obtain ⟨ni, hni⟩ : ∃ ni, l.length = ni := ⟨_, rfl⟩
  have HX := Lib.hid (show bckC c l old = if c.dr then { c with dr := false } else if c.wt then { c with wt := false, pc := mn3 ni (c.pc + 1), r := if c.pc.toNat < ni ∧ (xOf c l).op ≠ 2 then rsetC c (xOf c l) old else c.r } else c by rw [← hni]; rfl)
  rw [hni] at HI hnx ⊢
  have HIs := Lib.hid (show ∀ vb ins, (mkW c vb ins l).is = decide (c.pc.toNat < ni) from fun vb ins => by rw [← hni]; rfl)
  rw [show Cr.zero.cells = #[.int .u8 0, .int .u8 0, .int .u8 0, .int .u8 0, .int .u8 0, .int .u8 0, .int .u8 0, .int .u8 0, .int .u8 0, .slice none 0 0, .bool false, .bool false] from rfl] at *
  clear h hC hP hZ hB hni
  go_enter Try.func35, Try.ntmps35
  go_upto_region 1 with (fail)
  generalize ((w.alloc (.cells c.cells 27)).alloc (.cells (prf k0 k1 k2 k3 k4 old new) 74)).alloc (.cells #[.int .u8 0, .int .u8 0, .int .u8 0, .int .u8 0, .int .u8 0, .int .u8 0, .int .u8 0, .int .u8 0, .int .u8 0, .slice none 0 0, .bool false, .bool false] 27) = wb at *
  have hge6 : w.heap.size ≤ w.heap.size + 1 + 1 := by omega
  generalize w.heap.size + 1 + 1 = b6 at *
  generalize w.heap.size + 1 = b5 at *
  go_upto_region 2 with (first
    | (refine wpList_load_part 27 _ rfl rfl (by rfl) HC.out.load ?_)
    | (go_at_call 27; (with_reducible refine (co_ofS _ HI.out.core HI.out.ins).mono ?_); rintro e w1 ⟨b, vb, rfl, hW, hbe⟩; have HW := Lib.hid hW; have HE := Lib.hid hbe; clear hW hbe))
  have q10 := HW.out.at_.wt
  have q11 := HW.out.at_.dr
  have q9 := HW.out.at_.buf
  have f9 := HW.out.at_.unfrozen 9
  have f10 := HW.out.at_.unfrozen 10
  have f11 := HW.out.at_.unfrozen 11
  have hblt := HW.out.at_.lt
  obtain ⟨ab, cb, hv, hnb, hst⟩ := BufOk.of_owns HW.out.own
  have hv : vb = .slice ab bl.length cb := hv
  subst hv
  rw [show (mkW c (.slice ab bl.length cb) (.slice ai ni ci) l).c.buf = .slice ab bl.length cb from rfl] at q9
  rw [show (mkW c (.slice ab bl.length cb) (.slice ai ni ci) l).c.wt = c.wt from rfl] at q10
  rw [show (mkW c (.slice ab bl.length cb) (.slice ai ni ci) l).c.dr = c.dr from rfl] at q11
  have HST := Lib.hid hst
  have hbge := HW.out.ge
  have HZ1 := Lib.hid (HZ.out.over HE.out)
  have hz6 := HZ.out.lt
  have hne6 : b6 ≠ b := by omega
  cases hdr : c.dr with
  | true =>
    rw [hdr] at q11
    have HXT := Lib.hid (show bckC c l old = { c with dr := false } by rw [HX.out, if_pos hdr])
    have HBT := Lib.hid (show bckBl c bl = bl.drop 1 by unfold bckBl; rw [if_pos hdr])
    have hdr2 := hdr
    clear hdr q10 hpo hnb
    cases bl with
    | nil =>
      simp only [List.length_nil] at q9
      go_wp2
      apply wp_share
      · intro hR
        go_region
        all_goals exact hR.out
      have HW2 := Lib.hid (((HW.out.at_.setBuf (.slice ab 0 cb)).drewN 1))
      have d11 := HW2.out.dr
      have g11 := HW2.out.unfrozen 11
      rw [show ({ mkW c (.slice ab ([] : List (Nat × Nat)).length cb) (.slice ai ni ci) l with c := { (mkW c (.slice ab ([] : List (Nat × Nat)).length cb) (.slice ai ni ci) l).c with buf := .slice ab 0 cb } } : Wk).c.dr = true from hdr2] at d11
      have HZ2 := Lib.hid (back_z HZ1.out hne6 (u := .slice ab 0 cb) (u2 := .bool false))
      go_wp2_with (first
        | (refine wpList_load_part 27 _ rfl rfl (by rfl) (HW2.out.setDr false).load ?_)
        | (refine wpList_store_core rfl _ _ rfl rfl rfl rfl HZ2.out ?_; intro hR))
      refine ret_core rfl rfl hR rfl ?_
      refine ⟨.slice ab 0 cb, by rw [HXT.out]; rfl, ?_, ?_, new_of_own HW.out.own rfl HB.out.size, row59_own HW.out.own rfl (back_keep HW.out hz6)⟩
      · rw [HBT.out]
        exact drop_nil HW.out rfl (back_keep HW.out hz6)
      · exact back_below HB.out HE.out HW.out hge6
    | cons p bl =>
      obtain ⟨hl, ⟨h1, _⟩ | ⟨g, cap, cur, h1, h2, h3, h4, h5⟩⟩ := HW.out.own
      · have h1 : (Value.slice ab (p :: bl).length cb) = .slice none 0 0 := h1
        simp at h1
      have h1 : (Value.slice ab (p :: bl).length cb) = .slice (some ⟨g, 0, none⟩) (p :: bl).length cap := h1
      simp only [Value.slice.injEq, true_and] at h1
      obtain ⟨rfl, rfl⟩ := h1
      clear h3 h5
      have hpos : 1 ≤ (p :: bl).length := by simp
      have HLN := Lib.hid (show (p :: bl).length - 1 = bl.length by simp)
      obtain ⟨n, hn⟩ : ∃ n, (p :: bl).length = n := ⟨_, rfl⟩
      rw [hn] at q9 h4 hpos hlen HLN
      clear hl
      go_wp2
      apply wp_share
      · intro hR
        go_region
        all_goals exact hR.out
      obtain ⟨na, hna⟩ : ∃ na : Option Addr, (if cb = 1 then some ⟨g, 0, none⟩ else some ⟨g, 2, none⟩) = na := ⟨_, rfl⟩
      have HNA := Lib.hid hna
      rw [hna]
      clear hna
      have HW2 := Lib.hid (((HW.out.at_.setBuf (.slice na (n - 1) (cb - 1))).drewN 1))
      have d11 := HW2.out.dr
      have g11 := HW2.out.unfrozen 11
      rw [show ∀ a b c d, ({ mkW c a b d with c := { (mkW c a b d).c with buf := .slice na (n - 1) (cb - 1) } } : Wk).c.dr = c.dr from fun _ _ _ _ => rfl, hdr2] at d11
      have HZ2 := Lib.hid (back_z HZ1.out hne6 (u := .slice na (n - 1) (cb - 1)) (u2 := .bool false))
      go_wp2_with (first
        | (refine wpList_load_part 27 _ rfl rfl (by rfl) (HW2.out.setDr false).load ?_)
        | (refine wpList_store_core rfl _ _ rfl rfl rfl rfl HZ2.out ?_; intro hR))
      refine ret_core rfl rfl hR rfl ?_
      refine ⟨.slice na (n - 1) (cb - 1), by rw [HXT.out]; rfl, ?_, ?_, fun ad n' cap' e => (by
        have hg := (owned_block HW.out.own (show (Value.slice (some ⟨g, 0, none⟩) _ cb).ownBlock = some g from rfl)).1
        simp only [Value.slice.injEq] at e
        have e1 := HNA.out.trans e.1
        have := HB.out.size
        split at e1 <;> (simp only [Option.some.injEq] at e1; subst e1; exact Nat.le_trans this hg)), fun ad n' cap' e => (by
        obtain ⟨_, ⟨e9, _⟩ | ⟨g9, cap9, cur9, e9, _, hh9, _⟩⟩ := HW.out.own
        · exact absurd (show (Value.slice (some ⟨g, 0, none⟩) _ cb) = .slice none 0 0 from e9) (by simp)
        · have e9 : (Value.slice (some ⟨g, 0, none⟩) _ cb) = .slice (some ⟨g9, 0, none⟩) _ cap9 := e9
          simp only [Value.slice.injEq, Option.some.injEq, Addr.mk.injEq, and_true] at e9
          obtain ⟨rfl, _⟩ := e9
          have hk9 := back_keep (u := .slice na (n - 1) (cb - 1)) (u2 := .bool false) (cs := ({ (mkW c (.slice (some ⟨g, 0, none⟩) n cb) (.slice ai ni ci) l).c with buf := .slice na (n - 1) (cb - 1), dr := false } : Cr).cells) HW.out hz6 g rfl
          simp only [Value.slice.injEq] at e
          have e1 := HNA.out.trans e.1
          split at e1 <;> (simp only [Option.some.injEq] at e1; subst e1; exact ⟨cur9, hk9.trans hh9⟩))⟩
      · rw [HBT.out, ← HNA.out]
        exact drop_cons HW.out (by rw [hn]; rfl) hn h4 (back_keep HW.out hz6) (by simp [World.setRow, World.setCell])
      · exact back_below HB.out HE.out HW.out hge6
  | false =>
    rw [hdr] at q11
    have HBT := Lib.hid (show bckBl c bl = bl by unfold bckBl; rw [hdr]; rfl)
    have d23 := HW.out.at_.isC
    rw [HIs.out] at d23
    have d13 := HW.out.at_.op
    rw [show ∀ a b, (mkW c a b l).x = xOf c l from fun _ _ => rfl] at d13
    have hop0 := (xOf_ok (c := c) HI.out.x).op
    cases hwt : c.wt with
    | false =>
      have HXT := Lib.hid (show bckC c l old = c by rw [HX.out, hdr, hwt]; rfl)
      rw [hwt] at q10
      clear hdr hwt d23 d13
      go_wp2_with (first
        | (refine wpList_load_part 27 _ rfl rfl (by rfl) HW.out.at_.load ?_)
        | (refine wpList_store_core rfl _ _ rfl rfl rfl rfl HZ1.out ?_; intro hR))
      refine ret_core rfl rfl hR rfl ?_
      rw [HXT.out, HBT.out]
      exact (lpost_end HB.out rfl HE.out HW.out rfl hge6 hz6).bn
    | true =>
      rw [hwt] at q10
      by_cases hset : c.pc.toNat < ni ∧ (xOf c l).op ≠ 2
      · have HXT := Lib.hid (show bckC c l old = { c with wt := false, pc := mn3 ni (c.pc + 1), r := rsetC c (xOf c l) old } by rw [HX.out, hdr, hwt, if_pos hset]; rfl)
        have hi : decide (c.pc.toNat < ni) = true := decide_eq_true hset.1
        rw [hi] at d23
        have hop : ((xOf c l).op == 2) = false := ne_beq hset.2
        clear hi hset hdr hwt
        have hpo1 := (HE.out.cell (p := ⟨b5, 5, none⟩) hplt).trans hpo
        go_upto_region 9 with (first
          | (go_at_call 42; (with_reducible refine (c_set b _ _ (HK.out _ _).dst _ hbge _ HW.out.at_).mono ?_); rintro e w2 ⟨rfl, hL⟩; have HW2 := Lib.hid (HW.out.left hL (by rw [Wk.setR_eq]; rfl)); rw [Wk.setR_eq] at HW2; have HB2 := Lib.hid hL.bel; clear hL)
          | (go_at_call 34; (with_reducible refine (c_on b _ 1 ai ni ci rfl HI.out.core.pc0 HI.out.core.pc1 (by decide) (by decide) hnx _ HW2.out.ge _ HW2.out.at_).mono ?_); rintro e w3 ⟨rfl, hL⟩; have HW3 := Lib.hid (HW2.out.left hL rfl); have HB3 := Lib.hid hL.bel; clear hL))
        have e10 := HW3.out.at_.wt
        have g10 := HW3.out.at_.unfrozen 10
        have HW4 := Lib.hid (wks_setWt HW3.out false)
        have HBX := Lib.hid ((HE.out.trans HB2.out).trans HB3.out)
        have HBY := Lib.hid (HBX.out.setCell (p := ⟨b, 10, none⟩) HW3.out.ge (.bool false))
        have HZ4 := Lib.hid (HZ.out.over HBY.out)
        go_wp2_with (first
          | (refine wpList_load_part 27 _ rfl rfl (by rfl) HW4.out.at_.load ?_)
          | (refine wpList_store_core rfl _ _ rfl rfl rfl rfl HZ4.out ?_; intro hR))
        refine ret_core rfl rfl hR rfl ?_
        rw [HXT.out, HBT.out]
        exact (lpost_end HB.out rfl HBY.out HW4.out rfl hge6 hz6).bn
      · have HXT := Lib.hid (show bckC c l old = { c with wt := false, pc := mn3 ni (c.pc + 1), r := c.r } by rw [HX.out, hdr, hwt, if_neg hset]; rfl)
        clear hdr hwt
        by_cases hpc : c.pc.toNat < ni
        · have hi : decide (c.pc.toNat < ni) = true := decide_eq_true hpc
          rw [hi] at d23
          have hop2 : (xOf c l).op = 2 := Classical.byContradiction fun h => hset ⟨hpc, h⟩
          rw [hop2] at d13
          clear hi hset hpc hop2 hop0
          go_upto_region 9 with (first
            | (go_at_call 34; (with_reducible refine (c_on b _ 1 ai ni ci rfl HI.out.core.pc0 HI.out.core.pc1 (by decide) (by decide) hnx _ HW.out.ge _ HW.out.at_).mono ?_); rintro e w3 ⟨rfl, hL⟩; have HW3 := Lib.hid (HW.out.left hL rfl); have HB3 := Lib.hid hL.bel; clear hL))
          have e10 := HW3.out.at_.wt
          have g10 := HW3.out.at_.unfrozen 10
          have HW4 := Lib.hid (wks_setWt HW3.out false)
          have HBX := Lib.hid (HE.out.trans HB3.out)
          have HBY := Lib.hid (HBX.out.setCell (p := ⟨b, 10, none⟩) HW3.out.ge (.bool false))
          have HZ4 := Lib.hid (HZ.out.over HBY.out)
          go_wp2_with (first
            | (refine wpList_load_part 27 _ rfl rfl (by rfl) HW4.out.at_.load ?_)
            | (refine wpList_store_core rfl _ _ rfl rfl rfl rfl HZ4.out ?_; intro hR))
          refine ret_core rfl rfl hR rfl ?_
          rw [HXT.out, HBT.out]
          exact (lpost_end HB.out rfl HBY.out HW4.out rfl hge6 hz6).bn
        · have hi : decide (c.pc.toNat < ni) = false := decide_eq_false hpc
          rw [hi] at d23
          clear hi hset hpc d13 hop0
          go_upto_region 9 with (first
            | (go_at_call 34; (with_reducible refine (c_on b _ 1 ai ni ci rfl HI.out.core.pc0 HI.out.core.pc1 (by decide) (by decide) hnx _ HW.out.ge _ HW.out.at_).mono ?_); rintro e w3 ⟨rfl, hL⟩; have HW3 := Lib.hid (HW.out.left hL rfl); have HB3 := Lib.hid hL.bel; clear hL))
          have e10 := HW3.out.at_.wt
          have g10 := HW3.out.at_.unfrozen 10
          have HW4 := Lib.hid (wks_setWt HW3.out false)
          have HBX := Lib.hid (HE.out.trans HB3.out)
          have HBY := Lib.hid (HBX.out.setCell (p := ⟨b, 10, none⟩) HW3.out.ge (.bool false))
          have HZ4 := Lib.hid (HZ.out.over HBY.out)
          go_wp2_with (first
            | (refine wpList_load_part 27 _ rfl rfl (by rfl) HW4.out.at_.load ?_)
            | (refine wpList_store_core rfl _ _ rfl rfl rfl rfl HZ4.out ?_; intro hR))
          refine ret_core rfl rfl hR rfl ?_
          rw [HXT.out, HBT.out]
          exact (lpost_end HB.out rfl HBY.out HW4.out rfl hge6 hz6).bn
end Go.Proofs.Ytckcdpmfmfpmmaa
