/-
  core.Drain, New.
-/
import Derived.Test.YtckcdpmfmfpmmaaAsk
namespace Go.Proofs.Ytckcdpmfmfpmmaa
open Go.RowKit

set_option maxRecDepth 8000 in
theorem c_New (w : World) : Calls Try.prog 21 #[] w fun e w' => e = .returned (.agg Cr.zero.cells) ∧ Below w.heap.size w w' := by
  have HB := Lib.hid ((Below.refl w.heap.size w).alloc (Nat.le_refl _) (.cells Cr.zero.cells 27))
  have HZ := Lib.hid (CrAt.new w Cr.zero)
  go_enter Try.func21, Try.ntmps21
  go_wp2_with (refine wpList_store_core (c := Cr.zero) rfl _ _ rfl rfl rfl rfl HZ.out ?_; intro hR)
  refine ret_core rfl rfl hR rfl ?_
  exact ⟨rfl, Below.setRow' HB.out (Nat.le_refl _)⟩

/-- The oldest store, if it may leave. -/
def drnIs (c : Cr) (bl : List (Nat × Nat)) : Bool := !(bl.isEmpty || c.wt || c.dr)
def drnQ (c : Cr) (bl : List (Nat × Nat)) : Rq := if drnIs c bl then ⟨2, (bl.headD (0, 0)).1, (bl.headD (0, 0)).2, 0⟩ else ⟨0, 0, 0, 0⟩
theorem ret_rq2 {fn : Func} {p q : Tmp} {R : Ending → World → Prop} {a : Act} {w : World} {b : Nat} {c : Rq} {v : Value} (hf : fn.results = #[.cell p 55, .tmp q]) (hp : a.tmps.getD p undef = .pointer (some ⟨b, 0, none⟩)) (hR : RqAt w b c)
    (hq : a.tmps.getD q undef = v) (hd : a.defers = []) (h : R (.returned (.tuple #[.agg c.cells, v])) w) : bodyPost Try.prog fn R .ret a w := by
  refine bodyPost_ret ?_ hd h
  have hp' : a.tmps[p]?.getD undef = .pointer (some ⟨b, 0, none⟩) := by simpa using hp
  have hq' : a.tmps[q]?.getD undef = v := by simpa using hq
  simp [results, hf, hp', hq', asAddr, hR.load]
set_option maxRecDepth 8000 in
set_option maxHeartbeats 2000000 in
theorem c_Drain (c : Cr) (bl : List (Nat × Nat)) (w : World) (h : CoreOk w c bl) :
    Calls Try.prog 24 #[.agg c.cells] w fun e w' => e = .returned (.tuple #[.agg (drnQ c bl).cells, .bool (drnIs c bl)]) ∧ Below w.heap.size w w' := by
  have hb1 := (Below.refl w.heap.size w).alloc (Nat.le_refl _) (.cells c.cells 27)
  have hb2 := hb1.alloc (by simp) (.cells #[.int .u8 0, .int .u8 0, .int .u8 0, .int .u8 0] 55)
  have HB := Lib.hid hb2
  have HC := Lib.hid ((CrAt.new w c).over ((Below.refl _ _).alloc (Nat.le_refl _) (.cells #[.int .u8 0, .int .u8 0, .int .u8 0, .int .u8 0] 55)))
  have HZ := Lib.hid (show RqAt ((w.alloc (.cells c.cells 27)).alloc (.cells #[.int .u8 0, .int .u8 0, .int .u8 0, .int .u8 0] 55)) (w.heap.size + 1) ⟨0, 0, 0, 0⟩ by
    have := RqAt.new (w.alloc (.cells c.cells 27)) ⟨0, 0, 0, 0⟩
    rwa [World.size_alloc] at this)
  have HI := Lib.hid (h.over hb2)
  obtain ⟨ad, cap, hbuf, hnil, hst⟩ := (h.over hb2).buf
  have HST := Lib.hid hst
  have hlen := h.len
  clear hb1 hb2 h hst hnil
  go_enter Try.func24, Try.ntmps24
  go_upto_region 1 with (fail)
  generalize (w.alloc (.cells c.cells 27)).alloc (.cells #[.int .u8 0, .int .u8 0, .int .u8 0, .int .u8 0] 55) = wb at *
  have hge4 : w.heap.size ≤ w.heap.size + 1 := Nat.le_succ _
  generalize w.heap.size + 1 = b2 at *
  have q9 := HC.out.at_ 9
  have q10 := HC.out.at_ 10
  have q11 := HC.out.at_ 11
  rw [show c.cells[9]? = some c.buf from rfl, hbuf] at q9
  rw [show c.cells[10]? = some (.bool c.wt) from rfl] at q10
  rw [show c.cells[11]? = some (.bool c.dr) from rfl] at q11
  have HD := Lib.hid (show drnIs c bl = !(bl.isEmpty || c.wt || c.dr) from rfl)
  have HQ := Lib.hid (show drnQ c bl = if drnIs c bl then ⟨2, (bl.headD (0, 0)).1, (bl.headD (0, 0)).2, 0⟩ else ⟨0, 0, 0, 0⟩ from rfl)
  obtain ⟨wt, hwt⟩ : ∃ x, c.wt = x := ⟨_, rfl⟩
  obtain ⟨dr, hdr⟩ : ∃ x, c.dr = x := ⟨_, rfl⟩
  rw [hwt] at q10
  rw [hdr] at q11
  rw [hwt, hdr] at HD
  clear hwt hdr hbuf
  cases bl with
  | nil =>
    have HDF := Lib.hid (show drnIs c [] = false by rw [HD.out]; rfl)
    clear q10 q11
    go_wp2_with (refine wpList_store_rq (c := ⟨0, 0, 0, 0⟩) rfl _ _ rfl rfl rfl HZ.out ?_; intro hR)
    refine ret_rq2 rfl rfl hR rfl rfl ?_
    exact ⟨by rw [HQ.out, HDF.out]; rfl, Below.setRow' HB.out hge4⟩
  | cons p bl =>
    obtain ⟨x, y⟩ := p
    obtain ⟨bb, off, rfl, hlt, s1, s2⟩ := HST.out 0 (x, y) rfl
    have hne : (((((x, y) :: bl).length : Nat) : Int) == 0) = false := ne_beq (by simp; omega)
    simp only [Nat.zero_mul, Nat.add_zero] at s1 s2
    have hpos : 0 < ((x, y) :: bl).length := by simp
    generalize ((x, y) :: bl).length = n at *
    cases wt with
    | true =>
      have HDF := Lib.hid (show drnIs c ((x, y) :: bl) = false by rw [HD.out]; simp)
      clear q11
      go_wp2_with (refine wpList_store_rq (c := ⟨0, 0, 0, 0⟩) rfl _ _ rfl rfl rfl HZ.out ?_; intro hR)
      refine ret_rq2 rfl rfl hR rfl rfl ?_
      exact ⟨by rw [HQ.out, HDF.out]; rfl, Below.setRow' HB.out hge4⟩
    | false =>
      cases dr with
      | true =>
        have HDF := Lib.hid (show drnIs c ((x, y) :: bl) = false by rw [HD.out]; simp)
        go_wp2_with (refine wpList_store_rq (c := ⟨0, 0, 0, 0⟩) rfl _ _ rfl rfl rfl HZ.out ?_; intro hR)
        refine ret_rq2 rfl rfl hR rfl rfl ?_
        exact ⟨by rw [HQ.out, HDF.out]; rfl, Below.setRow' HB.out hge4⟩
      | false =>
        have HDF := Lib.hid (show drnIs c ((x, y) :: bl) = true by rw [HD.out]; rfl)
        have hz0 := HZ.out.at_ 0
        have hz1 := HZ.out.at_ 1
        have hz2 := HZ.out.at_ 2
        have hz3 := HZ.out.at_ 3
        simp only [Rq.cells, List.getElem?_toArray, List.getElem?_cons_zero, List.getElem?_cons_succ] at hz0 hz1 hz2 hz3
        have hf0 := HZ.out.unfrozen 0
        have hf1 := HZ.out.unfrozen 1
        have hf2 := HZ.out.unfrozen 2
        have hf3 := HZ.out.unfrozen 3
        go_wp2
        apply wp_share
        · intro hR
          go_region
          all_goals exact hR.out
        have hR := ((((HZ.out.set0 2).set1 x).set2 y).set3 0).drew
        go_wp2
        refine ret_rq2 rfl rfl hR rfl rfl ?_
        exact ⟨by rw [HQ.out, HDF.out]; rfl, below_drewN' ((((HB.out.setCell hge4 _).setCell hge4 _).setCell hge4 _).setCell hge4 _) 1⟩
end Go.Proofs.Ytckcdpmfmfpmmaa
