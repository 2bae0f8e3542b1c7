/-
  core.of: the working state of a core.
-/
import Derived.Test.YtckcdpmfmfpmmaaClone
namespace Go.Proofs.Ytckcdpmfmfpmmaa
open Go.RowKit

theorem run_load_cells {P : Program} (w : World) (b o : Nat) (part : Array Value) (ty : TypeId) (d : TypeDesc)
    (hu : P.underlying ty = some d) (hd : (match d with | .struct _ | .array _ _ => true | _ => false) = true) (hi : (P.info? ty).map (·.size) = some part.size) (hp : ∀ j v, part[j]? = some v → w.cell? ⟨b, o + j, none⟩ = some v) :
    (loadVar ty ⟨b, o, none⟩).run P w = .ok (.agg part) w := by
  have hl : (loadCells ⟨b, o, none⟩ part.toList.length).run P w = .ok part.toList.toArray w :=
    run_loadCells_list (P := P) w ⟨b, o, none⟩ part.toList (fun j v hv => by
      rw [Addr.add_lit]
      exact hp j v (by simpa using hv))
  cases hq : P.info? ty with
  | none => simp [hq] at hi
  | some i =>
    have hs : i.size = part.size := by simpa [hq] using hi
    have hagg : (isAgg ty).run P w = .ok true w := by
      unfold isAgg
      rw [Sem.run_bind, run_underlying hu w]
      cases d <;> simp_all
    simp only [Array.length_toList, Array.toArray_toList] at hl
    simp [loadVar, Sem.run_bind, hagg, sizeOf, typeInfo, hq, hs, hl]
theorem wpList_store_part {P : Program} {ops : Array Oper} {rest : List Oper} {o : Oper} {a : Act} {w : World} {Q : Exit → Act → World → Prop} {b off : Nat} {part : Array Value} (ty : TypeId) (x y : Operand) (ho : o.op = .store ty x y) (hx : a.eval x = .pointer (some ⟨b, off, none⟩)) (hy : a.eval y = .agg part)
    (cs : Array Value) (t : TypeId) (hg : w.heap[b]? = some (.cells cs t (0, 0))) (hi : (P.info? ty).map (·.size) = some part.size) (hfit : off + part.size ≤ cs.size) (h1 : ∀ v ∈ part.toList, v.oneCell' = true) (new : Array Value) (hn : (cs.toList.take off ++ part.toList ++ cs.toList.drop (off + part.size)).toArray = new)
    (hgd : Region.wanted o (yielded ops a.tmps) = true) (h : wpList P ops Q rest (a.put o.dst undef) (w.setRow b new)) : wpList P ops Q (o :: rest) a w :=
  wpList_step fun K hK => by
    rw [if_pos hgd]
    have hst := run_storeCells_at P b off t part.toList 0 cs w hg (by simpa using hfit) h1
    simp only [Nat.add_zero, Array.length_toList, hn] at hst
    have hk := hK _ _ h
    have hrun : (storeVar ty ⟨b, off, none⟩ (.agg part)).run P w = .ok () (w.setRow b new) := by
      cases hq : P.info? ty with
      | none => simp [hq] at hi
      | some i =>
        have hs : part.size = i.size := by simp [hq] at hi; omega
        simp [storeVar, sizeOf, typeInfo, hq, Value.cells, hs, hst]
    unfold Oper.wp execOp
    simp only [ho, hx, hy, Instr.storeAt, Instr.sureAddr, Sem.run_bind, Sem.run_pure, Result.andThen_ok, hrun]
    exact hk

/-- A slice reads as a list of instructions. -/
def InAt (w : World) (N : Nat) (ad : Option Addr) (l : List In) : Prop :=
  ∀ (j : Nat) x, l[j]? = some x → ∃ c off, ad = some ⟨c, off, none⟩ ∧ c < N ∧ ∀ i v, x.cells[i]? = some v → w.cell? ⟨c, off + j * 10 + i, none⟩ = some v
theorem InAt.below {w w' : World} {N : Nat} {ad : Option Addr} {l : List In} (h : InAt w N ad l) (hb : Below N w w') : InAt w' N ad l :=
  fun j x hx => let ⟨c, off, e, hlt, h1⟩ := h j x hx; ⟨c, off, e, hlt, fun i v hv => (hb.cell (p := ⟨c, off + j * 10 + i, none⟩) hlt).trans (h1 i v hv)⟩
theorem InAt.mono {w : World} {N M : Nat} {ad : Option Addr} {l : List In} (h : InAt w N ad l) (hm : N ≤ M) : InAt w M ad l :=
  fun j x hx => let ⟨c, off, e, hlt, h1⟩ := h j x hx; ⟨c, off, e, Nat.lt_of_lt_of_le hlt hm, h1⟩
theorem In.one (x : In) : ∀ v ∈ x.cells.toList, v.oneCell' = true := by
  intro v hv
  unfold In.cells at hv
  simp only [List.mem_cons, List.not_mem_nil, or_false] at hv
  rcases hv with rfl | rfl | rfl | rfl | rfl | rfl | rfl | rfl | rfl | rfl <;> rfl
/-- The working state of a core. -/
def mkW (c : Cr) (v ins : Value) (l : List In) : Wk := ⟨{ c with buf := v }, ins, (l[c.pc.toNat]?).getD In.zero, decide (c.pc.toNat < l.length)⟩
theorem built71 (c : Cr) (a : Option Addr) (n cap : Nat) : Try.prog.built 71 [(0, .agg c.cells), (1, .slice a n cap)] = some (Wk.cells ⟨c, .slice a n cap, In.zero, false⟩) := by kernel_rfl
theorem wpList_buildW {ops : Array Oper} {rest : List Oper} {o : Oper} {a : Act} {w : World} {Q : Exit → Act → World → Prop} {c : Cr} {ad : Option Addr} {n cap : Nat} (hgd : o.guard = none) (x y : Operand) (ho : o.op = .build 71 #[(0, x), (1, y)]) (hx : a.eval x = .agg c.cells) (hy : a.eval y = .slice ad n cap)
    (h : wpList Try.prog ops Q rest (a.put o.dst (.agg (Wk.cells ⟨c, .slice ad n cap, In.zero, false⟩))) w) : wpList Try.prog ops Q (o :: rest) a w := by
  have hb : Try.prog.built 71 ((#[(0, x), (1, y)] : Array (Nat × Operand)).map fun (i, x) => (i, a.eval x)).toList = some (Wk.cells ⟨c, .slice ad n cap, In.zero, false⟩) := by
    simp only [List.map_toArray, List.map_cons, List.map_nil, hx, hy]
    exact built71 c ad n cap
  refine wpList_build hgd 71 #[(0, x), (1, y)] ho (by rw [hb]; rfl) ?_
  rw [hb]
  exact h

/-- A new working state, with a buffer of its own. -/
def OfPost (w : World) (c : Cr) (ins : Value) (l : List In) (m : Nat) (bl : List (Nat × Nat)) (e : Ending) (w' : World) : Prop :=
  ∃ b v, e = .returned (.pointer (some ⟨b, 0, none⟩)) ∧ WkAt w' b (mkW c v ins l) ∧ w.heap.size ≤ b ∧ w'.ownsRow w.heap.size 59 2 v m (vst bl) ∧ v.ownBlock ≠ some b ∧ Below w.heap.size w w'

set_option maxRecDepth 8000 in
set_option maxHeartbeats 2000000 in
theorem c_of (c : Cr) (h0 : 0 ≤ c.pc) (h1 : c.pc ≤ 255) (ai : Option Addr) (n cap : Nat) (l : List In) (hn : l.length = n) (hm : n ≤ maxLen) (ab : Option Addr) (m cab : Nat) (bl : List (Nat × Nat)) (hbuf : c.buf = .slice ab m cab) (hbn : bl.length = m) (hbm : m ≤ 1000) (hbc : ab = none → cab = 0) (w : World)
    (hi : InAt w w.heap.size ai l) (hb : StAt w w.heap.size ab bl) :
    Calls Try.prog 27 #[.slice ai n cap, .agg c.cells] w fun e w' => OfPost w c (.slice ai n cap) l m bl e w' := by
  have hC := CrAt.new w c
  have HB := Lib.hid ((Below.refl w.heap.size w).alloc (Nat.le_refl _) (.cells c.cells 27))
  have HC := Lib.hid hC
  have HI := Lib.hid hi
  have HBL := Lib.hid hb
  have HN := Lib.hid hn
  have HBN := Lib.hid hbn
  have hb0 := hC.at_ 9
  rw [show c.cells[9]? = some c.buf from rfl, hbuf] at hb0
  have hp0 := hC.at_ 0
  rw [show c.cells[0]? = some (.int .u8 c.pc) from rfl] at hp0
  unfold maxLen at hm
  clear hC hi hb hn hbn
  go_enter Try.func27, Try.ntmps27
  go_upto_region 1 with (fail)
  generalize w.alloc (.cells c.cells 27) = wb at *
  obtain ⟨b, hbe, hle⟩ : ∃ b, w.heap.size = b ∧ w.heap.size ≤ b := ⟨_, rfl, Nat.le_refl _⟩
  rw [hbe] at HC hb0 hp0 ⊢
  clear hbe
  go_upto_region 2 with (first
    | (refine wpList_load_part 27 _ rfl rfl (by rfl) HC.out.load ?_)
    | (refine wpList_buildW rfl _ _ rfl rfl rfl ?_))
  obtain ⟨d, hde⟩ : ∃ d, wb.heap.size = d := ⟨_, rfl⟩
  have hbd : b < d := by rw [← hde]; exact HC.out.lt
  have hW0 : WkAt (wb.alloc (.cells (Wk.cells ⟨c, .slice ai n cap, In.zero, false⟩) 71)) d ⟨c, .slice ai n cap, In.zero, false⟩ := by rw [← hde]; exact ⟨heap_alloc_new wb _⟩
  have hbx := (Below.refl wb.heap.size wb).alloc (Nat.le_refl _) (.cells (Wk.cells ⟨c, .slice ai n cap, In.zero, false⟩) 71)
  have HB1 := Lib.hid (Below.chain HB.out hbx)
  have HC1 := Lib.hid (HC.out.over hbx)
  have hb1 := (hbx.cell (p := ⟨b, 9, none⟩) HC.out.lt).trans hb0
  have hwd : w.heap.size ≤ d := by rw [← hde]; exact HB.out.size
  rw [hde]
  clear hb0 hp0 hde hbx
  have HW0 := Lib.hid hW0
  clear hW0
  generalize wb.alloc (.cells (Wk.cells ⟨c, .slice ai n cap, In.zero, false⟩) 71) = wc at *
  clear HB HC
  have HCl := Lib.hid (c_Clone ab m cab bl HBN.out hbm hbc wc ((HBL.out.below HB1.out).mono HB1.out.size))
  go_upto_region 3 with (first
    | (go_at_call 38; (with_reducible refine HCl.out.mono ?_); rintro e w1 ⟨v, rfl, hown, hbe⟩; obtain ⟨adv, capv, rfl, hst⟩ := StAt.of_owns hown; clear hst; have HO := Lib.hid hown; have HE := Lib.hid hbe; have hfr := (HW0.out.over hbe).unfrozen 9; have hbc9 := (HW0.out.over hbe).buf; clear hown hbe))
  have hdw : d < w1.heap.size := (HW0.out.over HE.out).lt
  have hW2 := (HW0.out.over HE.out).setBuf (.slice adv m capv)
  have hC2 := HC1.out.over HE.out
  have hC3 : CrAt (w1.setCell ⟨d, 9, none⟩ (.slice adv m capv)) b c := ⟨(Below.heap_setCell w1 ⟨d, 9, none⟩ _ b (by simp; omega)).trans hC2.heap⟩
  have hgne : ∀ g, (Value.slice adv m capv).ownBlock = some g → g ≠ d := fun g hg => by
    have h1 := (HO.out.lt g hg).1
    have h2 := HW0.out.lt
    omega
  have hO2 : (w1.setCell ⟨d, 9, none⟩ (.slice adv m capv)).ownsRow wc.heap.size 59 2 (.slice adv m capv) m (vst bl) := by
    obtain ⟨hl, h1 | ⟨g, cap, cur, hv, hg, hx, r⟩⟩ := HO.out
    · exact ⟨hl, .inl h1⟩
    · exact ⟨hl, .inr ⟨g, cap, cur, hv, hg, (Below.heap_setCell w1 ⟨d, 9, none⟩ _ g (hgne g (by rw [hv]; rfl))).trans hx, r⟩⟩
  have hB2 := (Below.chain HB1.out HE.out).setCell (p := ⟨d, 9, none⟩) hwd (.slice adv m capv)
  have HW2 := Lib.hid hW2
  have HC3 := Lib.hid hC3
  have HO2 := Lib.hid hO2
  have HB2 := Lib.hid hB2
  have HG := Lib.hid hgne
  have hsz2 : wc.heap.size ≤ (w1.setCell ⟨d, 9, none⟩ (.slice adv m capv)).heap.size := by simp [World.setCell]; exact HE.out.size
  have hpc := hC3.at_ 0
  rw [show c.cells[0]? = some (.int .u8 c.pc) from rfl] at hpc
  clear hW2 hC2 hC3 hO2 hB2 hgne hfr hbc9 hb1
  generalize w1.setCell ⟨d, 9, none⟩ (.slice adv m capv) = w2 at *
  obtain ⟨p, hp⟩ : ∃ p : Nat, c.pc = p := ⟨c.pc.toNat, (Int.toNat_of_nonneg h0).symm⟩
  have hps : c.pc.toNat = p := by omega
  rw [hp] at hpc h1
  have hwc := HB1.out.size
  by_cases hlt : p < n
  · have hpl : p < l.length := by rw [HN.out]; exact hlt
    obtain ⟨ci, offi, rfl, hcl, hcells⟩ := (HI.out.below HB2.out) p _ (List.getElem?_eq_getElem hpl)
    have HLd := Lib.hid (run_load_cells (P := Try.prog) w2 ci (offi + p * 10) l[p].cells 38 _ Try.underlying38 rfl (by kernel_rfl) hcells)
    have hpn : (p : Int) < (n : Int) := by omega
    have HK := Lib.hid (show mkW c (.slice adv m capv) (.slice (some ⟨ci, offi, none⟩) n cap) l = ⟨{ c with buf := .slice adv m capv }, .slice (some ⟨ci, offi, none⟩) n cap, l[p], true⟩ by
      unfold mkW
      rw [hps, List.getElem?_eq_getElem hpl, decide_eq_true hpl]; rfl)
    obtain ⟨x, hx⟩ : ∃ x, x = l[p] := ⟨_, rfl⟩
    rw [← hx] at HLd HK
    have hW3 := HW2.out.setX ⟨{ c with buf := .slice adv m capv }, .slice (some ⟨ci, offi, none⟩) n cap, x, false⟩
    have hO3 : (w2.setRow d (Wk.cells ⟨{ c with buf := .slice adv m capv }, .slice (some ⟨ci, offi, none⟩) n cap, x, false⟩)).ownsRow wc.heap.size 59 2 (.slice adv m capv) m (vst bl) := by
      obtain ⟨hl, h1 | ⟨g, cap, cur, hv, hg, hx, r⟩⟩ := HO2.out
      · exact ⟨hl, .inl h1⟩
      · exact ⟨hl, .inr ⟨g, cap, cur, hv, hg, (setRow_other w2 d g _ (HG.out g (by rw [hv]; rfl))).trans hx, r⟩⟩
    have hB3 := Below.setRow' (c := d) (cs := Wk.cells ⟨{ c with buf := .slice adv m capv }, .slice (some ⟨ci, offi, none⟩) n cap, x, false⟩) HB2.out hwd
    have h23 := hW3.isC
    have hf23 := hW3.unfrozen 23
    have HW3 := Lib.hid hW3
    have HO3 := Lib.hid hO3
    have HB3 := Lib.hid hB3
    clear hcells hx hp hps hW3 hO3 hB3
    obtain ⟨w3, hw3⟩ : ∃ w3, w2.setRow d (Wk.cells ⟨{ c with buf := .slice adv m capv }, .slice (some ⟨ci, offi, none⟩) n cap, x, false⟩) = w3 := ⟨_, rfl⟩
    rw [hw3] at h23 hf23 HW3 HO3 HB3
    have HWE := Lib.hid hw3
    clear hw3
    go_wp2_with (first
      | (refine wpList_load_part 38 _ rfl rfl (by rfl) HLd.out ?_)
      | (refine wpList_store_part 38 _ _ rfl rfl rfl _ 71 HW2.out.heap (by kernel_rfl) (by show 23 ≤ 24; decide) (In.one x) (Wk.cells ⟨{ c with buf := .slice adv m capv }, .slice (some ⟨ci, offi, none⟩) n cap, x, false⟩) rfl (by rfl) ?_; rw [HWE.out]))
    go_ret
    have hfin := HW3.out.set 23 (.bool true) ⟨{ c with buf := .slice adv m capv }, .slice (some ⟨ci, offi, none⟩) n cap, x, true⟩ rfl
    refine ⟨d, _, rfl, by rw [HK.out]; exact hfin, hwd, ?_, fun h => HG.out d h rfl, HB3.out.setCell hwd _⟩
    obtain ⟨hl, h1 | ⟨g, cap, cur, hv, hg, hx, r⟩⟩ := HO3.out
    · exact ⟨hl, .inl h1⟩
    · exact ⟨hl, .inr ⟨g, cap, cur, hv, by omega, (Below.heap_setCell w3 ⟨d, 23, none⟩ _ g (HG.out g (by rw [hv]; rfl))).trans hx, r⟩⟩
  · have hln : ¬ p < l.length := by rw [HN.out]; exact hlt
    have hpn : decide ((p : Int) < (n : Int)) = false := decide_eq_false (by omega)
    have HK := Lib.hid (show mkW c (.slice adv m capv) (.slice ai n cap) l = ⟨{ c with buf := .slice adv m capv }, .slice ai n cap, In.zero, false⟩ by
      unfold mkW
      rw [hps, List.getElem?_eq_none (by omega), decide_eq_false hln]; rfl)
    clear hp hps
    go_wp2
    go_ret
    refine ⟨d, _, rfl, by rw [HK.out]; exact HW2.out, hwd, ?_, fun h => HG.out d h rfl, HB2.out⟩
    obtain ⟨hl, h1 | ⟨g, cap, cur, hv, hg, hx, r⟩⟩ := HO2.out
    · exact ⟨hl, .inl h1⟩
    · exact ⟨hl, .inr ⟨g, cap, cur, hv, by omega, hx, r⟩⟩
end Go.Proofs.Ytckcdpmfmfpmmaa
