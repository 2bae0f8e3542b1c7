/-
  seisinlaw30.tame: instructions with operations that are defined, and few locations.
-/
import Derived.Test.YtckcdpmfmfpmmaaPick
import Derived.Great.BuildSlice
namespace Go.Proofs.Ytckcdpmfmfpmmaa
open Go.RowKit

def tm (x : In) : In := { x with op := 1 + x.op % 8, loc := x.loc % 4 }
def vin (l : List In) : List Value := l.flatMap fun x => x.cells.toList
theorem vin_len (l : List In) : (vin l).length = l.length * 10 := by
  induction l with
  | nil => rfl
  | cons x l ih => rw [show vin (x :: l) = x.cells.toList ++ vin l from rfl, List.length_append, ih, List.length_cons, show x.cells.toList.length = 10 from rfl]; omega
theorem vin_get {l : List In} {j i : Nat} {x : In} {v : Value} (h : l[j]? = some x) (hv : x.cells[i]? = some v) : (vin l)[j * 10 + i]? = some v := by
  have hi : i < 10 := (Array.getElem?_eq_some_iff.1 hv).1
  induction l generalizing j with
  | nil => simp at h
  | cons y l ih =>
    rw [show vin (y :: l) = y.cells.toList ++ vin l from rfl]
    have hy : y.cells.toList.length = 10 := rfl
    cases j with
    | zero =>
      simp only [List.getElem?_cons_zero, Option.some.injEq] at h
      subst h
      rw [List.getElem?_append_left (by rw [hy]; omega), Nat.zero_mul, Nat.zero_add]
      simpa using hv
    | succ j =>
      rw [List.getElem?_append_right (by rw [hy]; omega), hy, show (j + 1) * 10 + i - 10 = j * 10 + i by omega]
      exact ih (by simpa using h)
theorem vin_snoc (l : List In) (x : In) : vin l ++ x.cells.toList = vin (l ++ [x]) := by
  unfold vin; rw [List.flatMap_append]; simp
/-- What a row of one's own reads as. -/
theorem InAt.of_owns {w : World} {base n : Nat} {v : Value} {l : List In} (h : w.ownsRow base 38 10 v n (vin l)) : ∃ ad cap, v = .slice ad n cap ∧ InAt w w.heap.size ad l := by
  obtain ⟨hl, ⟨rfl, rfl⟩ | ⟨g, cap, cur, rfl, hb, hg, hn, hcm, hcs, ht⟩⟩ := h
  · refine ⟨none, 0, rfl, fun j x hx => ?_⟩
    rw [vin_len] at hl
    rw [List.eq_nil_of_length_eq_zero (l := l) (by omega)] at hx
    simp at hx
  · refine ⟨_, cap, rfl, fun j x hx => ⟨g, 0, rfl, (Array.getElem?_eq_some_iff.1 hg).1, fun i v hv => ?_⟩⟩
    have h1 := vin_get hx hv
    rw [← ht, List.getElem?_take] at h1
    split at h1
    · rw [Nat.zero_add, cell_of_row w g _ cur 38 (0, 0) hg]; simpa using h1
    · cases h1
theorem info38 : (Try.prog.info? 38).map (fun i => (i.zero, i.size, i.bytes)) = some (some (.agg In.zero.cells), 10, 10) := by kernel_rfl
theorem info38x : ∃ i, Try.prog.info? 38 = some i ∧ i.zero = some (.agg In.zero.cells) ∧ i.size = 10 ∧ i.bytes = 10 := by
  have h := info38
  cases hq : Try.prog.info? 38 with
  | none => rw [hq] at h; cases h
  | some i =>
    rw [hq] at h
    simp only [Option.map_some, Option.some.injEq, Prod.mk.injEq] at h
    exact ⟨i, rfl, h.1, h.2.1, h.2.2⟩
/-- An instruction in a block. -/
structure InB (w : World) (b : Nat) (x : In) : Prop where
  heap : w.heap[b]? = some (.cells x.cells 38 (0, 0))
namespace InB
variable {w w' : World} {b : Nat} {x : In}
theorem lt (h : InB w b x) : b < w.heap.size := (Array.getElem?_eq_some_iff.1 h.heap).1
theorem over (h : InB w b x) (hb : Below w.heap.size w w') : InB w' b x := ⟨(hb.block b h.lt).trans h.heap⟩
theorem at_ (h : InB w b x) (i : Nat) : w.cell? ⟨b, i, none⟩ = x.cells[i]? := cell_of_row w b i _ _ _ h.heap
theorem new (w : World) (x : In) : InB (w.alloc (.cells x.cells 38)) w.heap.size x := ⟨heap_alloc_new w _⟩
theorem unfrozen (h : InB w b x) (j : Nat) : w.frozen? ⟨b, j, none⟩ = false := by simp [World.frozen?, h.heap]
theorem setOp (h : InB w b x) (v : Int) : InB (w.setCell ⟨b, 0, none⟩ (.int .u8 v)) b { x with op := v } := by
  constructor
  rw [setCell_eq_setRow w b _ _ _ _ _ h.heap]
  exact setRow_heap w b _ _ _ _ h.heap
theorem setLoc (h : InB w b x) (v : Int) : InB (w.setCell ⟨b, 2, none⟩ (.int .u8 v)) b { x with loc := v } := by
  constructor
  rw [setCell_eq_setRow w b _ _ _ _ _ h.heap]
  exact setRow_heap w b _ _ _ _ h.heap
theorem tame (h : InB w b x) : InB ((w.setCell ⟨b, 0, none⟩ (.int .u8 (1 + x.op % 8))).setCell ⟨b, 2, none⟩ (.int .u8 (x.loc % 4))) b (tm x) := (h.setOp _).setLoc _
theorem size38 : (Try.prog.info? 38).map (·.size) = some 10 := by kernel_rfl
theorem load (h : InB w b x) : (loadVar 38 ⟨b, 0, none⟩).run Try.prog w = .ok (.agg x.cells) w :=
  run_load_part w b 0 _ x.cells 38 38 (0, 0) _ h.heap Try.underlying38 rfl size38 (fun j v hv => by rw [Nat.zero_add]; exact hv)
end InB
theorem wpList_store_in {ops : Array Oper} {rest : List Oper} {o : Oper} {a : Act} {w : World} {Q : Exit → Act → World → Prop} {b : Nat} {c d : In} (hgd : o.guard = none) (x y : Operand) (ho : o.op = .store 38 x y)
    (hx : a.eval x = .pointer (some ⟨b, 0, none⟩)) (hy : a.eval y = .agg c.cells) (hR : InB w b d)
    (h : InB (w.setRow b c.cells) b c → wpList Try.prog ops Q rest (a.put o.dst undef) (w.setRow b c.cells)) : wpList Try.prog ops Q (o :: rest) a w :=
  wpList_store_row hgd 38 x y ho b c.cells hx hy 38 d.cells hR.heap InB.size38 rfl (by unfold In.cells; simp [Value.oneCell']) (h ⟨setRow_heap w b _ _ _ _ hR.heap⟩)
theorem in_one (x : In) : x.cells.all (·.oneCell') = true := by unfold In.cells; simp [Value.oneCell']
theorem zero38 : (Try.prog.info? 38).bind (·.zero) = some (.agg In.zero.cells) := by kernel_rfl

theorem fill38 (x : In) : Instr.fill (fun i => some (i * 10, 10)) ((Array.range (1 * 10)).map ((Value.agg In.zero.cells).cells[· % (Value.agg In.zero.cells).cells.size]!)) [(0, .agg x.cells)] = some x.cells := by kernel_rfl
theorem wpList_slice1 {ops : Array Oper} {rest : List Oper} {o : Oper} {a : Act} {w : World} {Q : Exit → Act → World → Prop} {x : In} (hg : o.guard = none) (y : Operand) (ho : o.op = .buildSlice 33 1 #[(0, y)]) (hy : a.eval y = .agg x.cells)
    (h : wpList Try.prog ops Q rest (a.put o.dst (.slice (some ⟨w.heap.size, 0, none⟩) 1 1)) (w.alloc (.cells x.cells 38))) : wpList Try.prog ops Q (o :: rest) a w := by
  obtain ⟨i0, hi, hz, hs, _⟩ := info38x
  refine wpList_buildSlice hg 33 38 1 _ ho x.cells i0 _ Try.underlying33 hi hz (by rw [hs]; decide) (by rw [hs]; decide) ?_ h
  rw [hs]
  simp only [List.map_toArray, List.map_cons, List.map_nil, hy]
  exact fill38 x
def tmN (l : List In) (n : Nat) : List In := (l.take n).map tm
theorem tmN_succ {l : List In} {i : Nat} (h : i < l.length) : tmN l (i + 1) = tmN l i ++ [tm l[i]] := by
  unfold tmN
  rw [List.take_succ_eq_append_getElem h, List.map_append]; rfl
theorem tmN_len {l : List In} {i : Nat} (h : i ≤ l.length) : (tmN l i).length = i := by
  unfold tmN
  rw [List.length_map, List.length_take]; omega
theorem in_cells (x : In) : x.cells = #[.int .u8 x.op, .int .u8 x.dst, .int .u8 x.loc, .bool x.ar, .int .u8 x.an, .bool x.br, .int .u8 x.bn, .int .u8 x.fn, .int .u8 x.mode, .int .u8 x.skip] := rfl

set_option maxRecDepth 8000 in
set_option maxHeartbeats 4000000 in
theorem c_tame (ai : Option Addr) (n ci : Nat) (l : List In) (hn : l.length = n) (hmax : n ≤ 140737488355328) (hx : ∀ x ∈ l, XOk x) (w : World) (hi : InAt w w.heap.size ai l) :
    Calls Try.prog 19 #[.slice ai n ci] w fun e w' => ∃ v, e = .returned v ∧ w'.ownsRow w.heap.size 38 10 v (min n 60) (vin (tmN l (min n 60))) ∧ Below w.heap.size w w' := by
  obtain ⟨i0, hi38, hz0, hz1, hz2⟩ := info38x
  have HI := Lib.hid hi
  have HN := Lib.hid hn
  have HX := Lib.hid hx
  clear hi hn hx
  go_enter Try.func19, Try.ntmps19
  go_upto_region 3 with (fail)
  go_loopw [3, 4] (fun s i wr => ∃ j : Nat, j ≤ n ∧ j ≤ 60 ∧ i = .int .i64 j ∧ wr.ownsRow w.heap.size 38 10 s j (vin (tmN l j)) ∧ Below w.heap.size w wr) (fun _ i _ => n - (intOf i).toNat)
  case atStart => exact ⟨0, by omega, by omega, rfl, World.ownsRow_nil _ _ _ _, Below.refl _ _⟩
  case round =>
    obtain ⟨j, hj, hj60, rfl, hown, hbr⟩ := hrel
    have HO := Lib.hid hown
    have HBr := Lib.hid hbr
    obtain ⟨ado, capo, rfl, hino⟩ := InAt.of_owns hown
    clear hown hbr hino
    by_cases hlt : j < n
    · by_cases h60 : j < 60
      · have hjl : j < l.length := by rw [HN.out]; exact hlt
        have hxo := HX.out _ (List.getElem_mem hjl)
        have HSu := Lib.hid (tmN_succ hjl)
        obtain ⟨gi, off, rfl, hgl, hcells⟩ := (HI.out.below HBr.out) j _ (List.getElem?_eq_getElem hjl)
        obtain ⟨x, hxe⟩ : ∃ x, x = l[j] := ⟨_, rfl⟩
        rw [← hxe] at hxo HSu hcells
        have HLd := Lib.hid (run_load_cells (P := Try.prog) wr gi (off + j * 10) x.cells 38 _ Try.underlying38 rfl (by kernel_rfl) hcells)
        obtain ⟨ho0, ho1⟩ := hxo.op
        obtain ⟨hl0, hl1⟩ := hxo.loc
        have hji : (j : Int) < (n : Int) := by omega
        have hj6 : (j : Int) < 60 := by omega
        clear hcells hxe hxo
        go_upto_region 6 with (first
          | (refine wpList_load_part 38 _ rfl rfl (by rfl) HLd.out ?_)
          | (refine wpList_store_new rfl _ _ rfl rfl rfl InB.size38 rfl (in_one x) ?_))
        have hbn := (Below.refl wr.heap.size wr).alloc (Nat.le_refl _) (.cells x.cells 38)
        have HB1 := Lib.hid (HBr.out.trans (hbn.mono HBr.out.size))
        have HO1 := Lib.hid (owns_over HO.out hbn)
        have HI1 := Lib.hid (InB.new wr x)
        have hge : w.heap.size ≤ wr.heap.size := HBr.out.size
        have hne : (Value.slice ado j capo).ownBlock ≠ some wr.heap.size := fun h => Nat.lt_irrefl _ (owned_block HO.out h).2
        clear HO HLd hbn HBr
        generalize wr.alloc (.cells x.cells 38) = w1 at *
        generalize wr.heap.size = b at *
        have hop := HI1.out.at_ 0
        have hfz := HI1.out.unfrozen 0
        have hlc := HI1.out.at_ 2
        have hfz2 := (HI1.out.setOp (1 + x.op % 8)).unfrozen 2
        have hlc2 := (HI1.out.setOp (1 + x.op % 8)).at_ 2
        rw [show x.cells[0]? = some (.int .u8 x.op) from rfl] at hop
        rw [show ({ x with op := 1 + x.op % 8 } : In).cells[2]? = some (.int .u8 x.loc) from rfl] at hlc2
        clear hlc
        have HI3 := Lib.hid HI1.out.tame
        have HO3 := Lib.hid (owns_of_heap (owns_of_heap HO1.out (w' := w1.setCell ⟨b, 0, none⟩ (.int .u8 (1 + x.op % 8))) fun g hg => Below.heap_setCell w1 ⟨b, 0, none⟩ _ g (fun e => hne (by rw [hg, e]))) (w' := (w1.setCell ⟨b, 0, none⟩ (.int .u8 (1 + x.op % 8))).setCell ⟨b, 2, none⟩ (.int .u8 (x.loc % 4))) fun g hg => Below.heap_setCell _ ⟨b, 2, none⟩ _ g (fun e => hne (by rw [hg, e])))
        have HB3 := Lib.hid ((HB1.out.setCell (p := ⟨b, 0, none⟩) hge (.int .u8 (1 + x.op % 8))).setCell (p := ⟨b, 2, none⟩) hge (.int .u8 (x.loc % 4)))
        have htm : (x.op).tmod 8 = x.op % 8 := Int.tmod_eq_emod_of_nonneg ho0
        have htm2 : (x.loc).tmod 4 = x.loc % 4 := Int.tmod_eq_emod_of_nonneg hl0
        have hwr : IntKind.u8.wrap (1 + x.op % 8) = 1 + x.op % 8 := by rw [IntKind.wrap_u8]; omega
        clear HI1 HO1 HB1 hne
        go_upto_region 8 with (fail)
        clear hop hfz hlc2 hfz2 htm htm2 hwr ho0 ho1 hl0 hl1
        generalize (w1.setCell ⟨b, 0, none⟩ (.int .u8 (1 + x.op % 8))).setCell ⟨b, 2, none⟩ (.int .u8 (x.loc % 4)) = w3 at *
        have hbn := (Below.refl w3.heap.size w3).alloc (Nat.le_refl _) (.cells (tm x).cells 38)
        have HB4 := Lib.hid (HB3.out.trans (hbn.mono HB3.out.size))
        have HO4 := Lib.hid (owns_over HO3.out hbn)
        have HC4 := Lib.hid (show ∀ i v, (tm x).cells.toList[i]? = some v → (w3.alloc (.cells (tm x).cells 38)).cell? ((⟨w3.heap.size, 0, none⟩ : Addr).add i) = some v from fun i v hv => by
          rw [Addr.add_lit, Nat.zero_add, (InB.new w3 (tm x)).at_]; simpa using hv)
        clear hbn
        go_wp2_with (first
          | (refine wpList_load_part 38 _ rfl rfl (by rfl) HI3.out.load ?_)
          | (refine wpList_slice1 rfl _ rfl rfl ?_)
          | (at_builtin; refine wpList_append_own _ rfl _ _ 33 rfl w.heap.size 38 i0 _ 10 10 Try.underlying33 hi38 hz0 hz1 hz2 rfl (by decide) _ j (vin (tmN l j)) rfl HO4.out ⟨w3.heap.size, 0, none⟩ 1 1 (tm x).cells.toList rfl rfl HC4.out (In.one (tm x)) (by unfold maxLen; omega) (by omega) HB4.out.size ?_; intro v' w5 hown5 hgrow5 hz5))
        rw [vin_snoc, ← HSu.out] at hown5
        exact ⟨⟨j + 1, by omega, by omega, by go_num, hown5, HB4.out.grown hgrow5 HB4.out.size (fun k hk => (owned_block HO4.out hk).1)⟩, by simp [intOf]; omega⟩
      · have h6 : ¬ (j : Int) < 60 := by omega
        have hji : (j : Int) < (n : Int) := by omega
        have hm : min n 60 = j := by omega
        have HM := Lib.hid hm
        clear hm
        go_wp2
        go_ret
        exact ⟨_, rfl, by rw [HM.out]; exact HO.out, HBr.out⟩
    · have hjn : j = n := by omega
      subst hjn
      have hm : min j 60 = j := by omega
      have HM := Lib.hid hm
      clear hm
      go_wp2
      go_ret
      exact ⟨_, rfl, by rw [HM.out]; exact HO.out, HBr.out⟩
end Go.Proofs.Ytckcdpmfmfpmmaa
