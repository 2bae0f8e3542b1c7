/-
  A core and a working state in memory, by their cells; core.Value and the small methods.
-/
import Derived.Test.YtckcdpmfmfpmmaaCalc
import Derived.Laws.Rows
import Derived.Deep.QuietTactic
import Derived.BigQuiet
import Derived.Deep.DeepCutAuto
namespace Go.Proofs.Ytckcdpmfmfpmmaa
open Go.RowKit

/-- A core: the buffer is the value that the field holds. -/
structure Cr where
  pc : Int
  r : Nat → Int
  buf : Value
  wt : Bool
  dr : Bool
def Cr.cells (c : Cr) : Array Value := #[.int .u8 c.pc, .int .u8 (c.r 0), .int .u8 (c.r 1), .int .u8 (c.r 2), .int .u8 (c.r 3), .int .u8 (c.r 4), .int .u8 (c.r 5), .int .u8 (c.r 6), .int .u8 (c.r 7), c.buf, .bool c.wt, .bool c.dr]
/-- An instruction. -/
structure In where
  op : Int
  dst : Int
  loc : Int
  ar : Bool
  an : Int
  br : Bool
  bn : Int
  fn : Int
  mode : Int
  skip : Int
def In.cells (x : In) : Array Value := #[.int .u8 x.op, .int .u8 x.dst, .int .u8 x.loc, .bool x.ar, .int .u8 x.an, .bool x.br, .int .u8 x.bn, .int .u8 x.fn, .int .u8 x.mode, .int .u8 x.skip]
def In.zero : In := ⟨0, 0, 0, false, 0, false, 0, 0, 0, 0⟩
/-- A working state. -/
structure Wk where
  c : Cr
  ins : Value
  x : In
  is : Bool
def Wk.cells (k : Wk) : Array Value := #[.int .u8 k.c.pc, .int .u8 (k.c.r 0), .int .u8 (k.c.r 1), .int .u8 (k.c.r 2), .int .u8 (k.c.r 3), .int .u8 (k.c.r 4), .int .u8 (k.c.r 5), .int .u8 (k.c.r 6), .int .u8 (k.c.r 7), k.c.buf, .bool k.c.wt, .bool k.c.dr, k.ins,
  .int .u8 k.x.op, .int .u8 k.x.dst, .int .u8 k.x.loc, .bool k.x.ar, .int .u8 k.x.an, .bool k.x.br, .int .u8 k.x.bn, .int .u8 k.x.fn, .int .u8 k.x.mode, .int .u8 k.x.skip, .bool k.is]
structure CrAt (w : World) (b : Nat) (c : Cr) : Prop where
  heap : w.heap[b]? = some (.cells c.cells 27 (0, 0))
structure WkAt (w : World) (b : Nat) (k : Wk) : Prop where
  heap : w.heap[b]? = some (.cells k.cells 71 (0, 0))
namespace CrAt
variable {w w' : World} {b : Nat} {c : Cr}
theorem lt (h : CrAt w b c) : b < w.heap.size := (Array.getElem?_eq_some_iff.1 h.heap).1
theorem over (h : CrAt w b c) (hb : Below w.heap.size w w') : CrAt w' b c := ⟨(hb.block b h.lt).trans h.heap⟩
theorem at_ (h : CrAt w b c) (i : Nat) : w.cell? ⟨b, i, none⟩ = c.cells[i]? := cell_of_row w b i _ _ _ h.heap
theorem new (w : World) (c : Cr) : CrAt (w.alloc (.cells c.cells 27)) w.heap.size c := ⟨heap_alloc_new w _⟩
theorem reg (h : CrAt w b c) {i : Nat} (hi : i < 8) : w.cell? ⟨b, 1 + i, none⟩ = some (.int .u8 (c.r i)) := by
  rw [h.at_]
  have : i = 0 ∨ i = 1 ∨ i = 2 ∨ i = 3 ∨ i = 4 ∨ i = 5 ∨ i = 6 ∨ i = 7 := by omega
  rcases this with rfl | rfl | rfl | rfl | rfl | rfl | rfl | rfl <;> rfl
theorem unfrozen (h : CrAt w b c) (j : Nat) : w.frozen? ⟨b, j, none⟩ = false := by simp [World.frozen?, h.heap]
end CrAt
namespace WkAt
variable {w w' : World} {b : Nat} {k : Wk}
theorem lt (h : WkAt w b k) : b < w.heap.size := (Array.getElem?_eq_some_iff.1 h.heap).1
theorem over (h : WkAt w b k) (hb : Below w.heap.size w w') : WkAt w' b k := ⟨(hb.block b h.lt).trans h.heap⟩
theorem at_ (h : WkAt w b k) (i : Nat) : w.cell? ⟨b, i, none⟩ = k.cells[i]? := cell_of_row w b i _ _ _ h.heap
theorem unfrozen (h : WkAt w b k) (j : Nat) : w.frozen? ⟨b, j, none⟩ = false := by simp [World.frozen?, h.heap]
theorem reg (h : WkAt w b k) {i : Nat} (hi : i < 8) : w.cell? ⟨b, 1 + i, none⟩ = some (.int .u8 (k.c.r i)) := by
  rw [h.at_]
  have : i = 0 ∨ i = 1 ∨ i = 2 ∨ i = 3 ∨ i = 4 ∨ i = 5 ∨ i = 6 ∨ i = 7 := by omega
  rcases this with rfl | rfl | rfl | rfl | rfl | rfl | rfl | rfl <;> rfl
theorem drewN (h : WkAt w b k) (n : Nat) : WkAt (w.drewN n) b k := ⟨h.heap⟩
theorem other {p : Addr} {v : Value} (h : WkAt w b k) (hp : b ≠ p.block) : WkAt (w.setCell p v) b k := ⟨(Below.heap_setCell w p v b hp).trans h.heap⟩
theorem set (h : WkAt w b k) (i : Nat) (v : Value) (k' : Wk) (hk : k.cells.setIfInBounds i v = k'.cells) : WkAt (w.setCell ⟨b, i, none⟩ v) b k' := by
  constructor
  rw [setCell_eq_setRow w b _ _ _ _ _ h.heap, hk]
  exact setRow_heap w b _ _ _ _ h.heap
/-- All cells but the registers. -/
theorem pc (h : WkAt w b k) : w.cell? ⟨b, 0, none⟩ = some (.int .u8 k.c.pc) := h.at_ 0
theorem buf (h : WkAt w b k) : w.cell? ⟨b, 9, none⟩ = some k.c.buf := h.at_ 9
theorem wt (h : WkAt w b k) : w.cell? ⟨b, 10, none⟩ = some (.bool k.c.wt) := h.at_ 10
theorem dr (h : WkAt w b k) : w.cell? ⟨b, 11, none⟩ = some (.bool k.c.dr) := h.at_ 11
theorem insC (h : WkAt w b k) : w.cell? ⟨b, 12, none⟩ = some k.ins := h.at_ 12
theorem op (h : WkAt w b k) : w.cell? ⟨b, 13, none⟩ = some (.int .u8 k.x.op) := h.at_ 13
theorem dst (h : WkAt w b k) : w.cell? ⟨b, 14, none⟩ = some (.int .u8 k.x.dst) := h.at_ 14
theorem loc (h : WkAt w b k) : w.cell? ⟨b, 15, none⟩ = some (.int .u8 k.x.loc) := h.at_ 15
theorem fn (h : WkAt w b k) : w.cell? ⟨b, 20, none⟩ = some (.int .u8 k.x.fn) := h.at_ 20
theorem mode (h : WkAt w b k) : w.cell? ⟨b, 21, none⟩ = some (.int .u8 k.x.mode) := h.at_ 21
theorem skip (h : WkAt w b k) : w.cell? ⟨b, 22, none⟩ = some (.int .u8 k.x.skip) := h.at_ 22
theorem isC (h : WkAt w b k) : w.cell? ⟨b, 23, none⟩ = some (.bool k.is) := h.at_ 23
end WkAt

theorem Below.chain {w a b : World} (h : Below w.heap.size w a) (k : Below a.heap.size a b) : Below w.heap.size w b := h.trans (k.mono h.size)

/-- The value of an argument. -/
def argV (c : Cr) (reg : Bool) (n : Int) : Int := if reg then (if n < 8 then c.r n.toNat else 0) else n
set_option maxRecDepth 4000 in
theorem c_Value (c : Cr) (reg : Bool) (n : Nat) (w : World) : Calls Try.prog 12 #[.agg c.cells, .agg #[.bool reg, .int .u8 n]] w fun e w' => e = .returned (.int .u8 (argV c reg n)) ∧ Below w.heap.size w w' := by
  have hc := CrAt.new w c
  have hb := ((Below.refl w.heap.size w).alloc (Nat.le_refl _) (.cells c.cells 27)).alloc (by simp) (.cells #[.bool reg, .int .u8 n] 23)
  have hr := fun i (hi : i < 8) => (Below.heap_alloc (w.alloc (.cells c.cells 27)) (.cells #[.bool reg, .int .u8 n] 23) _ hc.lt)
  have h2 := fun i => (cell_of_row ((w.alloc (.cells c.cells 27)).alloc (.cells #[.bool reg, .int .u8 n] 23)) (w.heap.size + 1) i #[.bool reg, .int .u8 n] 23 (0, 0) (by
    have := heap_alloc_new (w.alloc (.cells c.cells 27)) (.cells #[.bool reg, .int .u8 n] 23)
    rwa [World.size_alloc] at this))
  have h3 : CrAt ((w.alloc (.cells c.cells 27)).alloc (.cells #[.bool reg, .int .u8 n] 23)) w.heap.size c := ⟨(Below.heap_alloc (w.alloc (.cells c.cells 27)) (.cells #[.bool reg, .int .u8 n] 23) _ hc.lt).trans hc.heap⟩
  have e0 := h2 0
  have e1 := h2 1
  simp only [List.getElem?_toArray, List.getElem?_cons_zero, List.getElem?_cons_succ] at e0 e1
  have HB := Lib.hid hb
  have H3 := Lib.hid h3
  clear hc hb hr h2 h3
  go_enter Try.func12, Try.ntmps12
  go_upto_region 1 with (fail)
  generalize (w.alloc (.cells c.cells 27)).alloc (.cells #[.bool reg, .int .u8 n] 23) = wb at *
  generalize w.heap.size + 1 = b2 at *
  cases reg with
  | false =>
    go_wp2
    go_ret
    exact ⟨rfl, HB.out⟩
  | true =>
    by_cases hn : n < 8
    · have hreg := H3.out.reg hn
      have hni : (n : Int) < 8 := by omega
      have HV := Lib.hid (show argV c true n = c.r n by unfold argV; rw [if_pos rfl, if_pos hni, Int.toNat_natCast])
      go_wp2
      go_ret
      exact ⟨by rw [HV.out]; rfl, HB.out⟩
    · have HV := Lib.hid (show argV c true n = 0 by unfold argV; rw [if_pos rfl, if_neg (by omega)])
      go_wp2
      go_ret
      exact ⟨by rw [HV.out]; rfl, HB.out⟩
set_option maxRecDepth 4000 in
theorem c_refValue (c : Cr) (reg : Bool) (n : Nat) (w : World) : Calls Try.prog 13 #[.agg c.cells, .agg #[.bool reg, .int .u8 n]] w fun e w' => e = .returned (.int .u8 (argV c reg n)) ∧ Below w.heap.size w w' := by
  have hc := CrAt.new w c
  have hb := ((Below.refl w.heap.size w).alloc (Nat.le_refl _) (.cells c.cells 27)).alloc (by simp) (.cells #[.bool reg, .int .u8 n] 23)
  have hr := fun i (hi : i < 8) => (Below.heap_alloc (w.alloc (.cells c.cells 27)) (.cells #[.bool reg, .int .u8 n] 23) _ hc.lt)
  have h2 := fun i => (cell_of_row ((w.alloc (.cells c.cells 27)).alloc (.cells #[.bool reg, .int .u8 n] 23)) (w.heap.size + 1) i #[.bool reg, .int .u8 n] 23 (0, 0) (by
    have := heap_alloc_new (w.alloc (.cells c.cells 27)) (.cells #[.bool reg, .int .u8 n] 23)
    rwa [World.size_alloc] at this))
  have h3 : CrAt ((w.alloc (.cells c.cells 27)).alloc (.cells #[.bool reg, .int .u8 n] 23)) w.heap.size c := ⟨(Below.heap_alloc (w.alloc (.cells c.cells 27)) (.cells #[.bool reg, .int .u8 n] 23) _ hc.lt).trans hc.heap⟩
  have e0 := h2 0
  have e1 := h2 1
  simp only [List.getElem?_toArray, List.getElem?_cons_zero, List.getElem?_cons_succ] at e0 e1
  have HB := Lib.hid hb
  have H3 := Lib.hid h3
  clear hc hb hr h2 h3
  go_enter Try.func13, Try.ntmps13
  go_upto_region 1 with (fail)
  generalize (w.alloc (.cells c.cells 27)).alloc (.cells #[.bool reg, .int .u8 n] 23) = wb at *
  generalize w.heap.size + 1 = b2 at *
  cases reg with
  | false =>
    go_wp2
    go_ret
    exact ⟨rfl, HB.out⟩
  | true =>
    by_cases hn : n < 8
    · have hreg := H3.out.reg hn
      have hni : (n : Int) < 8 := by omega
      have HV := Lib.hid (show argV c true n = c.r n by unfold argV; rw [if_pos rfl, if_pos hni, Int.toNat_natCast])
      go_wp2
      go_ret
      exact ⟨by rw [HV.out]; rfl, HB.out⟩
    · have HV := Lib.hid (show argV c true n = 0 by unfold argV; rw [if_pos rfl, if_neg (by omega)])
      go_wp2
      go_ret
      exact ⟨by rw [HV.out]; rfl, HB.out⟩

theorem c_comes1 (v : Bool) (w : World) : Calls Try.prog 39 #[.bool v] w fun e w' => e = .returned (.int .u8 (if v then 2 else 4)) ∧ w = w' := by
  cases v with
  | true =>
    go_enter Try.func39, Try.ntmps39
    go_wp2
    go_ret
    exact ⟨rfl, rfl⟩
  | false =>
    go_enter Try.func39, Try.ntmps39
    go_wp2
    go_ret
    exact ⟨rfl, rfl⟩
theorem c_empty (b : Nat) (k : Wk) (ad : Option Addr) (n cap : Nat) (hv : k.c.buf = .slice ad n cap) (w : World) (h : WkAt w b k) : Calls Try.prog 40 #[.pointer (some ⟨b, 0, none⟩)] w fun e w' => e = .returned (.bool ((n : Int) == 0)) ∧ w = w' := by
  have e := h.buf
  rw [hv] at e
  clear h hv
  go_enter Try.func40, Try.ntmps40
  go_wp2
  go_ret
  exact ⟨rfl, rfl⟩

/-! Buffers. -/
/-- A slice reads as a list of stores. -/
def StAt (w : World) (N : Nat) (ad : Option Addr) (l : List (Nat × Nat)) : Prop :=
  ∀ (j : Nat) p, l[j]? = some p → ∃ c off, ad = some ⟨c, off, none⟩ ∧ c < N ∧ w.cell? ⟨c, off + j * 2, none⟩ = some (.int .u8 (p.1 : Int)) ∧ w.cell? ⟨c, off + j * 2 + 1, none⟩ = some (.int .u8 (p.2 : Int))
theorem StAt.below {w w' : World} {N : Nat} {ad : Option Addr} {l : List (Nat × Nat)} (h : StAt w N ad l) (hb : Below N w w') : StAt w' N ad l :=
  fun j p hp => let ⟨c, off, e, hlt, h1, h2⟩ := h j p hp; ⟨c, off, e, hlt, (hb.cell (p := ⟨c, off + j * 2, none⟩) hlt).trans h1, (hb.cell (p := ⟨c, off + j * 2 + 1, none⟩) hlt).trans h2⟩
theorem StAt.mono {w : World} {N M : Nat} {ad : Option Addr} {l : List (Nat × Nat)} (h : StAt w N ad l) (hm : N ≤ M) : StAt w M ad l :=
  fun j p hp => let ⟨c, off, e, hlt, h1, h2⟩ := h j p hp; ⟨c, off, e, Nat.lt_of_lt_of_le hlt hm, h1, h2⟩
/-- The youngest store to a place. -/
def yng (l : List (Nat × Nat)) (loc : Nat) : Option Nat := l.foldl (fun a p => if p.1 == loc then some p.2 else a) none
theorem yng_succ {l : List (Nat × Nat)} {k : Nat} (hk : k < l.length) (loc : Nat) : yng (l.take (k + 1)) loc = if l[k].1 == loc then some l[k].2 else yng (l.take k) loc := by
  unfold yng
  rw [List.take_succ_eq_append_getElem hk, List.foldl_append]; rfl
set_option maxRecDepth 4000 in
set_option maxHeartbeats 400000 in
theorem c_young (b : Nat) (k : Wk) (ad : Option Addr) (n cap : Nat) (l : List (Nat × Nat)) (loc : Nat) (hv : k.c.buf = .slice ad n cap) (hn : l.length = n) (hm : n ≤ maxLen) (w : World) (h : WkAt w b k) (hl : StAt w w.heap.size ad l) :
    Calls Try.prog 41 #[.pointer (some ⟨b, 0, none⟩), .int .u8 loc] w fun e w' => e = .returned (.tuple #[.int .u8 ((yng l loc).getD 0 : Nat), .bool (yng l loc).isSome]) ∧ Below w.heap.size w w' := by
  have e := h.buf
  rw [hv] at e
  have HL := Lib.hid hl
  have HN := Lib.hid hn
  unfold maxLen at hm
  clear h hv hl hn
  go_enter Try.func41, Try.ntmps41
  go_wp2
  clear e
  go_loopw [4, 5, 14] (fun v s i wr => ∃ j : Nat, j ≤ n ∧ i = .int .i64 j ∧ v = .int .u8 ((yng (l.take j) loc).getD 0 : Nat) ∧ s = .bool (yng (l.take j) loc).isSome ∧ Below w.heap.size w wr) (fun _ _ i _ => n - (intOf i).toNat)
  case atStart => exact ⟨0, by omega, rfl, rfl, rfl, Below.refl _ _⟩
  case round =>
    obtain ⟨j, hj, rfl, rfl, rfl, hb⟩ := hrel
    have HB := Lib.hid hb
    clear hb
    by_cases hlt : j < n
    · have hjl : j < l.length := by have := HN.out; omega
      have HS := Lib.hid (yng_succ hjl loc)
      obtain ⟨c, off, rfl, hcl, hc1, hc2⟩ := (HL.out.below HB.out) j _ (List.getElem?_eq_getElem hjl)
      obtain ⟨p, hp⟩ : ∃ p, p = l[j] := ⟨_, rfl⟩
      rw [← hp] at HS hc1 hc2
      clear hp
      obtain ⟨x, y⟩ := p
      simp only at HS hc1 hc2
      cases hx : x == loc with
      | true =>
        have HX := Lib.hid (show yng (l.take (j + 1)) loc = some y by rw [HS.out, hx]; rfl)
        obtain rfl := eq_of_beq hx
        clear hx
        go_wp2
        refine ⟨⟨j + 1, by omega, by go_num, by rw [HX.out]; rfl, by rw [HX.out]; rfl, HB.out.alloc HB.out.size _⟩, by simp [intOf]; omega⟩
      | false =>
        have HX := Lib.hid (show yng (l.take (j + 1)) loc = yng (l.take j) loc by rw [HS.out, hx]; rfl)
        have hne : ((x : Int) == (loc : Int)) = false := by
          have := beq_eq_false_iff_ne.1 hx
          exact beq_eq_false_iff_ne.2 (by omega)
        go_wp2
        refine ⟨⟨j + 1, by omega, by go_num, by rw [HX.out], by rw [HX.out], HB.out.alloc HB.out.size _⟩, by simp [intOf]; omega⟩
    · have hjn : l.take j = l := List.take_of_length_le (by have := HN.out; omega)
      rw [hjn]
      clear hjn
      go_wp2
      go_ret2
      exact ⟨rfl, HB.out⟩
end Go.Proofs.Ytckcdpmfmfpmmaa
