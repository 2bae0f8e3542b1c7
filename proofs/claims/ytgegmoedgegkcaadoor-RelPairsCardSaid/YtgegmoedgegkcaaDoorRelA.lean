/-
  A relation in memory: 49 cells, closed behind a name; its cells, its rows, whole loads and stores.
  rel.Right tells whether a relation is one.
  Making relations: allocation, literals, results; rel.rows.
  rel.two, and the operations on two relations row by row: Union, Both, Less.
  rel.step: the union of the rows of a set; rel.Then.
  Two relations compared.
  Plain: the steps of rel.Plus come to an end.
  rel.Plus: the steps go on until nothing is new.
  append onto an own row, and where the row lies behind it: where it lay, or in a new block.
  rel.Pairs lists the pairs row by row.
  rel.From: who stands ahead.
  rel.Back: the other way round; rel.Into.
  rel.Into and rel.Has.
  rel.Star: walks, and none.
  rel.Id and rel.Cross.
  rel.Cross: all pairs of two sets.
  rel.Empty and rel.Irreflexive.
  rel.Irreflexive.
  slices.IndexFunc of a list of ints, and the test of rel.Top.
  rel.Top: an order of the things.
  rel.Acyclic.
  seisinlaw02.in: is each pair of a relation another one's.
  seisinlaw02.Fine: a right relation of any.
-/
import Derived.Test.YtgegmoedgegkcaaDoorBase
import Derived.Test.YtgegmoedgegkcaaDoorNext
import Derived.Laws.Rows
import Derived.Test.YtgegmoedgegkcaaDoorCalm
import Derived.Test.YtgegmoedgegkcaaDoorWMarks
import Derived.Deep.DeepCutAuto
import Derived.Test.YtgegmoedgegkcaaDoorList
import Derived.Test.YtgegmoedgegkcaaDoorApp
import Derived.Laws.StructEq
import Derived.Deep.LoopGhost
import Derived.StillTailTactics
import Derived.Test.YtgegmoedgegkcaaDoorPick
namespace Go.Proofs.YtgegmoedgegkcaaDoor
open Go.RowKit

/-- The cells of the rows. -/
@[irreducible] def rws (f : Nat → BitVec 64) : Array Value := ((List.range 48).map fun i => Value.int .u64 (iv (f i))).toArray
/-- The cells of a relation. -/
@[irreducible] def rcs (n : Int) (f : Nat → BitVec 64) : Array Value := (Value.int .i64 n :: (List.range 48).map fun i => Value.int .u64 (iv (f i))).toArray
def upd (f : Nat → BitVec 64) (k : Nat) (s : BitVec 64) : Nat → BitVec 64 := fun i => if i = k then s else f i

theorem rws_size (f : Nat → BitVec 64) : (rws f).size = 48 := by unfold rws; simp
theorem rcs_size (n : Int) (f : Nat → BitVec 64) : (rcs n f).size = 49 := by unfold rcs; simp
theorem rws_get (f : Nat → BitVec 64) {i : Nat} (h : i < 48) : (rws f)[i]? = some (.int .u64 (iv (f i))) := by unfold rws; simp [h]
theorem rcs_zero (n : Int) (f : Nat → BitVec 64) : (rcs n f)[0]? = some (.int .i64 n) := by unfold rcs; simp
theorem rcs_get (n : Int) (f : Nat → BitVec 64) {i : Nat} (h : i < 48) : (rcs n f)[1 + i]? = some (.int .u64 (iv (f i))) := by
  unfold rcs
  rw [Nat.add_comm]
  simp [h]
theorem rcs_one (n : Int) (f : Nat → BitVec 64) : (rcs n f).all (·.oneCell') = true := by
  unfold rcs
  simp [Value.oneCell']
theorem rcs_congr (n : Int) {f g : Nat → BitVec 64} (h : ∀ i, i < 48 → f i = g i) : rcs n f = rcs n g := by
  unfold rcs
  congr 2
  refine List.map_congr_left fun i hi => ?_
  rw [h i (List.mem_range.1 hi)]
theorem rcs_inj {n m : Int} {f g : Nat → BitVec 64} (h : rcs n f = rcs m g) : n = m ∧ ∀ i, i < 48 → f i = g i := by
  refine ⟨?_, fun i hi => ?_⟩
  · have h1 := rcs_zero n f
    rw [h, rcs_zero] at h1
    simpa using h1.symm
  · have h1 := rcs_get n f hi
    rw [h, rcs_get m g hi] at h1
    simp only [Option.some.injEq, Value.int.injEq, true_and] at h1
    exact (iv_inj.1 h1).symm
theorem rcs_upd (n : Int) (f : Nat → BitVec 64) {k : Nat} (hk : k < 48) (s : BitVec 64) : (rcs n f).setIfInBounds (1 + k) (.int .u64 (iv s)) = rcs n (upd f k s) := by
  refine Array.ext_getElem? fun i => ?_
  rw [Array.getElem?_setIfInBounds]
  by_cases h : 1 + k = i
  · subst h
    rw [if_pos rfl, if_pos (by rw [rcs_size]; omega), rcs_get _ _ hk]
    simp [upd]
  · rw [if_neg h]
    rcases Nat.eq_zero_or_pos i with h0 | h0
    · subst h0; rw [rcs_zero, rcs_zero]
    · obtain ⟨j, rfl⟩ : ∃ j, i = 1 + j := ⟨i - 1, by omega⟩
      by_cases hj : j < 48
      · rw [rcs_get _ _ hj, rcs_get _ _ hj]
        simp [upd, show ¬ j = k by omega]
      · rw [Array.getElem?_eq_none (by rw [rcs_size]; omega), Array.getElem?_eq_none (by rw [rcs_size]; omega)]
theorem rcs_setN (n m : Int) (f : Nat → BitVec 64) : (rcs n f).setIfInBounds 0 (.int .i64 m) = rcs m f := by
  refine Array.ext_getElem? fun i => ?_
  rw [Array.getElem?_setIfInBounds]
  by_cases h : 0 = i
  · subst h
    rw [if_pos rfl, if_pos (by rw [rcs_size]; omega), rcs_zero]
  · rw [if_neg h]
    obtain ⟨j, rfl⟩ : ∃ j, i = 1 + j := ⟨i - 1, by omega⟩
    by_cases hj : j < 48
    · rw [rcs_get _ _ hj, rcs_get _ _ hj]
    · rw [Array.getElem?_eq_none (by rw [rcs_size]; omega), Array.getElem?_eq_none (by rw [rcs_size]; omega)]

/-- A relation at a block. -/
structure RelAt (w : World) (b : Nat) (n : Int) (f : Nat → BitVec 64) : Prop where
  heap : w.heap[b]? = some (.cells (rcs n f) 53 (0, 0))

namespace RelAt
variable {w w' : World} {b : Nat} {n : Int} {f : Nat → BitVec 64}
theorem lt (h : RelAt w b n f) : b < w.heap.size := (Array.getElem?_eq_some_iff.1 h.heap).1
theorem n_cell (h : RelAt w b n f) : w.cell? ⟨b, 0, none⟩ = some (.int .i64 n) := by
  rw [cell_of_row w b 0 _ _ _ h.heap, rcs_zero]
theorem row (h : RelAt w b n f) {i : Nat} (hi : i < 48) : w.cell? ⟨b, 1 + i, none⟩ = some (.int .u64 (iv (f i))) := by
  rw [cell_of_row w b _ _ _ _ h.heap, rcs_get _ _ hi]
theorem unfrozen (h : RelAt w b n f) (j : Nat) : w.frozen? ⟨b, j, none⟩ = false := by simp [World.frozen?, h.heap]
theorem set (h : RelAt w b n f) {i : Nat} (hi : i < 48) (s : BitVec 64) : RelAt (w.setCell ⟨b, 1 + i, none⟩ (.int .u64 (iv s))) b n (upd f i s) := by
  constructor
  rw [setCell_eq_setRow w b _ _ _ _ _ h.heap, rcs_upd _ _ hi]
  exact setRow_heap w b _ _ _ _ h.heap
theorem setN (h : RelAt w b n f) (m : Int) : RelAt (w.setCell ⟨b, 0, none⟩ (.int .i64 m)) b m f := by
  constructor
  rw [setCell_eq_setRow w b _ _ _ _ _ h.heap, rcs_setN]
  exact setRow_heap w b _ _ _ _ h.heap
theorem alloc (h : RelAt w b n f) (o : Obj) : RelAt (w.alloc o) b n f := ⟨(Below.heap_alloc w o b h.lt).trans h.heap⟩
theorem new (w : World) (n : Int) (f : Nat → BitVec 64) : RelAt (w.alloc (.cells (rcs n f) 53)) w.heap.size n f := ⟨heap_alloc_new w _⟩
theorem below {N : Nat} (h : RelAt w b n f) (hb : Below N w w') (hl : b < N) : RelAt w' b n f := ⟨(hb.block b hl).trans h.heap⟩
theorem drewN (h : RelAt w b n f) (k : Nat) : RelAt (w.drewN k) b n f := ⟨h.heap⟩
theorem other {p : Addr} {v : Value} (h : RelAt w b n f) (hp : b ≠ p.block) : RelAt (w.setCell p v) b n f := ⟨(Below.heap_setCell w p v b hp).trans h.heap⟩
theorem setRow {c : Nat} {cs : Array Value} (h : RelAt w b n f) (hp : b ≠ c) : RelAt (w.setRow c cs) b n f := ⟨(setRow_other w c b cs hp).trans h.heap⟩
theorem load (h : RelAt w b n f) : (loadVar 53 ⟨b, 0, none⟩).run Tryd.prog w = .ok (.agg (rcs n f)) w :=
  run_loadVar_row w b _ 53 _ _ _ h.heap Tryd.underlying53 rfl (by rw [rcs_size]; kernel_rfl)
theorem load_rows (h : RelAt w b n f) : (loadVar 51 ⟨b, 1, none⟩).run Tryd.prog w = .ok (.agg (rws f)) w := by
  have hl : (loadCells ⟨b, 1, none⟩ (rws f).toList.length).run Tryd.prog w = .ok (rws f).toList.toArray w :=
    run_loadCells_list (P := Tryd.prog) w ⟨b, 1, none⟩ (rws f).toList (fun j v hv => by
      have hj : j < 48 := by
        have := (List.getElem?_eq_some_iff.1 hv).1
        rw [Array.length_toList, rws_size] at this
        exact this
      rw [Addr.add_lit, h.row hj]
      rw [Array.getElem?_toList, rws_get f hj] at hv
      exact hv)
  have hs : (Tryd.prog.info? 51).map (·.size) = some 48 := by kernel_rfl
  cases hq : Tryd.prog.info? 51 with
  | none => simp [hq] at hs
  | some i =>
    have hs : i.size = 48 := by simpa [hq] using hs
    have hagg : (isAgg 51).run Tryd.prog w = .ok true w := by
      unfold isAgg
      rw [Sem.run_bind, run_underlying Tryd.underlying51 w]
      rfl
    simp only [Array.length_toList, Array.toArray_toList, rws_size] at hl
    simp [loadVar, Sem.run_bind, hagg, sizeOf, typeInfo, hq, hs, hl]
end RelAt

theorem Below.setRow' {B : Nat} {a w : World} {c : Nat} {cs : Array Value} (h : Below B a w) (hp : B ≤ c) : Below B a (w.setRow c cs) :=
  h.trans ⟨rfl, rfl, rfl, by simp [World.setRow], fun k hk => setRow_other w c k cs (by omega)⟩
theorem wpList_load_rel {ops : Array Oper} {rest : List Oper} {o : Oper} {a : Act} {w : World} {Q : Exit → Act → World → Prop} {b : Nat} {n : Int} {f : Nat → BitVec 64} (hgd : o.guard = none) (x : Operand) (ho : o.op = .load 53 x)
    (hx : a.eval x = .pointer (some ⟨b, 0, none⟩)) (hR : RelAt w b n f) (h : wpList Tryd.prog ops Q rest (a.put o.dst (.agg (rcs n f))) w) : wpList Tryd.prog ops Q (o :: rest) a w :=
  wpList_plain hgd fun K hK => by
    unfold Oper.wp execOp
    simp only [ho, hx, Instr.loadAt, Instr.sureAddr, Sem.run_bind, Sem.run_pure, Result.andThen_ok, hR.load]
    exact hK _ _ h
theorem wp_load_rel {o : Oper} {a : Act} {w : World} {K : Act → World → Prop} {Q : Exit → Act → World → Prop} {b : Nat} {n : Int} {f : Nat → BitVec 64} (x : Operand) (ho : o.op = .load 53 x)
    (hx : a.eval x = .pointer (some ⟨b, 0, none⟩)) (hR : RelAt w b n f) (h : K (a.put o.dst (.agg (rcs n f))) w) : o.wp Tryd.prog a w K Q := by
  unfold Oper.wp execOp
  simp only [ho, hx, Instr.loadAt, Instr.sureAddr, Sem.run_bind, Sem.run_pure, Result.andThen_ok, hR.load]
  exact h
/-- The same behind a guard that lets it run. -/
theorem wpList_load_rel_g {ops : Array Oper} {rest : List Oper} {o : Oper} {a : Act} {w : World} {Q : Exit → Act → World → Prop} {b : Nat} {n : Int} {f : Nat → BitVec 64} (x : Operand) (ho : o.op = .load 53 x)
    (hx : a.eval x = .pointer (some ⟨b, 0, none⟩)) (hgd : Region.wanted o (yielded ops a.tmps) = true) (hR : RelAt w b n f) (h : wpList Tryd.prog ops Q rest (a.put o.dst (.agg (rcs n f))) w) : wpList Tryd.prog ops Q (o :: rest) a w :=
  wpList_step fun K hK => by
    rw [if_pos hgd]
    exact wp_load_rel x ho hx hR (hK _ _ h)
theorem wpList_load_rows {ops : Array Oper} {rest : List Oper} {o : Oper} {a : Act} {w : World} {Q : Exit → Act → World → Prop} {b : Nat} {n : Int} {f : Nat → BitVec 64} (hgd : o.guard = none) (x : Operand) (ho : o.op = .load 51 x)
    (hx : a.eval x = .pointer (some ⟨b, 1, none⟩)) (hR : RelAt w b n f) (h : wpList Tryd.prog ops Q rest (a.put o.dst (.agg (rws f))) w) : wpList Tryd.prog ops Q (o :: rest) a w :=
  wpList_plain hgd fun K hK => by
    unfold Oper.wp execOp
    simp only [ho, hx, Instr.loadAt, Instr.sureAddr, Sem.run_bind, Sem.run_pure, Result.andThen_ok, hR.load_rows]
    exact hK _ _ h
theorem wpList_store_rel {ops : Array Oper} {rest : List Oper} {o : Oper} {a : Act} {w : World} {Q : Exit → Act → World → Prop} {b : Nat} {n m : Int} {f g : Nat → BitVec 64} (hgd : o.guard = none) (x y : Operand) (ho : o.op = .store 53 x y)
    (hx : a.eval x = .pointer (some ⟨b, 0, none⟩)) (hy : a.eval y = .agg (rcs n f)) (hR : RelAt w b m g)
    (h : RelAt (w.setRow b (rcs n f)) b n f → wpList Tryd.prog ops Q rest (a.put o.dst undef) (w.setRow b (rcs n f))) : wpList Tryd.prog ops Q (o :: rest) a w :=
  wpList_store_row hgd 53 x y ho b (rcs n f) hx hy 53 (rcs m g) hR.heap (by rw [rcs_size]; kernel_rfl) (by rw [rcs_size, rcs_size]) (rcs_one n f) (h ⟨setRow_heap w b _ _ _ _ hR.heap⟩)
theorem run_index_rows (f : Nat → BitVec 64) {k : Nat} (hk : k < 48) (w : World) : (Instr.index 51 (.agg (rws f)) (.int .i64 k)).run Tryd.prog w = .ok (.int .u64 (iv (f k))) w := by
  have hu := run_underlying Tryd.underlying51 w
  have hs : (Tryd.prog.info? 23).map (·.size) = some 1 := by kernel_rfl
  cases hq : Tryd.prog.info? 23 with
  | none => simp [hq] at hs
  | some i =>
    have hs : i.size = 1 := by simpa [hq] using hs
    simp [Instr.index, asIntOf, Sem.run_bind, hu, part, isAgg, sizeOf, typeInfo, hq, hs, rws_get f hk, hk]
end Go.Proofs.YtgegmoedgegkcaaDoor

namespace Go.Proofs.YtgegmoedgegkcaaDoor
open Go.RowKit

def rowOk (n : Int) (s : BitVec 64) (a : Nat) : Bool := (s &&& ~~~ mall n == 0#64) && (decide ((a : Int) < n) || s == 0#64)
def right (n : Int) (f : Nat → BitVec 64) : Bool := decide (0 ≤ n) && decide (n ≤ 48) && (List.range 48).all fun a => rowOk n (f a) a

theorem right_rows {n : Int} {f : Nat → BitVec 64} (h0 : 0 ≤ n) (h1 : n ≤ 48) : right n f = (List.range 48).all fun a => rowOk n (f a) a := by
  unfold right; rw [decide_eq_true h0, decide_eq_true h1]; rfl
theorem right_bad {n : Int} {f : Nat → BitVec 64} (k : Nat) (hk : k < 48) (h : rowOk n (f k) k = false) : right n f = false := by
  unfold right
  have : ((List.range 48).all fun a => rowOk n (f a) a) = false := by
    rw [Bool.eq_false_iff]
    intro ha
    have := List.all_eq_true.1 ha k (List.mem_range.2 hk)
    rw [h] at this; cases this
  rw [this, Bool.and_false]
theorem bne_eq_false_flip {a b : BitVec 64} (h : (a != b) = true) : (a == b) = false := by
  rw [bne, Bool.not_eq_true'] at h; exact h
theorem bne_eq_true_flip {a b : BitVec 64} (h : (a != b) = false) : (a == b) = true := by
  rw [bne, Bool.not_eq_false'] at h; exact h
theorem all_range_succ {p : Nat → Bool} {k : Nat} (h : (List.range k).all p = true) (hk : p k = true) : (List.range (k + 1)).all p = true := by
  rw [List.range_succ, List.all_append, h, List.all_cons, hk]; rfl

set_option maxRecDepth 8000 in
set_option maxHeartbeats 1000000 in
theorem c_Right (n : Int) (f : Nat → BitVec 64) (w : World) : Calls Tryd.prog 83 #[.agg (rcs n f)] w fun e w' => e = .returned (.bool (right n f)) ∧ Below w.heap.size w w' := by
  have hnew := RelAt.new w n f
  have hbel := (Below.refl w.heap.size w).alloc (Nat.le_refl _) (.cells (rcs n f) 53)
  have HR := Lib.hid hnew
  have HB := Lib.hid hbel
  clear hnew hbel
  go_enter Tryd.func83, Tryd.ntmps83
  go_upto_region 1 with (fail)
  obtain ⟨b, hb⟩ : ∃ b, b = w.heap.size := ⟨_, rfl⟩
  rw [← hb] at HR ⊢
  clear hb
  generalize w.alloc (.cells (rcs n f) 53) = wb at *
  have hc0 := HR.out.n_cell
  by_cases h0 : n < 0
  · have H := Lib.hid (show right n f = false by unfold right; rw [decide_eq_false (p := 0 ≤ n) (by omega)]; rfl)
    go_wp2
    go_ret
    exact ⟨by rw [H.out]; rfl, HB.out⟩
  by_cases h1 : 48 < n
  · have H := Lib.hid (show right n f = false by unfold right; rw [decide_eq_false (p := n ≤ 48) (by omega), Bool.and_false]; rfl)
    go_wp2
    go_ret
    exact ⟨by rw [H.out]; rfl, HB.out⟩
  have HRR := Lib.hid (right_rows (f := f) (show 0 ≤ n by omega) (show n ≤ 48 by omega))
  go_wp2_with (first
    | (go_at_call 27; (with_reducible refine (c_All _ _).mono ?_); rintro e wn ⟨rfl, rfl⟩)
    | (refine wpList_load_rows rfl _ rfl rfl HR.out ?_))
  go_loop [4, 5, 19] (fun _ _ i => ∃ k : Nat, k ≤ 48 ∧ i = .int .i64 k ∧ (List.range k).all (fun a => rowOk n (f a) a) = true) (fun _ _ i => 48 - (intOf i).toNat)
  case atStart => exact ⟨0, by omega, rfl, rfl⟩
  case round =>
    obtain ⟨k, hk, rfl, hall⟩ := hrel
    have Hall := Lib.hid hall
    clear hall
    by_cases hlt : k < 48
    · have hix := run_index_rows f hlt
      have HG := Lib.hid (fun h => all_range_succ Hall.out h : rowOk n (f k) k = true → _)
      have HBad := Lib.hid (right_bad (n := n) (f := f) k hlt)
      obtain ⟨s, hs⟩ : ∃ s, s = f k := ⟨_, rfl⟩
      rw [← hs] at hix HG HBad
      clear hs
      cases hA : (s &&& ~~~ mall n != 0#64) with
      | true =>
        have H := Lib.hid (show rowOk n s k = false by unfold rowOk; rw [bne_eq_false_flip hA]; rfl)
        go_wp2
        go_ret
        exact ⟨by rw [HBad.out H.out]; rfl, HB.out⟩
      | false =>
        by_cases hnk : n ≤ k
        · cases hS : (s != 0#64) with
          | true =>
            have H := Lib.hid (show rowOk n s k = false by unfold rowOk; rw [bne_eq_false_flip hS, decide_eq_false (p := (k : Int) < n) (by omega), Bool.false_or, Bool.and_false])
            go_wp2
            go_ret
            exact ⟨by rw [HBad.out H.out]; rfl, HB.out⟩
          | false =>
            have H := Lib.hid (show rowOk n s k = true by unfold rowOk; rw [bne_eq_true_flip hA, bne_eq_true_flip hS, Bool.or_true]; rfl)
            go_wp2
            go_round
            case rel => exact ⟨k + 1, by omega, by go_num, HG.out H.out⟩
            case measure => simp [intOf]; omega
        · have H := Lib.hid (show rowOk n s k = true by unfold rowOk; rw [bne_eq_true_flip hA, decide_eq_true (p := (k : Int) < n) (by omega)]; rfl)
          go_wp2
          go_round
          case rel => exact ⟨k + 1, by omega, by go_num, HG.out H.out⟩
          case measure => simp [intOf]; omega
    · have hkn : k = 48 := by omega
      have H := Lib.hid (show right n f = true by rw [HRR.out, ← hkn]; exact Hall.out)
      clear hkn
      go_wp2
      go_ret
      exact ⟨by rw [H.out]; rfl, HB.out⟩
end Go.Proofs.YtgegmoedgegkcaaDoor

namespace Go.Proofs.YtgegmoedgegkcaaDoor
open Go.RowKit

theorem zero_rel : (Tryd.prog.info? 53).bind (·.zero) = some (.agg (rcs 0 fun _ => 0#64)) := by
  unfold rcs
  kernel_rfl
theorem run_zero_rel (w : World) : (zeroValue 53).run Tryd.prog w = .ok (.agg (rcs 0 fun _ => 0#64)) w := by
  have h := zero_rel
  cases hq : Tryd.prog.info? 53 with
  | none => simp [hq] at h
  | some i =>
    have hz : i.zero = some (.agg (rcs 0 fun _ => 0#64)) := by simpa [hq] using h
    simp [zeroValue, typeInfo, hq, hz]
theorem wpList_alloc_rel {ops : Array Oper} {rest : List Oper} {o : Oper} {a : Act} {w : World} {Q : Exit → Act → World → Prop} (hgd : o.guard = none) (ho : o.op = .alloc 53)
    (h : wpList Tryd.prog ops Q rest (a.put o.dst (.pointer (some ⟨w.heap.size, 0, none⟩))) (w.alloc (.cells (rcs 0 fun _ => 0#64) 53))) : wpList Tryd.prog ops Q (o :: rest) a w :=
  wpList_plain hgd fun K hK => by
    unfold Oper.wp execOp
    simp only [ho, Instr.alloc, newVar, Sem.run_bind, Sem.run_pure, Result.andThen_ok, run_zero_rel, Value.cells]
    exact hK _ _ h
theorem built_rel0 : Tryd.prog.built 53 [] = some (rcs 0 fun _ => 0#64) := by
  unfold rcs
  kernel_rfl
theorem built_rel1 (n : Int) : Tryd.prog.built 53 [(0, .int .i64 n)] = some (rcs n fun _ => 0#64) := by
  unfold rcs
  kernel_rfl
set_option maxRecDepth 8000 in
theorem wpList_build_rel0 {ops : Array Oper} {rest : List Oper} {o : Oper} {a : Act} {w : World} {Q : Exit → Act → World → Prop} (hgd : o.guard = none) (ho : o.op = .build 53 #[])
    (h : wpList Tryd.prog ops Q rest (a.put o.dst (.agg (rcs 0 fun _ => 0#64))) w) : wpList Tryd.prog ops Q (o :: rest) a w := by
  have hb : Tryd.prog.built 53 ((#[] : Array (Nat × Operand)).map fun (i, x) => (i, a.eval x)).toList = some (rcs 0 fun _ => 0#64) := by
    simp only [Array.map_empty]
    exact built_rel0
  refine wpList_build hgd 53 #[] ho (by rw [hb]; rfl) ?_
  rw [hb]
  exact h
set_option maxRecDepth 8000 in
theorem wpList_build_rel1 {ops : Array Oper} {rest : List Oper} {o : Oper} {a : Act} {w : World} {Q : Exit → Act → World → Prop} (hgd : o.guard = none) (x : Operand) (ho : o.op = .build 53 #[(0, x)]) (n : Int) (hx : a.eval x = .int .i64 n)
    (h : wpList Tryd.prog ops Q rest (a.put o.dst (.agg (rcs n fun _ => 0#64))) w) : wpList Tryd.prog ops Q (o :: rest) a w := by
  have hb : Tryd.prog.built 53 ((#[(0, x)] : Array (Nat × Operand)).map fun (i, x) => (i, a.eval x)).toList = some (rcs n fun _ => 0#64) := by
    simp only [List.map_toArray, List.map_cons, List.map_nil, hx]
    exact built_rel1 n
  refine wpList_build hgd 53 #[(0, x)] ho (by rw [hb]; rfl) ?_
  rw [hb]
  exact h
/-- The return of a relation that lies in a cell. -/
theorem ret_rel {fn : Func} {p : Tmp} {R : Ending → World → Prop} {a : Act} {w : World} {b : Nat} {n : Int} {f : Nat → BitVec 64} (hf : fn.results = #[.cell p 53]) (hp : a.tmps.getD p undef = .pointer (some ⟨b, 0, none⟩)) (hR : RelAt w b n f)
    (hd : a.defers = []) (h : R (.returned (.agg (rcs n f))) w) : bodyPost Tryd.prog fn R .ret a w :=
  bodyPost_ret (results_cell_row hf a.tmps w b 53 (rcs n f) (0, 0) _ hp hR.heap Tryd.underlying53 rfl (by rw [rcs_size]; kernel_rfl)) hd h

def below48 (g : Nat → BitVec 64) (k : Nat) : Nat → BitVec 64 := fun i => if i < k then g i else 0#64
theorem below48_zero (g : Nat → BitVec 64) : below48 g 0 = fun _ => 0#64 := rfl
theorem below48_succ (g : Nat → BitVec 64) (k : Nat) : upd (below48 g k) k (g k) = below48 g (k + 1) := by
  funext i
  unfold upd below48
  by_cases h : i = k
  · subst h; simp
  · by_cases h2 : i < k
    · simp [h, h2, show i < k + 1 by omega]
    · simp [h, h2, show ¬ i < k + 1 by omega]
/-- A call of function F enters it. -/
def Goes (F : FuncId) : Prop := ∀ args w, (callFunc F args).run Tryd.prog w = .ok (.enter F args) w
theorem goes {F : FuncId} {fn : Func} {c : Code} (h : Tryd.prog.funcs[F]? = some fn) (h1 : (fn.name == "runtime.NumGoroutine") = false) (h2 : fn.body = some c) : Goes F := fun args w => by
  have h1 : fn.name ≠ "runtime.NumGoroutine" := by simpa using h1
  simp [callFunc, run_program, h, h1, h2]
/-- What a row's function answers. -/
abbrev RowIs (w : World) (F : FuncId) (caps : Array Value) (m : Nat) (g : Nat → BitVec 64) : Prop :=
  ∀ (k : Nat) w1, k < m → Below w.heap.size w w1 → Calls Tryd.prog F (#[.int .i64 k] ++ caps) w1 fun e w' => e = .returned (.int .u64 (iv (g k))) ∧ Below w1.heap.size w1 w'

set_option maxRecDepth 8000 in
set_option maxHeartbeats 1000000 in
theorem c_rows (m : Nat) (hm : m ≤ 48) (F : FuncId) (caps : Array Value) (g : Nat → BitVec 64) (w : World) (hgo : Goes F) (hrow : RowIs w F caps m g) :
    Calls Tryd.prog 101 #[.int .i64 m, .func (.func F) #[] caps] w fun e w' => e = .returned (.agg (rcs m (below48 g m))) ∧ Below w.heap.size w w' := by
  have HRow := Lib.hid hrow
  have h5 : RelAt ((w.alloc (.cells (rcs 0 fun _ => 0#64) 53)).alloc (.cells (rcs 0 fun _ => 0#64) 53)) (w.heap.size + 1) 0 (fun _ => 0#64) := by
    have := RelAt.new (w.alloc (.cells (rcs 0 fun _ => 0#64) 53)) 0 (fun _ => 0#64)
    rwa [World.size_alloc] at this
  have h4 : RelAt ((w.alloc (.cells (rcs 0 fun _ => 0#64) 53)).alloc (.cells (rcs 0 fun _ => 0#64) 53)) w.heap.size 0 (fun _ => 0#64) := (RelAt.new w 0 _).alloc _
  have hb : Below w.heap.size w ((w.alloc (.cells (rcs 0 fun _ => 0#64) 53)).alloc (.cells (rcs 0 fun _ => 0#64) 53)) := ((Below.refl _ w).alloc (Nat.le_refl _) _).alloc (by simp) _
  have H5n := Lib.hid (RelAt.new (w.alloc (.cells (rcs 0 fun _ => 0#64) 53)) 0 (fun _ => 0#64))
  have H4 := Lib.hid h4
  have HB := Lib.hid hb
  clear hrow h4 h5 hb
  have HGo := Lib.hid hgo
  clear hgo
  go_enter Tryd.func101, Tryd.ntmps101
  go_wp2_with (first
    | (refine wpList_alloc_rel rfl rfl ?_)
    | (refine wpList_build_rel1 rfl _ rfl _ rfl ?_)
    | (refine wpList_store_rel rfl _ _ rfl rfl rfl H5n.out ?_; intro hr5; rw [World.size_alloc] at hr5; have HR5 := Lib.hid hr5; clear hr5))
  go_loopw [6, 10] (fun _ i wr => ∃ k : Nat, k ≤ m ∧ i = .int .i64 k ∧ RelAt wr (w.heap.size + 1) m (below48 g k) ∧ RelAt wr w.heap.size 0 (fun _ => 0#64) ∧ Below w.heap.size w wr) (fun _ i _ => m - (intOf i).toNat)
  case atStart => exact ⟨0, by omega, rfl, HR5.out, H4.out.setRow (by simp), Below.setRow' HB.out (by simp)⟩
  case round =>
    obtain ⟨k, hk, rfl, hr5, hr4, hbw⟩ := hrel
    have HR5 := Lib.hid hr5
    have HR4 := Lib.hid hr4
    clear hr5 hr4
    by_cases hlt : k < m
    · have hk48 : k < 48 := by omega
      have hgo : ∀ args w, (callFunc F args).run Tryd.prog w = .ok (.enter F args) w := HGo.out
      go_wp2_with (((with_reducible refine (HRow.out k _ hlt hbw).mono ?_); rintro e wn ⟨rfl, hb⟩; have hr5 := HR5.out.below hb HR5.out.lt; have hc5 := hr5.row hk48; have hf5 := hr5.unfrozen (1 + k)))
      have hs := hr5.set hk48 (g k)
      rw [below48_succ] at hs
      refine ⟨⟨k + 1, by omega, by go_num, hs, (HR4.out.below hb (by have := HR5.out.lt; omega)).other (by simp), ((hbw.trans (hb.mono hbw.size)).setCell (by simp) _)⟩, by simp [intOf]; omega⟩
    · have hkn : k = m := by omega
      subst hkn
      go_wp2_with (first
        | (refine wpList_load_rel rfl _ rfl rfl HR5.out ?_)
        | (refine wpList_store_rel rfl _ _ rfl rfl rfl HR4.out ?_; intro hr4; have HR4' := Lib.hid hr4; clear hr4))
      refine ret_rel rfl rfl HR4'.out rfl ?_
      exact ⟨rfl, Below.setRow' hbw (Nat.le_refl _)⟩
end Go.Proofs.YtgegmoedgegkcaaDoor

namespace Go.Proofs.YtgegmoedgegkcaaDoor
open Go.RowKit

theorem RelAt.over {w w' : World} {b : Nat} {n : Int} {f : Nat → BitVec 64} (h : RelAt w b n f) (hb : Below w.heap.size w w') : RelAt w' b n f := h.below hb h.lt

theorem ret_rel2 {fn : Func} {p q : Tmp} {R : Ending → World → Prop} {a : Act} {w : World} {b : Nat} {n : Int} {f : Nat → BitVec 64} {v : Value} (hf : fn.results = #[.cell p 53, .tmp q]) (hp : a.tmps.getD p undef = .pointer (some ⟨b, 0, none⟩)) (hR : RelAt w b n f)
    (hq : a.tmps.getD q undef = v) (hd : a.defers = []) (h : R (.returned (.tuple #[.agg (rcs n f), v])) w) : bodyPost Tryd.prog fn R .ret a w := by
  refine bodyPost_ret ?_ hd h
  have hp' : a.tmps[p]?.getD undef = .pointer (some ⟨b, 0, none⟩) := by simpa using hp
  have hq' : a.tmps[q]?.getD undef = v := by simpa using hq
  simp [results, hf, hp', hq', asAddr, hR.load]

def twoOk (n m : Int) (f g : Nat → BitVec 64) : Bool := right n f && right m g && (n == m)
/-- What 'two' answers: the rows of h if both are right and of as many things; else the zero relation and ErrArg. -/
def twoV (n m : Int) (f g h : Nat → BitVec 64) : Value :=
  if twoOk n m f g then .tuple #[.agg (rcs n (below48 h n.toNat)), .int .i64 0] else .tuple #[.agg (rcs 0 fun _ => 0#64), .int .i64 2]

theorem right_range {n : Int} {f : Nat → BitVec 64} (h : right n f = true) : 0 ≤ n ∧ n ≤ 48 := by
  unfold right at h
  simp only [Bool.and_eq_true, decide_eq_true_eq] at h
  exact h.1
theorem RowIs.over {w w' : World} {F : FuncId} {caps : Array Value} {m : Nat} {g : Nat → BitVec 64} (h : RowIs w F caps m g) (hb : Below w.heap.size w w') : RowIs w' F caps m g :=
  fun k w1 hk hb1 => h k w1 hk (Below.chain hb hb1)
theorem three_boxes (w : World) (c1 c2 c3 : Array Value) : Below w.heap.size w (((w.alloc (.cells c1 53)).alloc (.cells c2 53)).alloc (.cells c3 53)) :=
  (((Below.refl _ w).alloc (Nat.le_refl _) _).alloc (by simp) _).alloc (by simp; omega) _

set_option maxRecDepth 8000 in
set_option maxHeartbeats 1000000 in
theorem c_two (n m : Int) (f g h : Nat → BitVec 64) (F : FuncId) (caps : Array Value) (w : World) (hgo : Goes F) (hrow : right n f = true → RowIs w F caps n.toNat h) :
    Calls Tryd.prog 110 #[.agg (rcs n f), .agg (rcs m g), .func (.func F) #[] caps] w fun e w' => e = .returned (twoV n m f g h) ∧ Below w.heap.size w w' := by
  have HRow := Lib.hid hrow
  have HGo := Lib.hid hgo
  have h3 : RelAt (((w.alloc (.cells (rcs n f) 53)).alloc (.cells (rcs m g) 53)).alloc (.cells (rcs 0 fun _ => 0#64) 53)) w.heap.size n f := ((RelAt.new w n f).alloc _).alloc _
  have h4 : RelAt (((w.alloc (.cells (rcs n f) 53)).alloc (.cells (rcs m g) 53)).alloc (.cells (rcs 0 fun _ => 0#64) 53)) (w.heap.size + 1) m g := by
    have := (RelAt.new (w.alloc (.cells (rcs n f) 53)) m g).alloc (.cells (rcs 0 fun _ => 0#64) 53)
    rwa [World.size_alloc] at this
  have h6 : RelAt (((w.alloc (.cells (rcs n f) 53)).alloc (.cells (rcs m g) 53)).alloc (.cells (rcs 0 fun _ => 0#64) 53)) (w.heap.size + 1 + 1) 0 (fun _ => 0#64) := by
    have := RelAt.new ((w.alloc (.cells (rcs n f) 53)).alloc (.cells (rcs m g) 53)) 0 (fun _ => 0#64)
    rwa [World.size_alloc, World.size_alloc] at this
  have HB := Lib.hid (three_boxes w (rcs n f) (rcs m g) (rcs 0 fun _ => 0#64))
  have H3 := Lib.hid h3
  have H4 := Lib.hid h4
  have H6 := Lib.hid h6
  clear hrow hgo h3 h4 h6
  go_enter Tryd.func110, Tryd.ntmps110
  go_upto_region 1 with (refine wpList_alloc_rel rfl rfl ?_)
  generalize ((w.alloc (.cells (rcs n f) 53)).alloc (.cells (rcs m g) 53)).alloc (.cells (rcs 0 fun _ => 0#64) 53) = wb at *
  obtain ⟨b, hb0, hle⟩ : ∃ b, w.heap.size = b ∧ w.heap.size ≤ b := ⟨_, rfl, Nat.le_refl _⟩
  rw [hb0] at H3 H4 H6 ⊢
  clear hb0
  have HN3 := H3
  have HN4 := H4
  have hn3 := H3.out.n_cell
  have hn4 := H4.out.n_cell
  have HBb := Lib.hid (Below.refl wb.heap.size wb)
  cases hRf : right n f with
  | false =>
    have HA := Lib.hid (show ∀ w, Calls Tryd.prog 83 #[.agg (rcs n f)] w fun e w' => e = .returned (.bool false) ∧ Below w.heap.size w w' from fun w => hRf ▸ c_Right n f w)
    have HV := Lib.hid (show twoV n m f g h = .tuple #[.agg (rcs 0 fun _ => 0#64), .int .i64 2] by unfold twoV twoOk; rw [hRf]; rfl)
    clear hRf
    go_wp2_with (first | (refine wpList_load_rel rfl _ rfl rfl (by first | exact Hid.out (by assumption) | exact RelAt.over (Hid.out (by assumption)) (by assumption)) ?_) | (refine wpList_load_rel_g _ rfl rfl (by rfl) (by first | exact Hid.out (by assumption) | exact RelAt.over (Hid.out (by assumption)) (by assumption)) ?_) | (refine wpList_build_rel0 rfl rfl ?_) | (refine wpList_store_rel rfl _ _ rfl rfl rfl (by first | exact Hid.out (by assumption) | exact RelAt.over (Hid.out (by assumption)) (by assumption)) ?_; intro hr6; have HR6 := Lib.hid hr6; clear hr6) | (go_at_call 83; (with_reducible refine (HA.out _).mono ?_); rintro e wn ⟨rfl, hb⟩; have hn3 := (HN3.out.over hb).n_cell; have hn4 := (HN4.out.over hb).n_cell))
    refine ret_rel2 rfl rfl HR6.out rfl rfl ?_
    refine ⟨by rw [HV.out]; rfl, Below.setRow' (Below.chain HB.out hb) (by omega)⟩
  | true =>
    obtain ⟨h0, h48⟩ := right_range hRf
    have HA := Lib.hid (show ∀ w, Calls Tryd.prog 83 #[.agg (rcs n f)] w fun e w' => e = .returned (.bool true) ∧ Below w.heap.size w w' from fun w => hRf ▸ c_Right n f w)
    cases hRg : right m g with
    | false =>
      have HC := Lib.hid (show ∀ w, Calls Tryd.prog 83 #[.agg (rcs m g)] w fun e w' => e = .returned (.bool false) ∧ Below w.heap.size w w' from fun w => hRg ▸ c_Right m g w)
      have HV := Lib.hid (show twoV n m f g h = .tuple #[.agg (rcs 0 fun _ => 0#64), .int .i64 2] by unfold twoV twoOk; rw [hRg, Bool.and_false]; rfl)
      clear hRf hRg
      go_wp2_with (first | (refine wpList_load_rel rfl _ rfl rfl (by first | exact Hid.out (by assumption) | exact RelAt.over (Hid.out (by assumption)) (by assumption)) ?_) | (refine wpList_load_rel_g _ rfl rfl (by rfl) (by first | exact Hid.out (by assumption) | exact RelAt.over (Hid.out (by assumption)) (by assumption)) ?_) | (refine wpList_build_rel0 rfl rfl ?_) | (refine wpList_store_rel rfl _ _ rfl rfl rfl (by first | exact Hid.out (by assumption) | exact RelAt.over (Hid.out (by assumption)) (by assumption)) ?_; intro hr6; have HR6 := Lib.hid hr6; clear hr6) | (go_at_call 83; (with_reducible refine (HA.out _).mono ?_); rintro e wn ⟨rfl, hb⟩; have hn3 := (HN3.out.over hb).n_cell; have hn4 := (HN4.out.over hb).n_cell) | (go_at_call 83; (with_reducible refine (HC.out _).mono ?_); rintro e wm ⟨rfl, hb2⟩; have hb3 := hb.trans (hb2.mono hb.size); clear hb; have hb := hb3; clear hb3; have hn3 := (HN3.out.over hb).n_cell; have hn4 := (HN4.out.over hb).n_cell))
      refine ret_rel2 rfl rfl HR6.out rfl rfl ?_
      refine ⟨by rw [HV.out]; rfl, Below.setRow' (Below.chain HB.out hb) (by omega)⟩
    | true =>
      have HC := Lib.hid (show ∀ w, Calls Tryd.prog 83 #[.agg (rcs m g)] w fun e w' => e = .returned (.bool true) ∧ Below w.heap.size w w' from fun w => hRg ▸ c_Right m g w)
      by_cases hnm : n = m
      · subst hnm
        obtain ⟨k, rfl⟩ : ∃ k : Nat, n = k := ⟨n.toNat, (Int.toNat_of_nonneg h0).symm⟩
        have HV := Lib.hid (show twoV k k f g h = .tuple #[.agg (rcs k (below48 h k)), .int .i64 0] by unfold twoV twoOk; rw [hRf, hRg]; simp)
        have HRK := Lib.hid (show RowIs w F caps k h from HRow.out hRf)
        clear hRf hRg
        go_wp2_with (first | (refine wpList_load_rel rfl _ rfl rfl (by first | exact Hid.out (by assumption) | exact RelAt.over (Hid.out (by assumption)) (by assumption)) ?_) | (refine wpList_load_rel_g _ rfl rfl (by rfl) (by first | exact Hid.out (by assumption) | exact RelAt.over (Hid.out (by assumption)) (by assumption)) ?_) | (refine wpList_build_rel0 rfl rfl ?_) | (refine wpList_store_rel rfl _ _ rfl rfl rfl (by first | exact Hid.out (by assumption) | exact RelAt.over (Hid.out (by assumption)) (by assumption)) ?_; intro hr6; have HR6 := Lib.hid hr6; clear hr6) | (go_at_call 83; (with_reducible refine (HA.out _).mono ?_); rintro e wn ⟨rfl, hb⟩; have hn3 := (HN3.out.over hb).n_cell; have hn4 := (HN4.out.over hb).n_cell) | (go_at_call 83; (with_reducible refine (HC.out _).mono ?_); rintro e wm ⟨rfl, hb2⟩; have hb3 := hb.trans (hb2.mono hb.size); clear hb; have hb := hb3; clear hb3; have hn3 := (HN3.out.over hb).n_cell; have hn4 := (HN4.out.over hb).n_cell) | (go_at_call 101; (with_reducible refine (c_rows k (by omega) F caps h _ HGo.out (RowIs.over HRK.out (Below.chain HB.out hb))).mono ?_); rintro e wz ⟨rfl, hb4⟩; have hb5 := hb.trans (hb4.mono hb.size); clear hb; have hb := hb5; clear hb5))
        refine ret_rel2 rfl rfl HR6.out rfl rfl ?_
        refine ⟨by rw [HV.out]; rfl, Below.setRow' (Below.chain HB.out hb) (by omega)⟩
      · have HV := Lib.hid (show twoV n m f g h = .tuple #[.agg (rcs 0 fun _ => 0#64), .int .i64 2] by unfold twoV twoOk; rw [hRf, hRg, beq_eq_false_iff_ne.2 hnm]; rfl)
        have hne : (n != m) = true := bne_iff_ne.2 hnm
        clear hRf hRg
        go_wp2_with (first | (refine wpList_load_rel rfl _ rfl rfl (by first | exact Hid.out (by assumption) | exact RelAt.over (Hid.out (by assumption)) (by assumption)) ?_) | (refine wpList_load_rel_g _ rfl rfl (by rfl) (by first | exact Hid.out (by assumption) | exact RelAt.over (Hid.out (by assumption)) (by assumption)) ?_) | (refine wpList_build_rel0 rfl rfl ?_) | (refine wpList_store_rel rfl _ _ rfl rfl rfl (by first | exact Hid.out (by assumption) | exact RelAt.over (Hid.out (by assumption)) (by assumption)) ?_; intro hr6; have HR6 := Lib.hid hr6; clear hr6) | (go_at_call 83; (with_reducible refine (HA.out _).mono ?_); rintro e wn ⟨rfl, hb⟩; have hn3 := (HN3.out.over hb).n_cell; have hn4 := (HN4.out.over hb).n_cell) | (go_at_call 83; (with_reducible refine (HC.out _).mono ?_); rintro e wm ⟨rfl, hb2⟩; have hb3 := hb.trans (hb2.mono hb.size); clear hb; have hb := hb3; clear hb3; have hn3 := (HN3.out.over hb).n_cell; have hn4 := (HN4.out.over hb).n_cell))
        refine ret_rel2 rfl rfl HR6.out rfl rfl ?_
        refine ⟨by rw [HV.out]; rfl, Below.setRow' (Below.chain HB.out hb) (by omega)⟩

theorem goes118 : Goes 118 := goes Tryd.func118 (by kernel_rfl) rfl
set_option maxRecDepth 8000 in
theorem c_Union1 (n m : Int) (f g : Nat → BitVec 64) (b c k : Nat) (hk : k < 48) (w : World) (h1 : RelAt w b n f) (h2 : RelAt w c m g) :
    Calls Tryd.prog 118 #[.int .i64 k, .pointer (some ⟨b, 0, none⟩), .pointer (some ⟨c, 0, none⟩)] w fun e w' => e = .returned (.int .u64 (iv (f k |||g k))) ∧ Below w.heap.size w w' := by
  have hc1 := h1.row hk
  have hc2 := h2.row hk
  clear h1 h2
  go_enter Tryd.func118, Tryd.ntmps118
  go_wp2
  go_quiet (fail)
  go_wp2
  go_ret
  exact ⟨rfl, below_drewN (Below.refl _ _) _⟩
set_option maxRecDepth 8000 in
theorem c_Union (n m : Int) (f g : Nat → BitVec 64) (w : World) :
    Calls Tryd.prog 67 #[.agg (rcs n f), .agg (rcs m g)] w fun e w' => e = .returned (twoV n m f g fun k => f k |||g k) ∧ Below w.heap.size w w' := by
  have h3 : RelAt (((w.alloc (.cells (rcs n f) 53)).alloc (.cells (rcs m g) 53)).alloc (.cells (rcs 0 fun _ => 0#64) 53)) w.heap.size n f := ((RelAt.new w n f).alloc _).alloc _
  have h4 : RelAt (((w.alloc (.cells (rcs n f) 53)).alloc (.cells (rcs m g) 53)).alloc (.cells (rcs 0 fun _ => 0#64) 53)) (w.heap.size + 1) m g := by
    have := (RelAt.new (w.alloc (.cells (rcs n f) 53)) m g).alloc (.cells (rcs 0 fun _ => 0#64) 53)
    rwa [World.size_alloc] at this
  have h6 : RelAt (((w.alloc (.cells (rcs n f) 53)).alloc (.cells (rcs m g) 53)).alloc (.cells (rcs 0 fun _ => 0#64) 53)) (w.heap.size + 1 + 1) 0 (fun _ => 0#64) := by
    have := RelAt.new ((w.alloc (.cells (rcs n f) 53)).alloc (.cells (rcs m g) 53)) 0 (fun _ => 0#64)
    rwa [World.size_alloc, World.size_alloc] at this
  have HB := Lib.hid (three_boxes w (rcs n f) (rcs m g) (rcs 0 fun _ => 0#64))
  have H3 := Lib.hid h3
  have H4 := Lib.hid h4
  have H6 := Lib.hid h6
  clear h3 h4 h6
  go_enter Tryd.func67, Tryd.ntmps67
  go_upto_region 1 with (refine wpList_alloc_rel rfl rfl ?_)
  generalize ((w.alloc (.cells (rcs n f) 53)).alloc (.cells (rcs m g) 53)).alloc (.cells (rcs 0 fun _ => 0#64) 53) = wb at *
  obtain ⟨b, hb0, hle⟩ : ∃ b, w.heap.size = b ∧ w.heap.size ≤ b := ⟨_, rfl, Nat.le_refl _⟩
  rw [hb0] at H3 H4 H6 ⊢
  clear hb0
  have HT := Lib.hid (c_two n m f g (fun k => f k |||g k) 118 #[.pointer (some ⟨b, 0, none⟩), .pointer (some ⟨b + 1, 0, none⟩)] wb goes118 (fun hr k w1 hk hb1 => by
    have := right_range hr
    exact c_Union1 n m f g b (b + 1) k (by omega) w1 (H3.out.over hb1) (H4.out.over hb1)))
  obtain ⟨N, H, E, hE⟩ : ∃ (N : Int) (H : Nat → BitVec 64) (E : Int), twoV n m f g (fun k => f k |||g k) = .tuple #[.agg (rcs N H), .int .i64 E] := by
    unfold twoV; split <;> exact ⟨_, _, _, rfl⟩
  rw [hE] at HT
  have HE := Lib.hid hE
  clear hE
  have HBb := Lib.hid (Below.refl wb.heap.size wb)
  go_wp2_with (first | (refine wpList_load_rel rfl _ rfl rfl (by first | exact Hid.out (by assumption) | exact RelAt.over (Hid.out (by assumption)) (by assumption)) ?_) | (refine wpList_load_rel_g _ rfl rfl (by rfl) (by first | exact Hid.out (by assumption) | exact RelAt.over (Hid.out (by assumption)) (by assumption)) ?_) | (go_at_call 110; (with_reducible refine HT.out.mono ?_); rintro e wn ⟨rfl, hb⟩) | (refine wpList_store_rel rfl _ _ rfl rfl rfl (by first | exact Hid.out (by assumption) | exact RelAt.over (Hid.out (by assumption)) (by assumption)) ?_; intro hr6; have HR6 := Lib.hid hr6; clear hr6))
  refine ret_rel2 rfl rfl HR6.out rfl rfl ?_
  exact ⟨by rw [HE.out]; rfl, Below.setRow' (Below.chain HB.out hb) (by omega)⟩

theorem goes111 : Goes 111 := goes Tryd.func111 (by kernel_rfl) rfl
set_option maxRecDepth 8000 in
theorem c_Both1 (n m : Int) (f g : Nat → BitVec 64) (b c k : Nat) (hk : k < 48) (w : World) (h1 : RelAt w b n f) (h2 : RelAt w c m g) :
    Calls Tryd.prog 111 #[.int .i64 k, .pointer (some ⟨b, 0, none⟩), .pointer (some ⟨c, 0, none⟩)] w fun e w' => e = .returned (.int .u64 (iv (f k &&&g k))) ∧ Below w.heap.size w w' := by
  have hc1 := h1.row hk
  have hc2 := h2.row hk
  clear h1 h2
  go_enter Tryd.func111, Tryd.ntmps111
  go_wp2
  go_quiet (fail)
  go_wp2
  go_ret
  exact ⟨rfl, below_drewN (Below.refl _ _) _⟩
set_option maxRecDepth 8000 in
theorem c_Both (n m : Int) (f g : Nat → BitVec 64) (w : World) :
    Calls Tryd.prog 52 #[.agg (rcs n f), .agg (rcs m g)] w fun e w' => e = .returned (twoV n m f g fun k => f k &&&g k) ∧ Below w.heap.size w w' := by
  have h3 : RelAt (((w.alloc (.cells (rcs n f) 53)).alloc (.cells (rcs m g) 53)).alloc (.cells (rcs 0 fun _ => 0#64) 53)) w.heap.size n f := ((RelAt.new w n f).alloc _).alloc _
  have h4 : RelAt (((w.alloc (.cells (rcs n f) 53)).alloc (.cells (rcs m g) 53)).alloc (.cells (rcs 0 fun _ => 0#64) 53)) (w.heap.size + 1) m g := by
    have := (RelAt.new (w.alloc (.cells (rcs n f) 53)) m g).alloc (.cells (rcs 0 fun _ => 0#64) 53)
    rwa [World.size_alloc] at this
  have h6 : RelAt (((w.alloc (.cells (rcs n f) 53)).alloc (.cells (rcs m g) 53)).alloc (.cells (rcs 0 fun _ => 0#64) 53)) (w.heap.size + 1 + 1) 0 (fun _ => 0#64) := by
    have := RelAt.new ((w.alloc (.cells (rcs n f) 53)).alloc (.cells (rcs m g) 53)) 0 (fun _ => 0#64)
    rwa [World.size_alloc, World.size_alloc] at this
  have HB := Lib.hid (three_boxes w (rcs n f) (rcs m g) (rcs 0 fun _ => 0#64))
  have H3 := Lib.hid h3
  have H4 := Lib.hid h4
  have H6 := Lib.hid h6
  clear h3 h4 h6
  go_enter Tryd.func52, Tryd.ntmps52
  go_upto_region 1 with (refine wpList_alloc_rel rfl rfl ?_)
  generalize ((w.alloc (.cells (rcs n f) 53)).alloc (.cells (rcs m g) 53)).alloc (.cells (rcs 0 fun _ => 0#64) 53) = wb at *
  obtain ⟨b, hb0, hle⟩ : ∃ b, w.heap.size = b ∧ w.heap.size ≤ b := ⟨_, rfl, Nat.le_refl _⟩
  rw [hb0] at H3 H4 H6 ⊢
  clear hb0
  have HT := Lib.hid (c_two n m f g (fun k => f k &&&g k) 111 #[.pointer (some ⟨b, 0, none⟩), .pointer (some ⟨b + 1, 0, none⟩)] wb goes111 (fun hr k w1 hk hb1 => by
    have := right_range hr
    exact c_Both1 n m f g b (b + 1) k (by omega) w1 (H3.out.over hb1) (H4.out.over hb1)))
  obtain ⟨N, H, E, hE⟩ : ∃ (N : Int) (H : Nat → BitVec 64) (E : Int), twoV n m f g (fun k => f k &&&g k) = .tuple #[.agg (rcs N H), .int .i64 E] := by
    unfold twoV; split <;> exact ⟨_, _, _, rfl⟩
  rw [hE] at HT
  have HE := Lib.hid hE
  clear hE
  have HBb := Lib.hid (Below.refl wb.heap.size wb)
  go_wp2_with (first | (refine wpList_load_rel rfl _ rfl rfl (by first | exact Hid.out (by assumption) | exact RelAt.over (Hid.out (by assumption)) (by assumption)) ?_) | (refine wpList_load_rel_g _ rfl rfl (by rfl) (by first | exact Hid.out (by assumption) | exact RelAt.over (Hid.out (by assumption)) (by assumption)) ?_) | (go_at_call 110; (with_reducible refine HT.out.mono ?_); rintro e wn ⟨rfl, hb⟩) | (refine wpList_store_rel rfl _ _ rfl rfl rfl (by first | exact Hid.out (by assumption) | exact RelAt.over (Hid.out (by assumption)) (by assumption)) ?_; intro hr6; have HR6 := Lib.hid hr6; clear hr6))
  refine ret_rel2 rfl rfl HR6.out rfl rfl ?_
  exact ⟨by rw [HE.out]; rfl, Below.setRow' (Below.chain HB.out hb) (by omega)⟩

theorem goes120 : Goes 120 := goes Tryd.func120 (by kernel_rfl) rfl
set_option maxRecDepth 8000 in
theorem c_Less1 (n m : Int) (f g : Nat → BitVec 64) (b c k : Nat) (hk : k < 48) (w : World) (h1 : RelAt w b n f) (h2 : RelAt w c m g) :
    Calls Tryd.prog 120 #[.int .i64 k, .pointer (some ⟨b, 0, none⟩), .pointer (some ⟨c, 0, none⟩)] w fun e w' => e = .returned (.int .u64 (iv (f k &&& ~~~g k))) ∧ Below w.heap.size w w' := by
  have hc1 := h1.row hk
  have hc2 := h2.row hk
  clear h1 h2
  go_enter Tryd.func120, Tryd.ntmps120
  go_wp2
  go_quiet (fail)
  go_wp2
  go_ret
  exact ⟨rfl, below_drewN (Below.refl _ _) _⟩
set_option maxRecDepth 8000 in
theorem c_Less (n m : Int) (f g : Nat → BitVec 64) (w : World) :
    Calls Tryd.prog 71 #[.agg (rcs n f), .agg (rcs m g)] w fun e w' => e = .returned (twoV n m f g fun k => f k &&& ~~~g k) ∧ Below w.heap.size w w' := by
  have h3 : RelAt (((w.alloc (.cells (rcs n f) 53)).alloc (.cells (rcs m g) 53)).alloc (.cells (rcs 0 fun _ => 0#64) 53)) w.heap.size n f := ((RelAt.new w n f).alloc _).alloc _
  have h4 : RelAt (((w.alloc (.cells (rcs n f) 53)).alloc (.cells (rcs m g) 53)).alloc (.cells (rcs 0 fun _ => 0#64) 53)) (w.heap.size + 1) m g := by
    have := (RelAt.new (w.alloc (.cells (rcs n f) 53)) m g).alloc (.cells (rcs 0 fun _ => 0#64) 53)
    rwa [World.size_alloc] at this
  have h6 : RelAt (((w.alloc (.cells (rcs n f) 53)).alloc (.cells (rcs m g) 53)).alloc (.cells (rcs 0 fun _ => 0#64) 53)) (w.heap.size + 1 + 1) 0 (fun _ => 0#64) := by
    have := RelAt.new ((w.alloc (.cells (rcs n f) 53)).alloc (.cells (rcs m g) 53)) 0 (fun _ => 0#64)
    rwa [World.size_alloc, World.size_alloc] at this
  have HB := Lib.hid (three_boxes w (rcs n f) (rcs m g) (rcs 0 fun _ => 0#64))
  have H3 := Lib.hid h3
  have H4 := Lib.hid h4
  have H6 := Lib.hid h6
  clear h3 h4 h6
  go_enter Tryd.func71, Tryd.ntmps71
  go_upto_region 1 with (refine wpList_alloc_rel rfl rfl ?_)
  generalize ((w.alloc (.cells (rcs n f) 53)).alloc (.cells (rcs m g) 53)).alloc (.cells (rcs 0 fun _ => 0#64) 53) = wb at *
  obtain ⟨b, hb0, hle⟩ : ∃ b, w.heap.size = b ∧ w.heap.size ≤ b := ⟨_, rfl, Nat.le_refl _⟩
  rw [hb0] at H3 H4 H6 ⊢
  clear hb0
  have HT := Lib.hid (c_two n m f g (fun k => f k &&& ~~~g k) 120 #[.pointer (some ⟨b, 0, none⟩), .pointer (some ⟨b + 1, 0, none⟩)] wb goes120 (fun hr k w1 hk hb1 => by
    have := right_range hr
    exact c_Less1 n m f g b (b + 1) k (by omega) w1 (H3.out.over hb1) (H4.out.over hb1)))
  obtain ⟨N, H, E, hE⟩ : ∃ (N : Int) (H : Nat → BitVec 64) (E : Int), twoV n m f g (fun k => f k &&& ~~~g k) = .tuple #[.agg (rcs N H), .int .i64 E] := by
    unfold twoV; split <;> exact ⟨_, _, _, rfl⟩
  rw [hE] at HT
  have HE := Lib.hid hE
  clear hE
  have HBb := Lib.hid (Below.refl wb.heap.size wb)
  go_wp2_with (first | (refine wpList_load_rel rfl _ rfl rfl (by first | exact Hid.out (by assumption) | exact RelAt.over (Hid.out (by assumption)) (by assumption)) ?_) | (refine wpList_load_rel_g _ rfl rfl (by rfl) (by first | exact Hid.out (by assumption) | exact RelAt.over (Hid.out (by assumption)) (by assumption)) ?_) | (go_at_call 110; (with_reducible refine HT.out.mono ?_); rintro e wn ⟨rfl, hb⟩) | (refine wpList_store_rel rfl _ _ rfl rfl rfl (by first | exact Hid.out (by assumption) | exact RelAt.over (Hid.out (by assumption)) (by assumption)) ?_; intro hr6; have HR6 := Lib.hid hr6; clear hr6))
  refine ret_rel2 rfl rfl HR6.out rfl rfl ?_
  exact ⟨by rw [HE.out]; rfl, Below.setRow' (Below.chain HB.out hb) (by omega)⟩
end Go.Proofs.YtgegmoedgegkcaaDoor

namespace Go.Proofs.YtgegmoedgegkcaaDoor
open Go.RowKit

theorem Tab.bel {w w' : World} (hb : Below w.heap.size w w') (h : Tab w) : Tab w' := h.below hb
theorem cs_List (s : BitVec 64) (m : Nat) (hm : (Mk.elems s).length = m) (w : World) (hT : Tab w) : Calls Tryd.prog 30 #[.int .u64 (iv s)] w fun e w' =>
    ∃ ad cap, e = .returned (.slice ad m cap) ∧ SlAt w' w'.heap.size ad (vn (Mk.elems s)) ∧ Below w.heap.size w w' := by
  refine (c_List s w hT).mono fun e w' ⟨v, he, ho, hb⟩ => ?_
  obtain ⟨ad, cap, rfl, hs⟩ := SlAt.of_owns ho
  exact ⟨ad, cap, by rw [← hm]; exact he, hs, hb⟩

def orRows (f : Nat → BitVec 64) (l : List Nat) : BitVec 64 := l.foldl (fun s a => s ||| f a) 0#64
/-- What one comes to from a set by one step. -/
def stp (f : Nat → BitVec 64) (s : BitVec 64) : BitVec 64 := orRows f (Mk.elems s)
theorem orRows_succ (f : Nat → BitVec 64) {l : List Nat} {k : Nat} (hk : k < l.length) : orRows f (l.take (k + 1)) = orRows f (l.take k) ||| f l[k] := by
  unfold orRows
  rw [List.take_succ_eq_append_getElem hk, List.foldl_append]; rfl

set_option maxRecDepth 8000 in
set_option maxHeartbeats 1000000 in
theorem c_step (n : Int) (f : Nat → BitVec 64) (s : BitVec 64) (hs : ∀ x ∈ Mk.elems s, x < 48) (w : World) (hT : Tab w) :
    Calls Tryd.prog 103 #[.agg (rcs n f), .int .u64 (iv s)] w fun e w' => e = .returned (.int .u64 (iv (stp f s))) ∧ Below w.heap.size w w' := by
  have hnew := RelAt.new w n f
  have hbel := (Below.refl w.heap.size w).alloc (Nat.le_refl _) (.cells (rcs n f) 53)
  have HTw := Lib.hid (hT.alloc (.cells (rcs n f) 53))
  have HR := Lib.hid hnew
  have HB := Lib.hid hbel
  obtain ⟨m, hm⟩ : ∃ m, (Mk.elems s).length = m := ⟨_, rfl⟩
  have hm64 : m ≤ 64 := hm ▸ Mk.elems_length_le s
  have HS := Lib.hid hs
  have HM := Lib.hid hm
  clear hnew hbel hT hm hs
  go_enter Tryd.func103, Tryd.ntmps103
  go_upto_region 1 with (fail)
  generalize w.alloc (.cells (rcs n f) 53) = wb at *
  obtain ⟨b, hb0, hle⟩ : ∃ b, w.heap.size = b ∧ w.heap.size ≤ b := ⟨_, rfl, Nat.le_refl _⟩
  rw [hb0] at HR ⊢
  clear hb0
  go_wp2_with (go_at_call 30; (with_reducible refine (cs_List s m HM.out _ HTw.out).mono ?_); rintro e w1 ⟨ad, cap, rfl, hsl, hb⟩; have HSL := Lib.hid hsl; clear hsl)
  go_loopw [5, 7, 11] (fun u _ i wr => ∃ k : Nat, k ≤ m ∧ i = .int .i64 k ∧ u = .int .u64 (iv (orRows f ((Mk.elems s).take k))) ∧ wr = w1) (fun _ _ i _ => m - (intOf i).toNat)
  case atStart => exact ⟨0, by omega, rfl, rfl, rfl⟩
  case round =>
    obtain ⟨k, hk, rfl, rfl, rfl⟩ := hrel
    by_cases hlt : k < m
    · have hkl : k < (Mk.elems s).length := by have := HM.out; omega
      obtain ⟨c, off, rfl, hclt, hc⟩ := HSL.out.nat hkl
      have hx48 := HS.out _ (List.getElem_mem hkl)
      have hor := orRows_succ f hkl
      obtain ⟨x, hx⟩ : ∃ x, x = (Mk.elems s)[k] := ⟨_, rfl⟩
      rw [← hx] at hc hor hx48
      have hrow := (HR.out.over hb).row hx48
      have HO := Lib.hid hor
      clear hor hx
      go_wp2
      go_roundw
      case rel => exact ⟨k + 1, by omega, by go_num, by rw [HO.out], trivial⟩
      case measure => simp [intOf]; omega
    · have hkn : (Mk.elems s).take k = Mk.elems s := List.take_of_length_le (by have := HM.out; omega)
      rw [hkn]
      have HV := Lib.hid (show orRows f (Mk.elems s) = stp f s from rfl)
      clear hkn
      go_wp2
      go_ret
      exact ⟨by rw [← HV.out]; rfl, Below.chain HB.out hb⟩

theorem elems_right {n : Int} {f : Nat → BitVec 64} (h : right n f = true) {k : Nat} (hk : k < 48) : ∀ x ∈ Mk.elems (f k), (x : Int) < n := by
  unfold right at h
  simp only [Bool.and_eq_true, decide_eq_true_eq] at h
  have h1 := List.all_eq_true.1 h.2 k (List.mem_range.2 hk)
  unfold rowOk at h1
  simp only [Bool.and_eq_true] at h1
  intro x hx
  have h2 := eq_of_beq h1.1
  have h3 : has (f k &&& ~~~ mall n) x = false := by rw [h2, has_zero]
  rw [Mk.mem_elems] at hx
  rw [show has (f k &&& ~~~ mall n) x = ((f k).getLsbD x && (~~~ mall n).getLsbD x) from BitVec.getLsbD_and, hx, Bool.true_and] at h3
  have h4 := has_not (mall n) x
  unfold has at h4
  rw [h4] at h3
  rw [show (mall n).getLsbD x = _ from has_mall n x] at h3
  have h5 : x < 64 := by
    by_cases h : x < 64
    · exact h
    · rw [BitVec.getLsbD_of_ge _ _ (by omega)] at hx; cases hx
  simp only [h5, decide_true, Bool.true_and, Bool.not_eq_false', decide_eq_true_eq] at h3
  exact h3

/-- The load of a whole relation, as a step of a calm region. -/
theorem calm_load_rel {ops : Array Oper} {C : World → Prop} {o : Oper} {a : Act} {K : Act → Prop} {b : Nat} {n : Int} {f : Nat → BitVec 64} (hgd : o.guard = none) (x : Operand) (ho : o.op = .load 53 x)
    (hx : a.eval x = .pointer (some ⟨b, 0, none⟩)) (hR : ∀ w, C w → RelAt w b n f) (h : K (a.put o.dst (.agg (rcs n f)))) : if Region.wanted o (yielded ops a.tmps) = true then Calm Tryd.prog o a C K else K (a.put o.dst undef) := by
  rw [if_pos (by simp [Region.wanted, hgd])]
  refine Calm.of ⟨.agg (rcs n f), fun w hC => ?_, h⟩
  unfold Oper.quietAt execOp
  simp only [ho, hx, Instr.loadAt, Instr.sureAddr, Sem.run_bind, Sem.run_pure, Result.andThen_ok, (hR w hC).load, Oper.quietUpon, and_self]

theorem goes116 : Goes 116 := goes Tryd.func116 (by kernel_rfl) rfl
set_option maxRecDepth 8000 in
theorem c_Then1 (n m : Int) (f g : Nat → BitVec 64) (b c k : Nat) (hk : k < 48) (hs : ∀ x ∈ Mk.elems (f k), x < 48) (w : World) (hT : Tab w) (h1 : RelAt w b m g) (h2 : RelAt w c n f) :
    Calls Tryd.prog 116 #[.int .i64 k, .pointer (some ⟨b, 0, none⟩), .pointer (some ⟨c, 0, none⟩)] w fun e w' => e = .returned (.int .u64 (iv (stp g (f k)))) ∧ Below w.heap.size w w' := by
  have H1 := Lib.hid h1
  have H2 := Lib.hid h2
  have HS := Lib.hid hs
  have HT := Lib.hid hT
  clear h1 h2 hs hT
  go_enter Tryd.func116, Tryd.ntmps116
  go_wp2
  (refine wp_region_calm (by kernel_rfl) (by kernel_rfl) ?_; (repeat (first | ((refine calm_step (fun K hK => ?_)); (refine calm_load_rel rfl _ rfl rfl (fun w hC => H1.out.over hC) ?_); refine hK _ ?_; clear hK K) | ((refine calm_step (fun K hK => ?_)); go_simp; (first | (refine hK _ ?_; clear hK K) | (refine Calm.of ?_; apply Exists.intro; refine ⟨fun wcalm hcalm => ?_, hK _ ?_⟩; (focus (((have hc := (H2.out.over hcalm).row hk; have hki : (k : Int) < 48 := by omega)); go_simp; first | done | ((go_at_call 103; with_reducible exact calm_below hcalm (c_step m g (f k) HS.out _ (Tab.bel hcalm HT.out)))) | rfl)); clear hK K))))); refine calm_nil ?_; intro wq hq)
  go_wp2
  go_ret
  exact ⟨rfl, hq⟩
set_option maxRecDepth 8000 in
theorem c_Then (n m : Int) (f g : Nat → BitVec 64) (w : World) (hT : Tab w) :
    Calls Tryd.prog 58 #[.agg (rcs n f), .agg (rcs m g)] w fun e w' => e = .returned (twoV n m f g fun k => stp g (f k)) ∧ Below w.heap.size w w' := by
  have h3 : RelAt (((w.alloc (.cells (rcs n f) 53)).alloc (.cells (rcs m g) 53)).alloc (.cells (rcs 0 fun _ => 0#64) 53)) w.heap.size n f := ((RelAt.new w n f).alloc _).alloc _
  have h4 : RelAt (((w.alloc (.cells (rcs n f) 53)).alloc (.cells (rcs m g) 53)).alloc (.cells (rcs 0 fun _ => 0#64) 53)) (w.heap.size + 1) m g := by
    have := (RelAt.new (w.alloc (.cells (rcs n f) 53)) m g).alloc (.cells (rcs 0 fun _ => 0#64) 53)
    rwa [World.size_alloc] at this
  have h6 : RelAt (((w.alloc (.cells (rcs n f) 53)).alloc (.cells (rcs m g) 53)).alloc (.cells (rcs 0 fun _ => 0#64) 53)) (w.heap.size + 1 + 1) 0 (fun _ => 0#64) := by
    have := RelAt.new ((w.alloc (.cells (rcs n f) 53)).alloc (.cells (rcs m g) 53)) 0 (fun _ => 0#64)
    rwa [World.size_alloc, World.size_alloc] at this
  have HB := Lib.hid (three_boxes w (rcs n f) (rcs m g) (rcs 0 fun _ => 0#64))
  have H3 := Lib.hid h3
  have H4 := Lib.hid h4
  have H6 := Lib.hid h6
  have HTB := Lib.hid hT
  clear h3 h4 h6 hT
  go_enter Tryd.func58, Tryd.ntmps58
  go_upto_region 1 with (refine wpList_alloc_rel rfl rfl ?_)
  generalize ((w.alloc (.cells (rcs n f) 53)).alloc (.cells (rcs m g) 53)).alloc (.cells (rcs 0 fun _ => 0#64) 53) = wb at *
  obtain ⟨b, hb0, hle⟩ : ∃ b, w.heap.size = b ∧ w.heap.size ≤ b := ⟨_, rfl, Nat.le_refl _⟩
  rw [hb0] at H3 H4 H6 ⊢
  clear hb0
  have HT := Lib.hid (c_two n m f g (fun k => stp g (f k)) 116 #[.pointer (some ⟨b + 1, 0, none⟩), .pointer (some ⟨b, 0, none⟩)] wb goes116 (fun hr k w1 hk hb1 => by
    have := right_range hr
    exact c_Then1 n m f g (b + 1) b k (by omega) (fun x hx => by have := elems_right hr (show k < 48 by omega) x hx; omega) w1 (Tab.bel (Below.chain HB.out hb1) HTB.out) (H4.out.over hb1) (H3.out.over hb1)))
  obtain ⟨N, H, E, hE⟩ : ∃ (N : Int) (H : Nat → BitVec 64) (E : Int), twoV n m f g (fun k => stp g (f k)) = .tuple #[.agg (rcs N H), .int .i64 E] := by
    unfold twoV; split <;> exact ⟨_, _, _, rfl⟩
  rw [hE] at HT
  have HE := Lib.hid hE
  clear hE
  have HBb := Lib.hid (Below.refl wb.heap.size wb)
  go_wp2_with (first | (refine wpList_load_rel rfl _ rfl rfl (by first | exact Hid.out (by assumption) | exact RelAt.over (Hid.out (by assumption)) (by assumption)) ?_) | (refine wpList_load_rel_g _ rfl rfl (by rfl) (by first | exact Hid.out (by assumption) | exact RelAt.over (Hid.out (by assumption)) (by assumption)) ?_) | (go_at_call 110; (with_reducible refine HT.out.mono ?_); rintro e wn ⟨rfl, hb⟩) | (refine wpList_store_rel rfl _ _ rfl rfl rfl (by first | exact Hid.out (by assumption) | exact RelAt.over (Hid.out (by assumption)) (by assumption)) ?_; intro hr6; have HR6 := Lib.hid hr6; clear hr6))
  refine ret_rel2 rfl rfl HR6.out rfl rfl ?_
  exact ⟨by rw [HE.out]; rfl, Below.setRow' (Below.chain HB.out hb) (by omega)⟩

end Go.Proofs.YtgegmoedgegkcaaDoor

namespace Go.Proofs.YtgegmoedgegkcaaDoor
open Go.RowKit

def eqRows (f g : Nat → BitVec 64) : Bool := (List.range' 0 48).all fun i => f i == g i
def eqRel (n m : Int) (f g : Nat → BitVec 64) : Bool := n == m && eqRows f g
theorem run_part23 (f : Nat → BitVec 64) {i : Nat} (hi : i < 48) (w : World) : (part 23 (rws f) i).run Tryd.prog w = .ok (.int .u64 (iv (f i))) w := by
  simp [part, isAgg, run_underlying Tryd.underlying23 w, rws_get f hi]
theorem run_eq_rows (d : Nat) (f g : Nat → BitVec 64) (w : World) : (Op.equalIn (d + 2) 51 (.agg (rws f)) (.agg (rws g))).run Tryd.prog w = .ok (eqRows f g) w := by
  have hs : (sizeOf 23).run Tryd.prog w = .ok 1 w := by
    have hs : (Tryd.prog.info? 23).map (·.size) = some 1 := by kernel_rfl
    cases hq : Tryd.prog.info? 23 with
    | none => simp [hq] at hs
    | some i =>
      have hs : i.size = 1 := by simpa [hq] using hs
      simp [sizeOf, typeInfo, hq, hs]
  rw [show d + 2 = (d + 1) + 1 from rfl, Op.equalIn]
  simp only [Sem.run_bind, run_underlying Tryd.underlying51, Result.andThen_ok, hs, Std.Legacy.Range.forIn_eq_forIn_range', Std.Legacy.Range.size, Nat.sub_zero, Nat.add_sub_cancel, Nat.div_one, Nat.mul_one]
  have key : ∀ l : List Nat, (∀ i ∈ l, i < 48) → (Sem.run Tryd.prog (forIn l ((none, ()) : Option Bool × Unit) fun i _ => do
            let a ← part 23 (rws f) i
            let b ← part 23 (rws g) i
            let r ← Op.equalIn (d + 1) 23 a b
            if (!r) = true then pure (ForInStep.done (some false, ())) else pure (ForInStep.yield (none, ()))) w) =
        .ok (if l.all (fun i => f i == g i) then (none, ()) else (some false, ())) w := by
    intro l
    induction l with
    | nil => intro _; simp
    | cons x l ih =>
      intro hl
      have hx := hl x (by simp)
      simp only [List.forIn_cons, Sem.run_bind, run_part23 _ hx, Result.andThen_ok, run_equalIn_int w d 23 .u64 .u64 _ _ Tryd.underlying23]
      have he : (iv (f x) == iv (g x)) = (f x == g x) := set_eq_set _ _
      rw [he]
      cases hb : f x == g x with
      | true =>
        simp only [Bool.not_true, Bool.false_eq_true, if_false, Sem.run_pure, Result.andThen_ok]
        rw [ih fun i hi => hl i (by simp [hi])]
        simp [List.all_cons, hb]
      | false => simp [List.all_cons, hb]
  rw [key _ (fun i hi => by simpa using (List.mem_range'_1.1 hi).2)]
  unfold eqRows
  cases (List.range' 0 48).all fun i => f i == g i <;> simp
theorem rcs_extract (n : Int) (f : Nat → BitVec 64) : (rcs n f).extract 1 49 = rws f := by
  refine Array.ext (by rw [rws_size]; simp [rcs_size]) fun i h1 h2 => ?_
  rw [rws_size] at h2
  have h3 := rws_get f h2
  have h4 := rcs_get n f h2
  rw [Array.getElem_extract]
  exact ((Array.getElem?_eq_some_iff.1 h4).2).trans ((Array.getElem?_eq_some_iff.1 h3).2).symm
theorem run_part3 (n : Int) (f : Nat → BitVec 64) (w : World) : (part 3 (rcs n f) 0).run Tryd.prog w = .ok (.int .i64 n) w := by
  simp [part, isAgg, run_underlying Tryd.underlying3 w, rcs_zero]
theorem run_part51 (n : Int) (f : Nat → BitVec 64) (w : World) : (part 51 (rcs n f) 1).run Tryd.prog w = .ok (.agg (rws f)) w := by
  have hs : (Tryd.prog.info? 51).map (·.size) = some 48 := by kernel_rfl
  cases hq : Tryd.prog.info? 51 with
  | none => simp [hq] at hs
  | some i =>
    have hs : i.size = 48 := by simpa [hq] using hs
    simp [part, isAgg, run_underlying Tryd.underlying51 w, sizeOf, typeInfo, hq, hs, rcs_extract]
theorem run_eq_rel (n m : Int) (f g : Nat → BitVec 64) (w : World) : (Op.equalIn 10000 53 (.agg (rcs n f)) (.agg (rcs m g))).run Tryd.prog w = .ok (eqRel n m f g) w := by
  have hS : Tryd.prog.underlying 53 = some (.struct (Tryd.prog.fieldsOf 53)) := by kernel_rfl
  have hp : Tryd.prog.stoodInHeld 53 = false := by kernel_rfl
  rw [show (10000 : Nat) = 9999 + 1 from rfl, run_equalIn_struct w 9999 53 _ _ hS hp]
  simp only [Program.fieldsOf, Tryd.underlying53]
  simp only [Op.eqFields, ne_eq, String.reduceEq, not_false_eq_true, if_true, Sem.run_bind, run_part3, Result.andThen_ok, run_equalIn_int w 9998 3 .i64 .i64 _ _ Tryd.underlying3]
  unfold eqRel
  cases hb : n == m with
  | true => simp only [Bool.not_true, Bool.false_eq_true, if_false, Sem.run_bind, run_part51, Result.andThen_ok, run_eq_rows 9997 f g w, Bool.true_and]; cases eqRows f g <;> simp
  | false => simp
theorem run_neq_rel (n m : Int) (f g : Nat → BitVec 64) (w : World) : (binOp .neq 53 (.agg (rcs n f)) (.agg (rcs m g))).run Tryd.prog w = .ok (.bool (!eqRel n m f g)) w := by
  rw [run_neq_struct, run_eq_rel]; rfl
theorem run_eql_rel (n m : Int) (f g : Nat → BitVec 64) (w : World) : (binOp .eql 53 (.agg (rcs n f)) (.agg (rcs m g))).run Tryd.prog w = .ok (.bool (eqRel n m f g)) w := by
  rw [run_eql_struct, run_eq_rel]; rfl
theorem eqRel_iff {n m : Int} {f g : Nat → BitVec 64} : eqRel n m f g = true ↔ n = m ∧ ∀ i, i < 48 → f i = g i := by
  unfold eqRel eqRows
  simp only [Bool.and_eq_true, beq_iff_eq, List.all_eq_true, List.mem_range'_1]
  constructor
  · rintro ⟨h1, h2⟩; exact ⟨h1, fun i hi => h2 i ⟨by omega, by omega⟩⟩
  · rintro ⟨h1, h2⟩; exact ⟨h1, fun i hi => h2 i (by omega)⟩
end Go.Proofs.YtgegmoedgegkcaaDoor

namespace Go.Proofs.YtgegmoedgegkcaaDoor

theorem has_orRows_from (f : Nat → BitVec 64) (l : List Nat) (s : BitVec 64) (b : Nat) : has (l.foldl (fun s a => s ||| f a) s) b = (has s b || l.any fun a => has (f a) b) := by
  induction l generalizing s with
  | nil => simp
  | cons a l ih => rw [List.foldl_cons, ih, has_or, List.any_cons, Bool.or_assoc]
theorem has_orRows (f : Nat → BitVec 64) (l : List Nat) (b : Nat) : has (orRows f l) b = l.any fun a => has (f a) b := by
  unfold orRows; rw [has_orRows_from, has_zero, Bool.false_or]
theorem has_stp (f : Nat → BitVec 64) (s : BitVec 64) (b : Nat) : has (stp f s) b = true ↔ ∃ a, has s a = true ∧ has (f a) b = true := by
  unfold stp
  rw [has_orRows, List.any_eq_true]
  constructor
  · rintro ⟨a, ha, hb⟩; exact ⟨a, Mk.mem_elems.1 ha, hb⟩
  · rintro ⟨a, ha, hb⟩; exact ⟨a, Mk.mem_elems.2 ha, hb⟩

/-- One round of Plus. -/
def pstep (n : Nat) (f : Nat → BitVec 64) : Nat → BitVec 64 := below48 (fun a => f a ||| stp f (f a)) n
def pit (n : Nat) (f : Nat → BitVec 64) : Nat → Nat → BitVec 64
  | 0 => below48 f n
  | j + 1 => pstep n (pit n f j)
theorem pit_below (n : Nat) (f : Nat → BitVec 64) (j a : Nat) (h : n ≤ a) : pit n f j a = 0#64 := by
  cases j <;> simp [pit, pstep, below48, show ¬ a < n by omega]
theorem pit_mono (n : Nat) (f : Nat → BitVec 64) (j a b : Nat) (h : has (pit n f j a) b = true) : has (pit n f (j + 1) a) b = true := by
  by_cases ha : a < n
  · show has (pstep n (pit n f j) a) b = true
    unfold pstep below48
    rw [if_pos ha, has_or, h]; rfl
  · rw [pit_below n f j a (by omega), has_zero] at h; cases h

theorem countP_le {α : Type} {p q : α → Bool} : ∀ {l : List α}, (∀ x ∈ l, p x = true → q x = true) → l.countP p ≤ l.countP q
  | [], _ => by simp
  | x :: l, h => by
    have ih := countP_le (l := l) fun y hy => h y (by simp [hy])
    rw [List.countP_cons, List.countP_cons]
    cases hp : p x with
    | false => simp; omega
    | true => rw [h x (by simp) hp]; simp; omega
theorem countP_lt {α : Type} {p q : α → Bool} : ∀ {l : List α}, (∀ x ∈ l, p x = true → q x = true) → ∀ x ∈ l, q x = true → p x = false → l.countP p < l.countP q
  | [], _, _, hx, _, _ => by cases hx
  | y :: l, h, x, hx, hq, hp => by
    rw [List.countP_cons, List.countP_cons]
    rcases List.mem_cons.1 hx with rfl | hx
    · have := countP_le (l := l) fun z hz => h z (by simp [hz])
      rw [hq, hp]; simp; omega
    · have ih := countP_lt (l := l) (fun z hz => h z (by simp [hz])) x hx hq hp
      cases hpy : p y with
      | false => simp; omega
      | true => rw [h y (by simp) hpy]; simp; omega
theorem elems_count (s : BitVec 64) : (Mk.elems s).length = (List.range 64).countP fun b => has s b := by
  unfold Mk.elems has; rw [List.countP_eq_length_filter]
theorem elems_le {s t : BitVec 64} (h : ∀ b, has s b = true → has t b = true) : (Mk.elems s).length ≤ (Mk.elems t).length := by
  rw [elems_count, elems_count]; exact countP_le fun x _ => h x
theorem elems_lt {s t : BitVec 64} (h : ∀ b, has s b = true → has t b = true) (hne : s ≠ t) : (Mk.elems s).length < (Mk.elems t).length := by
  obtain ⟨b, hb⟩ : ∃ b, has s b ≠ has t b := by
    apply Classical.byContradiction
    intro hn
    exact hne (Mk.has_ext' fun j => Classical.byContradiction fun hj => hn ⟨j, hj⟩)
  have hs : has s b = false := by
    cases h1 : has s b with
    | false => rfl
    | true => exact absurd ((h1.trans (h b h1).symm)) hb
  have ht : has t b = true := by
    cases h1 : has t b with
    | true => rfl
    | false => exact absurd (hs.trans h1.symm) hb
  have hb64 : b < 64 := by
    apply Classical.byContradiction
    intro hn
    unfold has at ht
    rw [BitVec.getLsbD_of_ge _ _ (by omega)] at ht; cases ht
  rw [elems_count, elems_count]
  exact countP_lt (fun x _ => h x) b (List.mem_range.2 hb64) ht hs
theorem sum_le {u v : Nat → Nat} : ∀ {l : List Nat}, (∀ x ∈ l, u x ≤ v x) → (l.map u).sum ≤ (l.map v).sum
  | [], _ => by simp
  | x :: l, h => by
    have := sum_le (l := l) fun y hy => h y (by simp [hy])
    have := h x (by simp)
    simp only [List.map_cons, List.sum_cons]; omega
theorem sum_lt {u v : Nat → Nat} : ∀ {l : List Nat}, (∀ x ∈ l, u x ≤ v x) → ∀ x ∈ l, u x < v x → (l.map u).sum < (l.map v).sum
  | [], _, _, hx, _ => by cases hx
  | y :: l, h, x, hx, hlt => by
    simp only [List.map_cons, List.sum_cons]
    rcases List.mem_cons.1 hx with rfl | hx
    · have := sum_le (l := l) fun z hz => h z (by simp [hz])
      omega
    · have := sum_lt (l := l) (fun z hz => h z (by simp [hz])) x hx hlt
      have := h y (by simp)
      omega
/-- How many pairs. -/
def pairsIn (f : Nat → BitVec 64) : Nat := ((List.range 48).map fun a => (Mk.elems (f a)).length).sum
theorem pairsIn_le (f : Nat → BitVec 64) : pairsIn f ≤ 3072 := by
  unfold pairsIn
  refine Nat.le_trans (sum_le (v := fun _ => 64) fun x _ => Mk.elems_length_le (f x)) ?_
  decide
theorem pit_grows (n : Nat) (f : Nat → BitVec 64) (j : Nat) (h : ¬ ∀ a, a < 48 → pit n f j a = pit n f (j + 1) a) : pairsIn (pit n f j) < pairsIn (pit n f (j + 1)) := by
  obtain ⟨a, ha, hne⟩ : ∃ a, a < 48 ∧ pit n f j a ≠ pit n f (j + 1) a := by
    apply Classical.byContradiction
    intro hn
    exact h fun a ha => Classical.byContradiction fun hj => hn ⟨a, ha, hj⟩
  exact sum_lt (fun x _ => elems_le fun b hb => pit_mono n f j x b hb) a (List.mem_range.2 ha) (elems_lt (fun b hb => pit_mono n f j a b hb) hne)
theorem pit_ends (n : Nat) (f : Nat → BitVec 64) : ∃ J, ∀ a, a < 48 → pit n f J a = pit n f (J + 1) a := by
  apply Classical.byContradiction
  intro hn
  have hg : ∀ j, pairsIn (pit n f j) < pairsIn (pit n f (j + 1)) := fun j => pit_grows n f j fun h => hn ⟨j, h⟩
  have h2 : ∀ j, j ≤ pairsIn (pit n f j) := by
    intro j
    induction j with
    | zero => omega
    | succ j ih => have := hg j; omega
  have h3 := h2 3073
  have h4 := pairsIn_le (pit n f 3073)
  omega
noncomputable def pJ (n : Nat) (f : Nat → BitVec 64) : Nat := Classical.choose (pit_ends n f)
/-- rel.Plus: the rows. -/
noncomputable def plusF (n : Nat) (f : Nat → BitVec 64) : Nat → BitVec 64 := pit n f (pJ n f)
theorem pJ_end (n : Nat) (hn : n ≤ 48) (f : Nat → BitVec 64) : pit n f (pJ n f + 1) = pit n f (pJ n f) := by
  funext a
  by_cases h : a < 48
  · exact (Classical.choose_spec (pit_ends n f) a h).symm
  · rw [pit_below _ _ _ _ (by omega), pit_below _ _ _ _ (by omega)]
theorem pit_fix {n : Nat} {f : Nat → BitVec 64} {i : Nat} (h : pit n f (i + 1) = pit n f i) : ∀ k, pit n f (i + k) = pit n f i
  | 0 => rfl
  | k + 1 => by
    show pstep n (pit n f (i + k)) = _
    rw [pit_fix h k]; exact h
/-- Where two rounds agree, that is the end. -/
theorem pit_same {n : Nat} (hn : n ≤ 48) {f : Nat → BitVec 64} {i : Nat} (h : pit n f (i + 1) = pit n f i) : pit n f i = plusF n f := by
  unfold plusF
  rcases Nat.le_total i (pJ n f) with hl | hl
  · obtain ⟨k, hk⟩ := Nat.le.dest hl
    rw [← hk, pit_fix h]
  · obtain ⟨k, hk⟩ := Nat.le.dest hl
    rw [← hk, pit_fix (pJ_end n hn f)]
end Go.Proofs.YtgegmoedgegkcaaDoor

namespace Go.Proofs.YtgegmoedgegkcaaDoor
open Go.RowKit

theorem goes102 : Goes 102 := goes Tryd.func102 (by kernel_rfl) rfl
set_option maxRecDepth 8000 in
theorem c_Plus1 (n : Int) (f : Nat → BitVec 64) (b k : Nat) (hk : k < 48) (hs : ∀ x ∈ Mk.elems (f k), x < 48) (w : World) (hT : Tab w) (h1 : RelAt w b n f) :
    Calls Tryd.prog 102 #[.int .i64 k, .pointer (some ⟨b, 0, none⟩)] w fun e w' => e = .returned (.int .u64 (iv (f k ||| stp f (f k)))) ∧ Below w.heap.size w w' := by
  have H1 := Lib.hid h1
  have HS := Lib.hid hs
  have HT := Lib.hid hT
  clear h1 hs hT
  go_enter Tryd.func102, Tryd.ntmps102
  go_wp2
  (refine wp_region_calm (by kernel_rfl) (by kernel_rfl) ?_; (repeat (first | ((refine calm_step (fun K hK => ?_)); (refine calm_load_rel rfl _ rfl rfl (fun w hC => H1.out.over hC) ?_); refine hK _ ?_; clear hK K) | ((refine calm_step (fun K hK => ?_)); go_simp; (first | (refine hK _ ?_; clear hK K) | (refine Calm.of ?_; apply Exists.intro; refine ⟨fun wcalm hcalm => ?_, hK _ ?_⟩; (focus (((have hc := (H1.out.over hcalm).row hk; have hki : (k : Int) < 48 := by omega)); go_simp; first | done | ((go_at_call 103; with_reducible exact calm_below hcalm (c_step n f (f k) HS.out _ (Tab.bel hcalm HT.out)))) | rfl)); clear hK K))))); refine calm_nil ?_; intro wq hq)
  go_wp2
  go_ret
  exact ⟨rfl, hq⟩

theorem has_lt {s : BitVec 64} {b : Nat} (h : has s b = true) : b < 64 := by
  apply Classical.byContradiction
  intro hn
  unfold has at h
  rw [BitVec.getLsbD_of_ge _ _ (by omega)] at h; cases h
theorem pit_right {n : Nat} (hn : n ≤ 48) {f : Nat → BitVec 64} (h : right n f = true) : ∀ j a b, has (pit n f j a) b = true → b < n := by
  intro j
  induction j with
  | zero =>
    intro a b hb
    by_cases ha : a < n
    · have h1 : has (f a) b = true := by simpa [pit, below48, ha] using hb
      have := elems_right h (show a < 48 by omega) b (Mk.mem_elems.2 h1)
      omega
    · simp [pit, below48, ha, has_zero] at hb
  | succ j ih =>
    intro a b hb
    by_cases ha : a < n
    · have h1 : has (pit n f j a ||| stp (pit n f j) (pit n f j a)) b = true := by simpa [pit, pstep, below48, ha] using hb
      rw [has_or, Bool.or_eq_true] at h1
      rcases h1 with h1 | h1
      · exact ih a b h1
      · obtain ⟨c, _, h2⟩ := (has_stp _ _ _).1 h1
        exact ih c b h2
    · simp [pit, pstep, below48, ha, has_zero] at hb
theorem right_congr {n : Nat} {f : Nat → BitVec 64} (h : right n f = true) : ∀ i, i < 48 → f i = below48 f n i := by
  intro i hi
  unfold below48
  split
  · rfl
  · unfold right at h
    simp only [Bool.and_eq_true] at h
    have h1 := List.all_eq_true.1 h.2 i (List.mem_range.2 hi)
    unfold rowOk at h1
    rw [decide_eq_false (p := (i : Int) < (n : Int)) (by omega), Bool.false_or, Bool.and_eq_true] at h1
    exact eq_of_beq h1.2
theorem wpList_neq_rel {ops : Array Oper} {rest : List Oper} {o : Oper} {a : Act} {w : World} {Q : Exit → Act → World → Prop} {n m : Int} {f g : Nat → BitVec 64} (hgd : o.guard = none) (x y : Operand) (t : TypeId) (ho : o.op = .binOp .neq 53 x y t)
    (hx : a.eval x = .agg (rcs n f)) (hy : a.eval y = .agg (rcs m g)) (v : Bool) (hv : (!eqRel n m f g) = v) (h : wpList Tryd.prog ops Q rest (a.put o.dst (.bool v)) w) : wpList Tryd.prog ops Q (o :: rest) a w :=
  wpList_plain hgd fun K hK => by
    have hg : (eqGuard .neq 53 x y (.agg (rcs n f)) (.agg (rcs m g))).run Tryd.prog w = .ok () w := by
      have : Tryd.prog.eqGuardType Tryd.prog.depth 53 = false := by kernel_rfl
      simp [eqGuard, this]
    unfold Oper.wp execOp
    simp only [ho, hx, hy, Sem.run_bind, Sem.run_pure, Result.andThen_ok, hg, run_neq_rel, hv]
    exact hK _ _ h

/-- What Plus answers. -/
noncomputable def plusV (n : Int) (f : Nat → BitVec 64) : Value := if right n f then .agg (rcs n (plusF n.toNat f)) else .agg (rcs 0 fun _ => 0#64)

set_option maxRecDepth 8000 in
set_option maxHeartbeats 2000000 in
theorem c_Plus (n : Int) (f : Nat → BitVec 64) (w : World) (hT : Tab w) :
    Calls Tryd.prog 46 #[.agg (rcs n f)] w fun e w' => e = .returned (plusV n f) ∧ Below w.heap.size w w' := by
  have h1 : RelAt ((w.alloc (.cells (rcs n f) 53)).alloc (.cells (rcs 0 fun _ => 0#64) 53)) w.heap.size n f := (RelAt.new w n f).alloc _
  have h2 : RelAt ((w.alloc (.cells (rcs n f) 53)).alloc (.cells (rcs 0 fun _ => 0#64) 53)) (w.heap.size + 1) 0 (fun _ => 0#64) := by
    have := RelAt.new (w.alloc (.cells (rcs n f) 53)) 0 (fun _ => 0#64)
    rwa [World.size_alloc] at this
  have HB := Lib.hid (show Below w.heap.size w ((w.alloc (.cells (rcs n f) 53)).alloc (.cells (rcs 0 fun _ => 0#64) 53)) from ((Below.refl _ w).alloc (Nat.le_refl _) _).alloc (by simp) _)
  have H1 := Lib.hid h1
  have H2 := Lib.hid h2
  have HTw := Lib.hid hT
  clear h1 h2 hT
  go_enter Tryd.func46, Tryd.ntmps46
  go_upto_region 1 with (refine wpList_alloc_rel rfl rfl ?_)
  rw [World.size_alloc]
  generalize (w.alloc (.cells (rcs n f) 53)).alloc (.cells (rcs 0 fun _ => 0#64) 53) = wb at *
  obtain ⟨b, hb0, hle⟩ : ∃ b, w.heap.size = b ∧ w.heap.size ≤ b := ⟨_, rfl, Nat.le_refl _⟩
  rw [hb0] at H1 H2 ⊢
  clear hb0
  have HBb := Lib.hid (Below.refl wb.heap.size wb)
  cases hRf : right n f with
  | false =>
    have HA := Lib.hid (show ∀ w, Calls Tryd.prog 83 #[.agg (rcs n f)] w fun e w' => e = .returned (.bool false) ∧ Below w.heap.size w w' from fun w => hRf ▸ c_Right n f w)
    have HV := Lib.hid (show plusV n f = .agg (rcs 0 fun _ => 0#64) by unfold plusV; rw [hRf]; rfl)
    clear hRf
    go_wp2_with (first
      | (refine wpList_load_rel rfl _ rfl rfl (by first | exact Hid.out (by assumption) | exact RelAt.over (Hid.out (by assumption)) (by assumption)) ?_)
      | (refine wpList_build_rel0 rfl rfl ?_)
      | (refine wpList_store_rel rfl _ _ rfl rfl rfl (by first | exact Hid.out (by assumption) | exact RelAt.over (Hid.out (by assumption)) (by assumption)) ?_; intro hr6; have HR6 := Lib.hid hr6; clear hr6)
      | (go_at_call 83; (with_reducible refine (HA.out _).mono ?_); rintro e wn ⟨rfl, hb⟩))
    refine ret_rel rfl rfl HR6.out rfl ?_
    exact ⟨by rw [HV.out], Below.setRow' (Below.chain HB.out hb) (by omega)⟩
  | true =>
    obtain ⟨h0, h48⟩ := right_range hRf
    obtain ⟨m, rfl⟩ : ∃ m : Nat, n = m := ⟨n.toNat, (Int.toNat_of_nonneg h0).symm⟩
    have HA := Lib.hid (show ∀ w, Calls Tryd.prog 83 #[.agg (rcs m f)] w fun e w' => e = .returned (.bool true) ∧ Below w.heap.size w w' from fun w => hRf ▸ c_Right m f w)
    have HV := Lib.hid (show plusV m f = .agg (rcs m (plusF m f)) by unfold plusV; rw [hRf]; rfl)
    have hm : m ≤ 48 := by omega
    have HPR := Lib.hid (show ∀ j a x, x ∈ Mk.elems (pit m f j a) → x < 48 from fun j a x hx => Nat.lt_of_lt_of_le (pit_right hm hRf j a x (Mk.mem_elems.1 hx)) hm)
    have HC := Lib.hid (rcs_congr (m : Int) (right_congr hRf))
    clear hRf h0 h48
    go_wp2_with (first
      | (refine wpList_load_rel rfl _ rfl rfl (by first | exact Hid.out (by assumption) | exact RelAt.over (Hid.out (by assumption)) (by assumption)) ?_)
      | (refine wpList_alloc_rel rfl rfl ?_)
      | (refine wpList_build_rel1 rfl _ rfl _ rfl ?_)
      | (refine wpList_store_rel rfl _ _ rfl rfl rfl (RelAt.new _ 0 _) ?_; intro hr3; have HR3 := Lib.hid hr3; clear hr3)
      | (go_at_call 83; (with_reducible refine (HA.out _).mono ?_); rintro e wn ⟨rfl, hb⟩))
    have hsz := hb.size
    have hbl := H1.out.lt
    have hbl2 := H2.out.lt
    have HWN := Lib.hid (hb.alloc hb.size (.cells (rcs 0 fun _ => 0#64) 53))
    have hT0 : Tab wn := Tab.bel (Below.chain HB.out hb) HTw.out
    clear hb
    go_loopg [3] (pJ m f + 2) (fun k s3 wr => ∃ (c j : Nat) (q : Int) (g : Nat → BitVec 64), s3 = .pointer (some ⟨c, 0, none⟩) ∧ b + 1 < c ∧ j + k = pJ m f + 2 ∧ RelAt wr b m (pit m f j) ∧ RelAt wr (b + 1) 0 (fun _ => 0#64) ∧ RelAt wr c q g ∧
      ((q = -1 ∧ j = 0) ∨ (q = m ∧ ∃ i, j = i + 1 ∧ g = pit m f i)) ∧ Below w.heap.size w wr ∧ Tab wr)
    case atStart =>
      have e1 := Below.setRow' (c := wn.heap.size) (cs := rcs (-1) fun _ => 0#64) HWN.out hsz
      refine ⟨wn.heap.size, 0, -1, _, rfl, by omega, by omega, ?_, H2.out.below e1 hbl2, HR3.out, .inl ⟨rfl, rfl⟩, Below.chain HB.out e1, Tab.bel (Below.chain HB.out e1) HTw.out⟩
      show RelAt _ b m (below48 f m)
      exact ⟨by rw [← HC.out]; exact (H1.out.below e1 hbl).heap⟩
    case round =>
      obtain ⟨c, j, q, g, rfl, hbc, hjk, hr1, hr2, hr3, hwas, hbw, hTr⟩ := hrel
      have R1 := Lib.hid hr1
      have R2 := Lib.hid hr2
      have R3 := Lib.hid hr3
      have W := Lib.hid hwas
      have hn1 := hr1.n_cell
      clear hr1 hr2 hr3 hwas
      cases hE : eqRel q m g (pit m f j) with
      | true =>
        have HX := Lib.hid hE
        have HV2 := Lib.hid (show (!eqRel q m g (pit m f j)) = false by rw [hE]; rfl)
        clear hE
        go_wp2_with (first
          | (refine wpList_load_rel rfl _ rfl rfl R3.out ?_)
          | (refine wpList_load_rel rfl _ rfl rfl R1.out ?_)
          | (refine wpList_neq_rel rfl _ _ _ rfl rfl rfl _ HV2.out ?_)
          | (refine wpList_store_rel rfl _ _ rfl rfl rfl R2.out ?_; intro hr6; have HR6 := Lib.hid hr6; clear hr6))
        refine ret_rel rfl rfl HR6.out rfl ?_
        have hfin : pit m f j = plusF m f := by
          obtain ⟨h1, h2⟩ := eqRel_iff.1 HX.out
          rcases W.out with ⟨h3, _⟩ | ⟨_, i, h4, h5⟩
          · omega
          · subst h4
            have h6 : pit m f (i + 1) = pit m f i := by
              funext a
              by_cases ha : a < 48
              · rw [← h2 a ha, h5]
              · rw [pit_below _ _ _ _ (by omega), pit_below _ _ _ _ (by omega)]
            rw [h6]; exact pit_same hm h6
        exact ⟨by rw [HV.out, hfin], Below.setRow' hbw (by omega)⟩
      | false =>
        have HX := Lib.hid hE
        have HV2 := Lib.hid (show (!eqRel q m g (pit m f j)) = true by rw [hE]; rfl)
        have HTr := Lib.hid hTr
        have HBW := Lib.hid hbw
        clear hE hTr hbw
        go_wp2_with (first
          | (refine wpList_load_rel rfl _ rfl rfl R3.out ?_)
          | (refine wpList_load_rel rfl _ rfl rfl R1.out ?_)
          | (refine wpList_neq_rel rfl _ _ _ rfl rfl rfl _ HV2.out ?_)
          | (refine wpList_store_rel rfl _ _ rfl rfl rfl R3.out ?_; intro hr3'; have hn1 := (R1.out.setRow (c := c) (cs := rcs m (pit m f j)) (by omega)).n_cell; have R1a := Lib.hid (R1.out.setRow (c := c) (cs := rcs m (pit m f j)) (by omega)); have R2a := Lib.hid (R2.out.setRow (c := c) (cs := rcs m (pit m f j)) (by omega)); have R3a := Lib.hid hr3'; have HBa := Lib.hid (Below.setRow' (c := c) (cs := rcs m (pit m f j)) HBW.out (by omega)); have HRW := Lib.hid (show RowIs (wr.setRow c (rcs m (pit m f j))) 102 #[.pointer (some ⟨c, 0, none⟩)] m (fun a => pit m f j a ||| stp (pit m f j) (pit m f j a)) from fun k w1 hk hb1 => c_Plus1 m (pit m f j) c k (Nat.lt_of_lt_of_le hk hm) (HPR.out j k) w1 (Tab.bel (Below.chain HBa.out hb1) HTw.out) (R3a.out.over hb1)); clear hr3')
          | (go_at_call 101; (with_reducible refine (c_rows m hm 102 #[.pointer (some ⟨c, 0, none⟩)] (fun a => pit m f j a ||| stp (pit m f j) (pit m f j a)) _ goes102 HRW.out).mono ?_); rintro e w2 ⟨rfl, hb2⟩; have R1b := Lib.hid (R1a.out.over hb2); have R2b := Lib.hid (R2a.out.over hb2); have R3b := Lib.hid (R3a.out.over hb2); have HBb2 := Lib.hid (Below.chain HBa.out hb2); clear hb2)
          | (refine wpList_store_rel rfl _ _ rfl rfl rfl R1b.out ?_; intro hr1'; have R1c := Lib.hid hr1'; have R2c := Lib.hid (R2b.out.setRow (c := b) (cs := rcs m (below48 (fun a => pit m f j a ||| stp (pit m f j) (pit m f j a)) m)) (by omega)); have R3c := Lib.hid (R3b.out.setRow (c := b) (cs := rcs m (below48 (fun a => pit m f j a ||| stp (pit m f j) (pit m f j a)) m)) (by omega)); have HBc := Lib.hid (Below.setRow' (c := b) (cs := rcs m (below48 (fun a => pit m f j a ||| stp (pit m f j) (pit m f j a)) m)) HBb2.out hle); clear hr1')
          | (refine wpList_load_rel rfl _ rfl rfl R3c.out ?_)
          | (refine wpList_alloc_rel rfl rfl ?_)
          | (refine wpList_store_rel rfl _ _ rfl rfl rfl (RelAt.new _ 0 _) ?_; intro hr4; have R4 := Lib.hid hr4; clear hr4))
        have hgk : 0 < gk := by
          apply Nat.pos_of_ne_zero
          intro h
          have hj : j = pJ m f + 2 := by omega
          rcases W.out with ⟨_, h2⟩ | ⟨h3, i, h4, h5⟩
          · omega
          · have hi : i = pJ m f + 1 := by omega
            have : eqRel q m g (pit m f j) = true := eqRel_iff.2 ⟨h3, fun a _ => by rw [h5, hj, hi, pit_fix (pJ_end m hm f) 1, pit_fix (pJ_end m hm f) 2]⟩
            rw [HX.out] at this; cases this
        have l1 := R1c.out.lt
        have l2 := R2c.out.lt
        have hB4 := Below.setRow' (c := (w2.setRow b (rcs m (below48 (fun a => pit m f j a ||| stp (pit m f j) (pit m f j a)) m))).heap.size) (cs := rcs m (pit m f j)) (HBc.out.alloc HBc.out.size (.cells (rcs 0 fun _ => 0#64) 53)) HBc.out.size
        go_roundg (gk - 1)
        case measure => omega
        case rel => exact ⟨_, j + 1, m, pit m f j, rfl, l2, by omega, (R1c.out.alloc _).setRow (by omega), (R2c.out.alloc _).setRow (by omega), R4.out, .inr ⟨rfl, j, rfl, rfl⟩, hB4, Tab.bel hB4 HTw.out⟩
end Go.Proofs.YtgegmoedgegkcaaDoor

namespace Go.Proofs.YtgegmoedgegkcaaDoor
open Go.RowKit

/-- The row lies where it lay, or in a block that was not there. -/
def SameOrNew (w : World) (v v' : Value) : Prop := v'.ownBlock = v.ownBlock ∨ ∀ g, v'.ownBlock = some g → w.heap.size ≤ g

theorem owned_block {w : World} {base e size n : Nat} {v : Value} {xs : List Value} (h : w.ownsRow base e size v n xs) {g : Nat} (hg : v.ownBlock = some g) : base ≤ g ∧ g < w.heap.size := by
  obtain ⟨_, ⟨rfl, _⟩ | ⟨g', cap, cur, rfl, hb, hh, _⟩⟩ := h
  · simp [Value.ownBlock] at hg
  · simp only [Value.ownBlock, Option.some.injEq] at hg
    subst hg
    exact ⟨hb, (Array.getElem?_eq_some_iff.1 hh).1⟩

section
variable {P : Program} (w : World)
theorem run_append_own2 (base : Nat) (t ty e : TypeId) (i : TypeInfo) (z : Value) (size bytes : Nat) (ht : P.underlying t = some (.slice e)) (hi : P.info? e = some i) (hz : i.zero = some z)
    (hsize : i.size = size) (hby : i.bytes = bytes) (hzs : z.cells.size = size) (hsz : 0 < size)
    (v : Value) (n : Nat) (xs : List Value) (hown : w.ownsRow base e size v n xs)
    (a : Addr) (m c : Nat) (news : List Value) (hl : news.length = m * size) (hnews : ∀ j u, news[j]? = some u → w.cell? (a.add j) = some u) (h1 : ∀ u ∈ news, u.oneCell' = true)
    (h63 : n + m ≤ maxLen) (hbytes : (n + m) * bytes ≤ 140737488355328) (hbase : base ≤ w.heap.size) :
    ∃ v' w', (Builtin.append_ #[t, t] ty #[v, .slice (some a) m c]).run P w = .ok v' w' ∧ w'.ownsRow base e size v' (n + m) (xs ++ news) ∧ w.grownBy w' v.ownBlock ∧ SameOrNew w v v' := by
  obtain ⟨v', w', hr, ho, hg, _⟩ := run_append_own (P := P) w base t ty e i z size bytes ht hi hz hsize hby hzs hsz v n xs hown a m c news hl hnews h1 h63 hbytes hbase
  refine ⟨v', w', hr, ho, hg, ?_⟩
  have hown' := hown
  obtain ⟨_, ⟨rfl, rfl⟩ | ⟨g, cap, cur, rfl, hb, hh, hnc, hcm, hcs, htk⟩⟩ := hown
  · have hx : xs = [] := List.eq_nil_of_length_eq_zero (by simpa using hown'.1)
    subst hx
    obtain ⟨v2, w2, hr2, ho2, _, _⟩ := run_append_own (P := P) w w.heap.size t ty e i z size bytes ht hi hz hsize hby hzs hsz (.slice none 0 0) 0 [] (World.ownsRow_nil w _ e size) a m c news hl hnews h1 h63 hbytes (Nat.le_refl _)
    rw [hr] at hr2
    simp only [Result.ok.injEq] at hr2
    obtain ⟨rfl, rfl⟩ := hr2
    exact .inr fun g hg => (owned_block ho2 hg).1
  · by_cases hroom : n + m ≤ cap
    · subst hsize
      have hr2 := run_append_room_cells (P := P) w t ty e i ht hi g 0 n cap a m c news hl hnews h1 hroom
        (fun j hj => by
          have hlt : 0 + n * i.size + j < cur.size := by
            rw [hcs]
            have : (n + m) * i.size ≤ cap * i.size := Nat.mul_le_mul_right _ hroom
            rw [Nat.add_mul] at this
            omega
          rw [cell_of_row w g _ cur e (0, 0) hh, Array.getElem?_eq_getElem hlt]; rfl)
        (fun j hj => by simp [World.frozen?, hh])
      rw [hr] at hr2
      simp only [Result.ok.injEq] at hr2
      rw [hr2.1]
      exact .inl rfl
    · obtain ⟨v2, w2, hr2, ho2, _⟩ := run_append_arg_grows (P := P) w t ty e i z size bytes ht hi hz hsize hby hzs hsz ⟨g, 0, none⟩ n cap xs hown'.1 (hown'.cells (g := g) rfl) a m c news hl hnews (by omega) h63 hbytes
      rw [hr] at hr2
      simp only [Result.ok.injEq] at hr2
      obtain ⟨rfl, rfl⟩ := hr2
      exact .inr fun g hg => (owned_block ho2 hg).1
end

theorem wpList_append_own2 {P : Program} (w : World) {ops : Array Oper} {rest : List Oper} {o : Oper} {a : Act} {Q : Exit → Act → World → Prop} (hgd : o.guard = none) (s x : Operand) (t : TypeId)
    (hop : o.op = .call { callee := .builtin .append, args := #[s, x], argTypes := #[t, t] })
    (base : Nat) (e : TypeId) (i : TypeInfo) (z : Value) (size bytes : Nat) (ht : P.underlying t = some (.slice e)) (hi : P.info? e = some i) (hz : i.zero = some z)
    (hsize : i.size = size) (hby : i.bytes = bytes) (hzs : z.cells.size = size) (hsz : 0 < size)
    (v : Value) (n : Nat) (xs : List Value) (hs : a.eval s = v) (hown : w.ownsRow base e size v n xs)
    (ad : Addr) (m c : Nat) (news : List Value) (hx : a.eval x = .slice (some ad) m c) (hl : news.length = m * size) (hnews : ∀ j u, news[j]? = some u → w.cell? (ad.add j) = some u) (h1 : ∀ u ∈ news, u.oneCell' = true)
    (h63 : n + m ≤ maxLen) (hbytes : (n + m) * bytes ≤ 140737488355328) (hbase : base ≤ w.heap.size)
    (h : ∀ v' w', w'.ownsRow base e size v' (n + m) (xs ++ news) → w.grownBy w' v.ownBlock → SameOrNew w v v' → wpList P ops Q rest (a.put o.dst v') w') : wpList P ops Q (o :: rest) a w := by
  refine wpList_plain hgd fun K hK' => ?_
  obtain ⟨v', w', hrun, r1, r2, r3⟩ := run_append_own2 (P := P) w base t o.type e i z size bytes ht hi hz hsize hby hzs hsz v n xs hown ad m c news hl hnews h1 h63 hbytes hbase
  unfold Oper.wp
  simp [execOp, hop, resolve, invoke, builtin, hs, hx, hrun, Result.andThen]
  exact hK' _ _ (h v' w' r1 r2 r3)
end Go.Proofs.YtgegmoedgegkcaaDoor

namespace Go.Proofs.YtgegmoedgegkcaaDoor
open Go.RowKit

/-- The cells of a list of pairs. -/
def vpr (l : List (Nat × Nat)) : List Value := l.flatMap fun p => [Value.int .i64 (p.1 : Int), .int .i64 (p.2 : Int)]
theorem vpr_len (l : List (Nat × Nat)) : (vpr l).length = l.length * 2 := by
  induction l with
  | nil => rfl
  | cons p l ih => simp only [vpr, List.flatMap_cons, List.length_append, List.length_cons, List.length_nil] at *; omega
theorem vpr_snoc (l : List (Nat × Nat)) (a b : Nat) : vpr l ++ [.int .i64 (a : Int), .int .i64 (b : Int)] = vpr (l ++ [(a, b)]) := by
  simp [vpr]
def rowPrs (f : Nat → BitVec 64) (a : Nat) : List (Nat × Nat) := (Mk.elems (f a)).map fun b => (a, b)
def prs (f : Nat → BitVec 64) (n : Nat) : List (Nat × Nat) := (List.range n).flatMap (rowPrs f)
theorem prs_succ (f : Nat → BitVec 64) (k : Nat) : prs f (k + 1) = prs f k ++ rowPrs f k := by
  unfold prs; rw [List.range_succ, List.flatMap_append]; simp
theorem prs_le (f : Nat → BitVec 64) (k : Nat) : (prs f k).length ≤ 64 * k := by
  induction k with
  | zero => simp [prs]
  | succ k ih =>
    rw [prs_succ, List.length_append]
    have : (rowPrs f k).length ≤ 64 := by unfold rowPrs; rw [List.length_map]; exact Mk.elems_length_le _
    omega
/-- What Pairs answers. -/
def prsR (n : Int) (f : Nat → BitVec 64) : List (Nat × Nat) := if right n f then prs f n.toNat else []

theorem run_slice_rows (b m : Nat) (hm : m ≤ 48) (w : World) : (Instr.sliceAt 51 (.pointer (some ⟨b, 1, none⟩)) none (some (.int .i64 m)) none).run Tryd.prog w = .ok (.slice (some ⟨b, 1, none⟩) m 48) w := by
  have hs : (Tryd.prog.info? 23).map (·.size) = some 1 := by kernel_rfl
  cases hq : Tryd.prog.info? 23 with
  | none => simp [hq] at hs
  | some i =>
    simp [Instr.sliceAt, run_underlying Tryd.underlying51 w, Instr.sureAddr, Instr.sliceBounds, Instr.sliceBound, asIntOf, sizeOf, typeInfo, hq, Addr.add]
    intro h; omega
theorem cs_List2 (s : BitVec 64) (m : Nat) (hm : (Mk.elems s).length = m) (w : World) (hT : Tab w) : Calls Tryd.prog 30 #[.int .u64 (iv s)] w fun e w' =>
    ∃ ad cap, e = .returned (.slice ad m cap) ∧ SlAt w' w'.heap.size ad (vn (Mk.elems s)) ∧ (∀ c o, ad = some ⟨c, o, none⟩ → w.heap.size ≤ c) ∧ Below w.heap.size w w' := by
  refine (c_List s w hT).mono fun e w' ⟨v, he, ho, hb⟩ => ?_
  have ho2 := ho
  obtain ⟨ad, cap, rfl, hs⟩ := SlAt.of_owns ho
  exact ⟨ad, cap, by rw [← hm]; exact he, hs, fun c o hc => (owned_block ho2 (g := c) (by rw [hc]; rfl)).1, hb⟩
theorem owns_over {w w' : World} {base e size n : Nat} {v : Value} {xs : List Value} (h : w.ownsRow base e size v n xs) (hb : Below w.heap.size w w') : w'.ownsRow base e size v n xs := by
  obtain ⟨hl, h1 | ⟨g, cap, cur, rfl, hg, hh, r⟩⟩ := h
  · exact ⟨hl, .inl h1⟩
  · exact ⟨hl, .inr ⟨g, cap, cur, rfl, hg, (hb.block g (Array.getElem?_eq_some_iff.1 hh).1).trans hh, r⟩⟩
theorem build74 (a b : Int) (w : World) : (Instr.build 74 #[(0, .int .i64 a), (1, .int .i64 b)]).run Tryd.prog w = .ok (.agg #[.int .i64 a, .int .i64 b]) w := run_build w 74 _ _ (by kernel_rfl)
theorem rowPrs_succ (f : Nat → BitVec 64) (k : Nat) {i : Nat} (h : i < (Mk.elems (f k)).length) : (rowPrs f k).take (i + 1) = (rowPrs f k).take i ++ [(k, (Mk.elems (f k))[i])] := by
  unfold rowPrs
  rw [← List.map_take, ← List.map_take, List.take_succ_eq_append_getElem h, List.map_append]; rfl
theorem info74 : (Tryd.prog.info? 74).map (fun i => (i.zero, i.size, i.bytes)) = some (some (.agg #[.int .i64 0, .int .i64 0]), 2, 16) := by kernel_rfl
theorem cell_two_new (w : World) (x y : Value) (e : TypeId) : ∀ j u, [x, y][j]? = some u → (w.alloc (.cells #[x, y] e)).cell? ((⟨w.heap.size, 0, none⟩ : Addr).add j) = some u := by
  intro j u hu
  rw [Addr.add_lit, Nat.zero_add, cell_of_row _ _ _ #[x, y] e (0, 0) (heap_alloc_new w _)]
  match j with
  | 0 => simpa using hu
  | 1 => simpa using hu
  | j + 2 => simp at hu

set_option maxRecDepth 8000 in
set_option maxHeartbeats 2000000 in
theorem c_Pairs (n : Int) (f : Nat → BitVec 64) (w : World) (hT : Tab w) :
    Calls Tryd.prog 56 #[.agg (rcs n f)] w fun e w' => ∃ v, e = .returned v ∧ w'.ownsRow w.heap.size 74 2 v (prsR n f).length (vpr (prsR n f)) ∧ Below w.heap.size w w' := by
  have HR := Lib.hid (RelAt.new w n f)
  have HB := Lib.hid ((Below.refl w.heap.size w).alloc (Nat.le_refl _) (.cells (rcs n f) 53))
  have HTw := Lib.hid hT
  obtain ⟨i0, hi, hz0, hz1, hz2⟩ := info_parts info74
  clear hT
  go_enter Tryd.func56, Tryd.ntmps56
  go_upto_region 2 with (fail)
  generalize w.alloc (.cells (rcs n f) 53) = wb at *
  obtain ⟨b, hb0, hle⟩ : ∃ b, w.heap.size = b ∧ w.heap.size ≤ b := ⟨_, rfl, Nat.le_refl _⟩
  rw [hb0] at HR ⊢
  clear hb0
  cases hRf : right n f with
  | false =>
    have HA := Lib.hid (show ∀ w, Calls Tryd.prog 83 #[.agg (rcs n f)] w fun e w' => e = .returned (.bool false) ∧ Below w.heap.size w w' from fun w => hRf ▸ c_Right n f w)
    have HV := Lib.hid (show prsR n f = [] by unfold prsR; rw [hRf]; rfl)
    clear hRf
    go_wp2_with (first
      | (refine wpList_load_rel rfl _ rfl rfl HR.out ?_)
      | (go_at_call 83; (with_reducible refine (HA.out _).mono ?_); rintro e wn ⟨rfl, hb⟩))
    go_ret
    exact ⟨_, rfl, by rw [HV.out]; exact World.ownsRow_nil _ _ _ _, Below.chain HB.out hb⟩
  | true =>
    obtain ⟨h0, h48⟩ := right_range hRf
    obtain ⟨m, rfl⟩ : ∃ m : Nat, n = m := ⟨n.toNat, (Int.toNat_of_nonneg h0).symm⟩
    have HA := Lib.hid (show ∀ w, Calls Tryd.prog 83 #[.agg (rcs m f)] w fun e w' => e = .returned (.bool true) ∧ Below w.heap.size w w' from fun w => hRf ▸ c_Right m f w)
    have HV := Lib.hid (show prsR m f = prs f m by unfold prsR; rw [hRf]; rfl)
    have hm : m ≤ 48 := by omega
    clear hRf h0 h48
    go_wp2_with (first
      | (refine wpList_load_rel rfl _ rfl rfl HR.out ?_)
      | (go_at_call 83; (with_reducible refine (HA.out _).mono ?_); rintro e wn ⟨rfl, hb⟩; have hn1 := (HR.out.over hb).n_cell; have hsl := run_slice_rows b m hm))
    clear hsl
    have HR1 := Lib.hid (HR.out.over hb)
    have HB1 := Lib.hid (Below.chain HB.out hb)
    have hbl := HR1.out.lt
    clear hb
    go_loopw [3, 16] (fun v i wr => ∃ k : Nat, k ≤ m ∧ i = .int .i64 k ∧ wr.ownsRow wn.heap.size 74 2 v (prs f k).length (vpr (prs f k)) ∧ Below wn.heap.size wn wr) (fun _ i _ => m - (intOf i).toNat)
    case atStart => exact ⟨0, by omega, rfl, World.ownsRow_nil _ _ _ _, Below.refl _ _⟩
    case round =>
      obtain ⟨k, hk, rfl, hown, hbk⟩ := hrel
      obtain ⟨wk, rfl⟩ : ∃ wk : World, wk = wr := ⟨_, rfl⟩
      have HOW := Lib.hid hown
      have HBK := Lib.hid hbk
      clear hown hbk
      by_cases hlt : k < m
      · have hk48 : k < 48 := by omega
        have hrow := (HR1.out.over HBK.out).row hk48
        obtain ⟨q, hq⟩ : ∃ q, (Mk.elems (f k)).length = q := ⟨_, rfl⟩
        have hq64 : q ≤ 64 := hq ▸ Mk.elems_length_le (f k)
        have HQ := Lib.hid hq
        have HTk := Lib.hid (Tab.bel (Below.chain HB1.out HBK.out) HTw.out)
        clear hq
        go_wp2_with (go_at_call 30; (with_reducible refine (cs_List2 (f k) q HQ.out _ HTk.out).mono ?_); rintro e w2 ⟨ad, lcap, rfl, hsl, had, hb2⟩; have HSL := Lib.hid hsl; have HAD := Lib.hid had; have HB2 := Lib.hid hb2; clear hsl had hb2)
        have hs2 := HB2.out.size
        have hsk := HBK.out.size
        have hpl := prs_le f k
        obtain ⟨N, hN⟩ : ∃ N, N = (prs f k).length := ⟨_, rfl⟩
        rw [← hN] at hpl HOW
        have HN := Lib.hid hN
        clear hN
        go_loopw [3, 24] (fun v j wr => ∃ i : Nat, i ≤ q ∧ j = .int .i64 i ∧ wr.ownsRow wn.heap.size 74 2 v (N + i) (vpr (prs f k ++ (rowPrs f k).take i)) ∧ (∀ g, v.ownBlock = some g → g < wk.heap.size ∨ w2.heap.size ≤ g) ∧
          (∀ p, wk.heap.size ≤ p → p < w2.heap.size → wr.heap[p]? = w2.heap[p]?) ∧ w2.heap.size ≤ wr.heap.size ∧ Below wn.heap.size wn wr) (fun _ j _ => q - (intOf j).toNat)
        case atStart =>
          exact ⟨0, by omega, rfl, by rw [List.take_zero, List.append_nil]; exact owns_over HOW.out HB2.out, fun g hg => .inl (owned_block HOW.out hg).2, fun _ _ _ => rfl, Nat.le_refl _, HBK.out.trans (HB2.out.mono hsk)⟩
        case round =>
          obtain ⟨i, hi2, rfl, hown, hblk, hkeep, hsz, hbel⟩ := hrel
          have HBlk := Lib.hid hblk
          have HKeep := Lib.hid hkeep
          have HBel := Lib.hid hbel
          clear hblk hkeep hbel
          by_cases hiq : i < q
          · have hil : i < (Mk.elems (f k)).length := by have := HQ.out; omega
            have hsucc := rowPrs_succ f k hil
            obtain ⟨c, off, rfl, hclt, hc0⟩ := HSL.out.nat hil
            have hcge := HAD.out c off rfl
            have hc := (World.cell?_of_block (w := w2) (w' := wr) (a := ⟨c, off + i, none⟩) (HKeep.out c hcge hclt)).trans hc0
            obtain ⟨x, hx⟩ : ∃ x, x = (Mk.elems (f k))[i] := ⟨_, rfl⟩
            rw [← hx] at hc hsucc
            have HSU := Lib.hid hsucc
            have hbd := build74 k x
            clear hsucc hc0 hx
            go_wp2_with (at_builtin; refine wpList_append_own2 _ rfl _ _ 72 rfl wn.heap.size 74 i0 _ 2 16 Tryd.underlying72 hi hz0 hz1 hz2 rfl (by decide) _ _ _ rfl (hown.alloc _) ⟨wr.heap.size, 0, none⟩ 1 1 [.int .i64 k, .int .i64 x] rfl rfl (cell_two_new _ _ _ _) (by simp [Value.oneCell']) (by unfold maxLen; omega) (by omega) (by simp; omega) ?_; intro v' wp hown' hgrow hsn)
            have hBe := HBel.out.trans ((app_chg hown hgrow).below (B := wn.heap.size) HBel.out.size (by intro k hk; omega))
            refine ⟨⟨i + 1, by omega, by go_num, ?_, ?_, ?_, ?_, hBe⟩, by simp [intOf]; omega⟩
            · rw [HSU.out, ← List.append_assoc, ← vpr_snoc]; exact hown'
            · intro g hg
              rcases hsn with h | h
              · exact HBlk.out g (h ▸ hg)
              · have := h g hg
                simp only [World.size_alloc] at this
                exact .inr (by omega)
            · intro p hp1 hp2
              rw [hgrow.block p (by simp only [World.size_alloc]; omega) (fun h => by have := HBlk.out p h.symm; omega), Below.heap_alloc _ _ _ (by omega)]
              exact HKeep.out p hp1 hp2
            · have := hgrow.size
              simp only [World.size_alloc] at this
              omega
          · have hiq2 : i = q := by omega
            have ht : (rowPrs f k).take i = rowPrs f k := List.take_of_length_le (by unfold rowPrs; rw [List.length_map, HQ.out]; omega)
            rw [ht, ← prs_succ] at hown
            have HL := Lib.hid (show N + i = (prs f (k + 1)).length by rw [prs_succ, List.length_append, ← HN.out]; unfold rowPrs; rw [List.length_map, HQ.out, hiq2])
            have HOWN := Lib.hid hown
            clear ht hown hiq2
            go_wp2
            go_roundw
            case rel => exact ⟨k + 1, by omega, by go_num, by rw [← HL.out]; exact HOWN.out, HBel.out⟩
            case measure => simp [intOf]; omega
      · have hkm : k = m := by omega
        subst hkm
        go_wp2
        go_ret
        exact ⟨_, rfl, by rw [HV.out]; exact ownsRow_base HOW.out HB1.out.size, Below.chain HB1.out HBK.out⟩
end Go.Proofs.YtgegmoedgegkcaaDoor

namespace Go.Proofs.YtgegmoedgegkcaaDoor
open Go.RowKit

/-- A slice reads as a list of pairs. -/
def PrAt (w : World) (N : Nat) (ad : Option Addr) (l : List (Nat × Nat)) : Prop :=
  ∀ (j : Nat) p, l[j]? = some p → ∃ c, ad = some ⟨c, 0, none⟩ ∧ c < N ∧ w.cell? ⟨c, j * 2, none⟩ = some (.int .i64 (p.1 : Int)) ∧ w.cell? ⟨c, j * 2 + 1, none⟩ = some (.int .i64 (p.2 : Int))
theorem PrAt.below {w w' : World} {N : Nat} {ad : Option Addr} {l : List (Nat × Nat)} (h : PrAt w N ad l) (hb : Below N w w') : PrAt w' N ad l :=
  fun j p hp => let ⟨c, e, hlt, h1, h2⟩ := h j p hp; ⟨c, e, hlt, (hb.cell (p := ⟨c, j * 2, none⟩) hlt).trans h1, (hb.cell (p := ⟨c, j * 2 + 1, none⟩) hlt).trans h2⟩
theorem vpr_get {l : List (Nat × Nat)} {j : Nat} {p : Nat × Nat} (h : l[j]? = some p) : (vpr l)[j * 2]? = some (.int .i64 (p.1 : Int)) ∧ (vpr l)[j * 2 + 1]? = some (.int .i64 (p.2 : Int)) := by
  induction l generalizing j with
  | nil => simp at h
  | cons q l ih =>
    have hv : vpr (q :: l) = .int .i64 (q.1 : Int) :: .int .i64 (q.2 : Int) :: vpr l := rfl
    rw [hv]
    cases j with
    | zero => simp at h; subst h; simp
    | succ j =>
      have := ih (j := j) (by simpa using h)
      rw [show (j + 1) * 2 = j * 2 + 1 + 1 by omega]
      simpa using this
theorem PrAt.of_owns {w : World} {base e n : Nat} {v : Value} {l : List (Nat × Nat)} (h : w.ownsRow base e 2 v n (vpr l)) : ∃ ad cap, v = .slice ad n cap ∧ PrAt w w.heap.size ad l := by
  obtain ⟨ad, cap, hv, hs⟩ := SlAt.of_owns h
  refine ⟨ad, cap, hv, fun j p hp => ?_⟩
  obtain ⟨h1, h2⟩ := vpr_get hp
  obtain ⟨hl, ⟨rfl, rfl⟩ | ⟨g, cap', cur, rfl, hb, hg, hn, hcm, hcs, ht⟩⟩ := h
  · rw [show vpr l = [] from List.eq_nil_of_length_eq_zero (by simpa using hl)] at h1
    simp at h1
  · simp only [Value.slice.injEq] at hv
    obtain ⟨rfl, _, _⟩ := hv
    obtain ⟨b, o, e1, hlt, hc1⟩ := hs _ _ h1
    obtain ⟨b2, o2, e2, _, hc2⟩ := hs _ _ h2
    simp only [Option.some.injEq, Addr.mk.injEq] at e1 e2
    obtain ⟨rfl, rfl, _⟩ := e1
    obtain ⟨rfl, rfl, _⟩ := e2
    rw [Nat.zero_add] at hc1 hc2
    exact ⟨g, rfl, hlt, hc1, hc2⟩
theorem c_Pairs2 (n : Int) (f : Nat → BitVec 64) (m : Nat) (hm : (prsR n f).length = m) (w : World) (hT : Tab w) :
    Calls Tryd.prog 56 #[.agg (rcs n f)] w fun e w' => ∃ ad cap, e = .returned (.slice ad m cap) ∧ PrAt w' w'.heap.size ad (prsR n f) ∧ Below w.heap.size w w' := by
  refine (c_Pairs n f w hT).mono fun e w' ⟨v, he, ho, hb⟩ => ?_
  obtain ⟨ad, cap, rfl, hs⟩ := PrAt.of_owns ho
  exact ⟨ad, cap, by rw [← hm]; exact he, hs, hb⟩
theorem prsR_le (n : Int) (f : Nat → BitVec 64) : (prsR n f).length ≤ 3072 := by
  unfold prsR
  split
  · rename_i h
    have := right_range h
    have := prs_le f n.toNat
    omega
  · simp
theorem mem_prs {f : Nat → BitVec 64} {n : Nat} {p : Nat × Nat} : p ∈ prs f n ↔ p.1 < n ∧ has (f p.1) p.2 = true := by
  unfold prs rowPrs
  simp only [List.mem_flatMap, List.mem_range, List.mem_map]
  constructor
  · rintro ⟨a, ha, b, hb, rfl⟩; exact ⟨ha, Mk.mem_elems.1 hb⟩
  · rintro ⟨h1, h2⟩; exact ⟨p.1, h1, p.2, Mk.mem_elems.2 h2, rfl⟩
/-- The pairs of a right relation are of its things. -/
theorem mem_prsR {n : Int} {f : Nat → BitVec 64} {p : Nat × Nat} (h : p ∈ prsR n f) : right n f = true ∧ (p.1 : Int) < n ∧ (p.2 : Int) < n ∧ p.1 < 48 ∧ p.2 < 48 := by
  unfold prsR at h
  split at h
  · rename_i hr
    obtain ⟨h0, h48⟩ := right_range hr
    obtain ⟨h1, h2⟩ := mem_prs.1 h
    have h3 := elems_right hr (show p.1 < 48 by omega) p.2 (Mk.mem_elems.2 h2)
    exact ⟨hr, by omega, h3, by omega, by omega⟩
  · simp at h

def frm (l : List (Nat × Nat)) : BitVec 64 := l.foldl (fun s p => s ||| 1#64 <<< p.1) 0#64
theorem frm_succ {l : List (Nat × Nat)} {k : Nat} (hk : k < l.length) : frm (l.take (k + 1)) = frm (l.take k) ||| 1#64 <<< l[k].1 := by
  unfold frm
  rw [List.take_succ_eq_append_getElem hk, List.foldl_append]; rfl

set_option maxRecDepth 8000 in
set_option maxHeartbeats 2000000 in
theorem c_From (n : Int) (f : Nat → BitVec 64) (w : World) (hT : Tab w) :
    Calls Tryd.prog 72 #[.agg (rcs n f)] w fun e w' => e = .returned (.int .u64 (iv (frm (prsR n f)))) ∧ Below w.heap.size w w' := by
  have HR := Lib.hid (RelAt.new w n f)
  have HB := Lib.hid ((Below.refl w.heap.size w).alloc (Nat.le_refl _) (.cells (rcs n f) 53))
  have HTw := Lib.hid (hT.alloc (.cells (rcs n f) 53))
  obtain ⟨m, hm⟩ : ∃ m, (prsR n f).length = m := ⟨_, rfl⟩
  have hm3 : m ≤ 3072 := hm ▸ prsR_le n f
  have HM := Lib.hid hm
  have HMem := Lib.hid (fun p (h : p ∈ prsR n f) => mem_prsR h)
  clear hT hm
  obtain ⟨l, hl⟩ : ∃ l, l = prsR n f := ⟨_, rfl⟩
  have HP := Lib.hid (fun w hT => c_Pairs2 n f m HM.out w hT)
  rw [← hl] at HM HMem HP
  have HL := Lib.hid hl
  clear hl
  go_enter Tryd.func72, Tryd.ntmps72
  go_upto_region 1 with (fail)
  generalize w.alloc (.cells (rcs n f) 53) = wb at *
  obtain ⟨b, hb0, hle⟩ : ∃ b, w.heap.size = b ∧ w.heap.size ≤ b := ⟨_, rfl, Nat.le_refl _⟩
  rw [hb0] at HR ⊢
  clear hb0
  go_wp2_with (first
    | (refine wpList_load_rel rfl _ rfl rfl HR.out ?_)
    | (go_at_call 56; (with_reducible refine (HP.out _ HTw.out).mono ?_); rintro e w1 ⟨ad, cap, rfl, hpr, hb⟩; have HPR := Lib.hid hpr; have HB1 := Lib.hid (Below.chain HB.out hb); clear hpr hb))
  go_loopw [3, 9] (fun s i wr => ∃ k : Nat, k ≤ m ∧ i = .int .i64 k ∧ s = .int .u64 (iv (frm (l.take k))) ∧ Below w1.heap.size w1 wr) (fun _ i _ => m - (intOf i).toNat)
  case atStart => exact ⟨0, by omega, rfl, rfl, Below.refl _ _⟩
  case round =>
    obtain ⟨k, hk, rfl, rfl, hbr⟩ := hrel
    by_cases hlt : k < m
    · have hkl : k < l.length := by have := HM.out; omega
      have hmem := HMem.out _ (List.getElem_mem hkl)
      have hsucc := frm_succ hkl
      obtain ⟨c, rfl, hclt, hc1, hc2⟩ := (HPR.out.below hbr) k _ (List.getElem?_eq_getElem hkl)
      obtain ⟨p, hp⟩ : ∃ p, p = l[k] := ⟨_, rfl⟩
      rw [← hp] at hmem hsucc hc1 hc2
      obtain ⟨x, y⟩ := p
      obtain ⟨_, _, _, hx48, hy48⟩ := hmem
      have HS := Lib.hid hsucc
      clear hsucc hp
      simp only at hc1 hc2 hx48 hy48
      have hbr2 := hbr
      clear hbr
      have HBR := Lib.hid hbr2
      clear hbr2
      go_wp2
      refine ⟨⟨k + 1, by omega, by go_num, by rw [HS.out], HBR.out.alloc HBR.out.size _⟩, by simp [intOf]; omega⟩
    · have hkn : l.take k = l := List.take_of_length_le (by have := HM.out; omega)
      rw [hkn]
      clear hkn
      go_wp2
      go_ret
      exact ⟨by rw [← HL.out]; rfl, Below.chain HB1.out hbr⟩
end Go.Proofs.YtgegmoedgegkcaaDoor

namespace Go.Proofs.YtgegmoedgegkcaaDoor
open Go.RowKit

def bk (l : List (Nat × Nat)) : Nat → BitVec 64 := l.foldl (fun g p => upd g p.2 (g p.2 ||| 1#64 <<< p.1)) fun _ => 0#64
theorem bk_succ {l : List (Nat × Nat)} {k : Nat} (hk : k < l.length) : bk (l.take (k + 1)) = upd (bk (l.take k)) l[k].2 (bk (l.take k) l[k].2 ||| 1#64 <<< l[k].1) := by
  unfold bk
  rw [List.take_succ_eq_append_getElem hk, List.foldl_append]; rfl
theorem c_Pairs3 (n : Int) (f : Nat → BitVec 64) (m : Nat) (hm : (prsR n f).length = m) (w : World) (hT : Tab w) :
    Calls Tryd.prog 56 #[.agg (rcs n f)] w fun e w' => ∃ ad cap, e = .returned (.slice ad m cap) ∧ PrAt w' w'.heap.size ad (prsR n f) ∧ (∀ c o, ad = some ⟨c, o, none⟩ → w.heap.size ≤ c) ∧ Below w.heap.size w w' := by
  refine (c_Pairs n f w hT).mono fun e w' ⟨v, he, ho, hb⟩ => ?_
  have ho2 := ho
  obtain ⟨ad, cap, rfl, hs⟩ := PrAt.of_owns ho
  exact ⟨ad, cap, by rw [← hm]; exact he, hs, fun c o hc => (owned_block ho2 (g := c) (by rw [hc]; rfl)).1, hb⟩
/-- How many things Back's answer is of. -/
def backN (n : Int) (f : Nat → BitVec 64) : Int := if right n f then n else 0

set_option maxRecDepth 8000 in
set_option maxHeartbeats 2000000 in
theorem c_Back (n : Int) (f : Nat → BitVec 64) (w : World) (hT : Tab w) :
    Calls Tryd.prog 68 #[.agg (rcs n f)] w fun e w' => e = .returned (.agg (rcs (backN n f) (bk (prsR n f)))) ∧ Below w.heap.size w w' := by
  have h1 : RelAt (((w.alloc (.cells (rcs n f) 53)).alloc (.cells (rcs 0 fun _ => 0#64) 53)).alloc (.cells (rcs 0 fun _ => 0#64) 53)) w.heap.size n f := ((RelAt.new w n f).alloc _).alloc _
  have h2 : RelAt (((w.alloc (.cells (rcs n f) 53)).alloc (.cells (rcs 0 fun _ => 0#64) 53)).alloc (.cells (rcs 0 fun _ => 0#64) 53)) (w.heap.size + 1) 0 (fun _ => 0#64) := by
    have := (RelAt.new (w.alloc (.cells (rcs n f) 53)) 0 (fun _ => 0#64)).alloc (.cells (rcs 0 fun _ => 0#64) 53)
    rwa [World.size_alloc] at this
  have h3 : RelAt (((w.alloc (.cells (rcs n f) 53)).alloc (.cells (rcs 0 fun _ => 0#64) 53)).alloc (.cells (rcs 0 fun _ => 0#64) 53)) (w.heap.size + 1 + 1) 0 (fun _ => 0#64) := by
    have := RelAt.new ((w.alloc (.cells (rcs n f) 53)).alloc (.cells (rcs 0 fun _ => 0#64) 53)) 0 (fun _ => 0#64)
    rwa [World.size_alloc, World.size_alloc] at this
  have HB := Lib.hid (three_boxes w (rcs n f) (rcs 0 fun _ => 0#64) (rcs 0 fun _ => 0#64))
  have H1 := Lib.hid h1
  have H2 := Lib.hid h2
  have H3 := Lib.hid h3
  have HTw := Lib.hid hT
  obtain ⟨m, hm⟩ : ∃ m, (prsR n f).length = m := ⟨_, rfl⟩
  have hm3 : m ≤ 3072 := hm ▸ prsR_le n f
  have HM := Lib.hid hm
  have HMem := Lib.hid (fun p (h : p ∈ prsR n f) => mem_prsR h)
  clear h1 h2 h3 hT hm
  go_enter Tryd.func68, Tryd.ntmps68
  go_upto_region 2 with (refine wpList_alloc_rel rfl rfl ?_)
  simp only [World.size_alloc]
  generalize ((w.alloc (.cells (rcs n f) 53)).alloc (.cells (rcs 0 fun _ => 0#64) 53)).alloc (.cells (rcs 0 fun _ => 0#64) 53) = wb at *
  obtain ⟨b, hb0, hle⟩ : ∃ b, w.heap.size = b ∧ w.heap.size ≤ b := ⟨_, rfl, Nat.le_refl _⟩
  rw [hb0] at H1 H2 H3 ⊢
  clear hb0
  cases hRf : right n f with
  | false =>
    have HA := Lib.hid (show ∀ w, Calls Tryd.prog 83 #[.agg (rcs n f)] w fun e w' => e = .returned (.bool false) ∧ Below w.heap.size w w' from fun w => hRf ▸ c_Right n f w)
    have HV := Lib.hid (show rcs (backN n f) (bk (prsR n f)) = rcs 0 fun _ => 0#64 by unfold backN prsR; rw [hRf]; rfl)
    clear hRf
    go_wp2_with (first
      | (refine wpList_load_rel rfl _ rfl rfl H1.out ?_)
      | (go_at_call 83; (with_reducible refine (HA.out _).mono ?_); rintro e wn ⟨rfl, hb⟩)
      | (refine wpList_load_rel rfl _ rfl rfl (H3.out.over hb) ?_)
      | (refine wpList_store_rel rfl _ _ rfl rfl rfl (H2.out.over hb) ?_; intro hr6; have HR6 := Lib.hid hr6; clear hr6))
    refine ret_rel rfl rfl HR6.out rfl ?_
    exact ⟨by rw [HV.out], Below.setRow' (Below.chain HB.out hb) (by omega)⟩
  | true =>
    have HA := Lib.hid (show ∀ w, Calls Tryd.prog 83 #[.agg (rcs n f)] w fun e w' => e = .returned (.bool true) ∧ Below w.heap.size w w' from fun w => hRf ▸ c_Right n f w)
    have HV := Lib.hid (show backN n f = n by unfold backN; rw [hRf]; rfl)
    clear hRf
    go_wp2_with (first
      | (refine wpList_load_rel rfl _ rfl rfl H1.out ?_)
      | (go_at_call 83; (with_reducible refine (HA.out _).mono ?_); rintro e wn ⟨rfl, hb⟩; have hn1 := (H1.out.over hb).n_cell; have hn3 := (H3.out.over hb).n_cell; have hf3 := (H3.out.over hb).unfrozen 0)
      | (refine wpList_load_rel rfl _ rfl rfl ((H1.out.over hb).other (by simp; omega)) ?_)
      | (go_at_call 56; (with_reducible refine (c_Pairs3 n f m HM.out _ (Tab.bel (((Below.chain HB.out hb).setCell (p := ⟨b + 1 + 1, 0, none⟩) (by simp; omega) (.int .i64 n))) HTw.out)).mono ?_); rintro e w1 ⟨ad, cap, rfl, hpr, had, hb1⟩; have HPR := Lib.hid hpr; have HAD := Lib.hid had; clear hpr had))
    have hs3 := ((H3.out.over hb).setN n)
    have hs2 := ((H2.out.over hb).other (p := ⟨b + 1 + 1, 0, none⟩) (v := .int .i64 n) (by simp))
    have HBs := Lib.hid ((Below.chain HB.out hb).setCell (p := ⟨b + 1 + 1, 0, none⟩) (by simp; omega) (.int .i64 n))
    obtain ⟨S, hS⟩ : ∃ S, S = (wn.setCell ⟨b + 1 + 1, 0, none⟩ (.int .i64 n)).heap.size := ⟨_, rfl⟩
    have HR3 := Lib.hid (hs3.over hb1)
    have HR2 := Lib.hid (hs2.over hb1)
    have HBW := Lib.hid (Below.chain HBs.out hb1)
    have hSl := hS ▸ hs3.lt
    have hS1 := hS ▸ hb1.size
    rw [← hS] at HAD
    clear hb hb1 hs3 hs2 hS HBs
    obtain ⟨l, hl⟩ : ∃ l, l = prsR n f := ⟨_, rfl⟩
    rw [← hl] at HM HMem HPR
    have HL := Lib.hid hl
    clear hl
    go_loopw [16] (fun i wr => ∃ k : Nat, k ≤ m ∧ i = .int .i64 k ∧ RelAt wr (b + 1 + 1) n (bk (l.take k)) ∧ RelAt wr (b + 1) 0 (fun _ => 0#64) ∧ (∀ p, S ≤ p → p < w1.heap.size → wr.heap[p]? = w1.heap[p]?) ∧ w1.heap.size ≤ wr.heap.size ∧ Below w.heap.size w wr) (fun i _ => m - (intOf i).toNat)
    case atStart => exact ⟨0, by omega, rfl, HR3.out, HR2.out, fun _ _ _ => rfl, Nat.le_refl _, HBW.out⟩
    case round =>
      obtain ⟨k, hk, rfl, hr3, hr2, hkeep, hsz, hbw⟩ := hrel
      have R3 := Lib.hid hr3
      have R2 := Lib.hid hr2
      have HK := Lib.hid hkeep
      have HBr := Lib.hid hbw
      clear hr3 hr2 hkeep hbw
      by_cases hlt : k < m
      · have hkl : k < l.length := by have := HM.out; omega
        have hmem := HMem.out _ (List.getElem_mem hkl)
        have hsucc := bk_succ hkl
        obtain ⟨c, rfl, hclt, hc1, hc2⟩ := HPR.out k _ (List.getElem?_eq_getElem hkl)
        have hcge := HAD.out c 0 rfl
        obtain ⟨p, hp⟩ : ∃ p, p = l[k] := ⟨_, rfl⟩
        rw [← hp] at hmem hsucc hc1 hc2
        obtain ⟨x, y⟩ := p
        obtain ⟨_, _, _, hx48, hy48⟩ := hmem
        simp only at hc1 hc2 hx48 hy48 hsucc
        have hd1 := (World.cell?_of_block (w := w1) (w' := wr) (a := ⟨c, k * 2, none⟩) (HK.out c hcge hclt)).trans hc1
        have hd2 := (World.cell?_of_block (w := w1) (w' := wr) (a := ⟨c, k * 2 + 1, none⟩) (HK.out c hcge hclt)).trans hc2
        have HS := Lib.hid hsucc
        clear hsucc hp hc1 hc2
        go_upto_region 8 with (fail)
        have e0 : (wr.alloc (.cells #[.int .i64 (x : Int), .int .i64 (y : Int)] 74)).cell? ⟨wr.heap.size, 0, none⟩ = some (.int .i64 (x : Int)) := by rw [cell_of_row _ _ _ _ _ _ (heap_alloc_new wr _)]; rfl
        have e1 : (wr.alloc (.cells #[.int .i64 (x : Int), .int .i64 (y : Int)] 74)).cell? ⟨wr.heap.size, 1, none⟩ = some (.int .i64 (y : Int)) := by rw [cell_of_row _ _ _ _ _ _ (heap_alloc_new wr _)]; rfl
        have R3a := Lib.hid (R3.out.alloc (.cells #[.int .i64 (x : Int), .int .i64 (y : Int)] 74))
        have R2a := Lib.hid (R2.out.alloc (.cells #[.int .i64 (x : Int), .int .i64 (y : Int)] 74))
        have HBa := Lib.hid (HBr.out.alloc HBr.out.size (.cells #[.int .i64 (x : Int), .int .i64 (y : Int)] 74))
        have HKa := Lib.hid (fun p h1 h2 => (Below.heap_alloc wr (.cells #[.int .i64 (x : Int), .int .i64 (y : Int)] 74) p (by omega)).trans (HK.out p h1 h2))
        have hsa : w1.heap.size ≤ (wr.alloc (.cells #[.int .i64 (x : Int), .int .i64 (y : Int)] 74)).heap.size := by simp only [World.size_alloc]; omega
        clear hd1 hd2 hsz
        generalize wr.alloc (.cells #[.int .i64 (x : Int), .int .i64 (y : Int)] 74) = wa at *
        generalize wr.heap.size = g at e0 e1 ⊢
        have hrow := R3a.out.row hy48
        have hfr := R3a.out.unfrozen (1 + y)
        have hyi : (y : Int) < 48 := by omega
        obtain ⟨G, hG⟩ : ∃ G, G = bk (l.take k) := ⟨_, rfl⟩
        rw [← hG] at hrow R3a HS
        clear hG
        go_region
        go_wp2
        have hset := (R3a.out.set hy48 (G y ||| 1#64 <<< x)).drewN 1
        rw [← HS.out] at hset
        have hB9 := below_drewN (HBa.out.setCell (p := ⟨b + 1 + 1, 1 + y, none⟩) (by simp; omega) (.int .u64 (iv (G y ||| 1#64 <<< x)))) 1
        refine ⟨⟨k + 1, by omega, by go_num, hset, (R2a.out.other (by simp)).drewN 1, fun p h1 h2 => ?_, ?_, hB9⟩, by simp [intOf]; omega⟩
        · exact (Below.heap_setCell wa ⟨b + 1 + 1, 1 + y, none⟩ _ p (by simp; omega)).trans (HKa.out p h1 h2)
        · simp [World.setCell]; exact hsa
      · have hkn : l.take k = l := List.take_of_length_le (by have := HM.out; omega)
        rw [hkn] at R3
        clear hkn
        go_wp2_with (first
          | (refine wpList_load_rel rfl _ rfl rfl R3.out ?_)
          | (refine wpList_store_rel rfl _ _ rfl rfl rfl R2.out ?_; intro hr6; have HR6 := Lib.hid hr6; clear hr6))
        refine ret_rel rfl rfl HR6.out rfl ?_
        exact ⟨by rw [← HL.out, HV.out], Below.setRow' HBr.out (by omega)⟩
end Go.Proofs.YtgegmoedgegkcaaDoor

namespace Go.Proofs.YtgegmoedgegkcaaDoor
open Go.RowKit

set_option maxRecDepth 8000 in
theorem c_Into (n : Int) (f : Nat → BitVec 64) (w : World) (hT : Tab w) :
    Calls Tryd.prog 73 #[.agg (rcs n f)] w fun e w' => e = .returned (.int .u64 (iv (frm (prsR (backN n f) (bk (prsR n f)))))) ∧ Below w.heap.size w w' := by
  have HR := Lib.hid (RelAt.new w n f)
  have HB := Lib.hid ((Below.refl w.heap.size w).alloc (Nat.le_refl _) (.cells (rcs n f) 53))
  have HTw := Lib.hid (hT.alloc (.cells (rcs n f) 53))
  clear hT
  go_enter Tryd.func73, Tryd.ntmps73
  go_upto_region 1 with (fail)
  generalize w.alloc (.cells (rcs n f) 53) = wb at *
  obtain ⟨b, hb0, hle⟩ : ∃ b, w.heap.size = b ∧ w.heap.size ≤ b := ⟨_, rfl, Nat.le_refl _⟩
  rw [hb0] at HR ⊢
  clear hb0
  go_wp2_with (first
    | (refine wpList_load_rel rfl _ rfl rfl HR.out ?_)
    | (go_at_call 68; (with_reducible refine (c_Back n f _ HTw.out).mono ?_); rintro e w1 ⟨rfl, hb1⟩)
    | (go_at_call 72; (with_reducible refine (c_From _ _ _ (Tab.bel hb1 HTw.out)).mono ?_); rintro e w2 ⟨rfl, hb2⟩))
  go_ret
  exact ⟨rfl, Below.chain (Below.chain HB.out hb1) hb2⟩

/-- What Has answers. -/
def hasR (n : Int) (f : Nat → BitVec 64) (a b : Int) : Bool := right n f && (decide (0 ≤ a) && decide (0 ≤ b) && (decide (a < n) && decide (b < n)) && has (f a.toNat) b.toNat)

set_option maxRecDepth 8000 in
set_option maxHeartbeats 1000000 in
theorem c_Has (n : Int) (f : Nat → BitVec 64) (a c : Int) (w : World) :
    Calls Tryd.prog 47 #[.agg (rcs n f), .int .i64 a, .int .i64 c] w fun e w' => e = .returned (.bool (hasR n f a c)) ∧ Below w.heap.size w w' := by
  have HR := Lib.hid (RelAt.new w n f)
  have HB := Lib.hid ((Below.refl w.heap.size w).alloc (Nat.le_refl _) (.cells (rcs n f) 53))
  obtain ⟨mn, hmn⟩ : ∃ mn, (if c < a then c else a) = mn := ⟨_, rfl⟩
  obtain ⟨mx, hmx⟩ : ∃ mx, (if a < c then c else a) = mx := ⟨_, rfl⟩
  have hmn1 : (0 ≤ mn ↔ 0 ≤ a ∧ 0 ≤ c) := by rw [← hmn]; split <;> omega
  have hmx1 : (mx < n ↔ a < n ∧ c < n) := by rw [← hmx]; split <;> omega
  have HMN := Lib.hid hmn1
  have HMX := Lib.hid hmx1
  have HN := Lib.hid hmn
  have HX := Lib.hid hmx
  clear hmn hmx hmn1 hmx1
  go_enter Tryd.func47, Tryd.ntmps47
  go_upto_region 1 with (fail)
  generalize w.alloc (.cells (rcs n f) 53) = wb at *
  obtain ⟨b, hb0, hle⟩ : ∃ b, w.heap.size = b ∧ w.heap.size ≤ b := ⟨_, rfl, Nat.le_refl _⟩
  rw [hb0] at HR ⊢
  clear hb0
  cases hRf : right n f with
  | false =>
    have HA := Lib.hid (show ∀ w, Calls Tryd.prog 83 #[.agg (rcs n f)] w fun e w' => e = .returned (.bool false) ∧ Below w.heap.size w w' from fun w => hRf ▸ c_Right n f w)
    have HV := Lib.hid (show hasR n f a c = false by unfold hasR; rw [hRf]; rfl)
    clear hRf
    go_wp2_with (first
      | (refine wpList_load_rel rfl _ rfl rfl HR.out ?_)
      | (go_at_call 83; (with_reducible refine (HA.out _).mono ?_); rintro e wn ⟨rfl, hb⟩))
    go_ret
    exact ⟨by rw [HV.out]; rfl, Below.chain HB.out hb⟩
  | true =>
    obtain ⟨h0, h48⟩ := right_range hRf
    have HA := Lib.hid (show ∀ w, Calls Tryd.prog 83 #[.agg (rcs n f)] w fun e w' => e = .returned (.bool true) ∧ Below w.heap.size w w' from fun w => hRf ▸ c_Right n f w)
    have HV := Lib.hid (show hasR n f a c = (decide (0 ≤ a) && decide (0 ≤ c) && (decide (a < n) && decide (c < n)) && has (f a.toNat) c.toNat) by unfold hasR; rw [hRf]; rfl)
    clear hRf
    by_cases hp : 0 ≤ a ∧ 0 ≤ c
    · by_cases hq : a < n ∧ c < n
      · obtain ⟨x, rfl⟩ : ∃ x : Nat, a = x := ⟨a.toNat, (Int.toNat_of_nonneg hp.1).symm⟩
        obtain ⟨y, rfl⟩ : ∃ y : Nat, c = y := ⟨c.toNat, (Int.toNat_of_nonneg hp.2).symm⟩
        have hx48 : x < 48 := by omega
        have HW := Lib.hid (show hasR n f x y = has (f x) y by rw [HV.out, decide_eq_true hp.1, decide_eq_true hp.2, decide_eq_true hq.1, decide_eq_true hq.2]; rfl)
        have hy64 : (y : Int) < 64 := by omega
        obtain ⟨hq1, hq2⟩ := hq
        clear hp
        rcases Nat.lt_or_ge y x with hyx | hyx
        · have hyx' : ¬ (x : Int) < (y : Int) := by omega
          go_wp2_with (first
            | (refine wpList_load_rel rfl _ rfl rfl HR.out ?_)
            | (go_at_call 83; (with_reducible refine (HA.out _).mono ?_); rintro e wn ⟨rfl, hb⟩; have hn1 := (HR.out.over hb).n_cell; have hr1 := (HR.out.over hb).row hx48))
          go_ret
          exact ⟨by rw [HW.out]; rfl, Below.chain HB.out hb⟩
        · have hyx' : ¬ (y : Int) < (x : Int) := by omega
          rcases Nat.lt_or_ge x y with hxy | hxy
          · go_wp2_with (first
              | (refine wpList_load_rel rfl _ rfl rfl HR.out ?_)
              | (go_at_call 83; (with_reducible refine (HA.out _).mono ?_); rintro e wn ⟨rfl, hb⟩; have hn1 := (HR.out.over hb).n_cell; have hr1 := (HR.out.over hb).row hx48))
            go_ret
            exact ⟨by rw [HW.out]; rfl, Below.chain HB.out hb⟩
          · have hxy' : ¬ (x : Int) < (y : Int) := by omega
            go_wp2_with (first
              | (refine wpList_load_rel rfl _ rfl rfl HR.out ?_)
              | (go_at_call 83; (with_reducible refine (HA.out _).mono ?_); rintro e wn ⟨rfl, hb⟩; have hn1 := (HR.out.over hb).n_cell; have hr1 := (HR.out.over hb).row hx48))
            go_ret
            exact ⟨by rw [HW.out]; rfl, Below.chain HB.out hb⟩
      · have hd1 : decide (0 ≤ mn) = true := decide_eq_true (HMN.out.2 hp)
        have hd2 : decide (mx < n) = false := decide_eq_false (fun h => hq (HMX.out.1 h))
        have HW := Lib.hid (show hasR n f a c = false by
          rw [HV.out]
          have : (decide (a < n) && decide (c < n)) = false := by rw [← Bool.decide_and]; exact decide_eq_false hq
          rw [this, Bool.and_false, Bool.false_and])
        have hmn := HN.out
        have hmx := HX.out
        clear hp hq
        go_wp2_with (first
          | (refine wpList_load_rel rfl _ rfl rfl HR.out ?_)
          | (go_at_call 83; (with_reducible refine (HA.out _).mono ?_); rintro e wn ⟨rfl, hb⟩; have hn1 := (HR.out.over hb).n_cell))
        go_ret
        exact ⟨by rw [HW.out]; rfl, Below.chain HB.out hb⟩
    · have hd1 : decide (0 ≤ mn) = false := decide_eq_false (fun h => hp (HMN.out.1 h))
      have HW := Lib.hid (show hasR n f a c = false by
        rw [HV.out]
        have : (decide (0 ≤ a) && decide (0 ≤ c)) = false := by rw [← Bool.decide_and]; exact decide_eq_false hp
        rw [this, Bool.false_and, Bool.false_and])
      have hmn := HN.out
      clear hp
      go_wp2_with (first
        | (refine wpList_load_rel rfl _ rfl rfl HR.out ?_)
        | (go_at_call 83; (with_reducible refine (HA.out _).mono ?_); rintro e wn ⟨rfl, hb⟩; have hn1 := (HR.out.over hb).n_cell))
      go_ret
      exact ⟨by rw [HW.out]; rfl, Below.chain HB.out hb⟩
end Go.Proofs.YtgegmoedgegkcaaDoor

namespace Go.Proofs.YtgegmoedgegkcaaDoor
open Go.RowKit

noncomputable def plusR (n : Int) (f : Nat → BitVec 64) : Nat → BitVec 64 := if right n f then plusF n.toNat f else fun _ => 0#64
theorem plusV_rel (n : Int) (f : Nat → BitVec 64) : plusV n f = .agg (rcs (backN n f) (plusR n f)) := by
  unfold plusV backN plusR; split <;> rfl
theorem c_PlusR (n : Int) (f : Nat → BitVec 64) (w : World) (hT : Tab w) :
    Calls Tryd.prog 46 #[.agg (rcs n f)] w fun e w' => e = .returned (.agg (rcs (backN n f) (plusR n f))) ∧ Below w.heap.size w w' := plusV_rel n f ▸ c_Plus n f w hT
theorem backN_nat (n : Int) (f : Nat → BitVec 64) : ∃ m : Nat, backN n f = m ∧ m ≤ 48 := by
  unfold backN
  split
  · rename_i h
    have := right_range h
    exact ⟨n.toNat, by omega, by omega⟩
  · exact ⟨0, rfl, by omega⟩
/-- The first k things also with themselves. -/
def wself (g : Nat → BitVec 64) (k : Nat) : Nat → BitVec 64 := fun i => if i < k then g i ||| 1#64 <<< i else g i
theorem wself_zero (g : Nat → BitVec 64) : wself g 0 = g := by funext i; simp [wself]
theorem wself_at (g : Nat → BitVec 64) (k : Nat) : wself g k k = g k := by simp [wself]
theorem wself_succ (g : Nat → BitVec 64) (k : Nat) : upd (wself g k) k (g k ||| 1#64 <<< k) = wself g (k + 1) := by
  funext i
  unfold upd wself
  by_cases h : i = k
  · subst h; simp
  · by_cases h2 : i < k
    · simp [h, h2, show i < k + 1 by omega]
    · simp [h, h2, show ¬ i < k + 1 by omega]

set_option maxRecDepth 8000 in
set_option maxHeartbeats 1000000 in
theorem c_Star (n : Int) (f : Nat → BitVec 64) (w : World) (hT : Tab w) :
    Calls Tryd.prog 84 #[.agg (rcs n f)] w fun e w' => e = .returned (.agg (rcs (backN n f) (wself (plusR n f) (backN n f).toNat))) ∧ Below w.heap.size w w' := by
  have h1 : RelAt ((w.alloc (.cells (rcs n f) 53)).alloc (.cells (rcs 0 fun _ => 0#64) 53)) w.heap.size n f := (RelAt.new w n f).alloc _
  have h2 : RelAt ((w.alloc (.cells (rcs n f) 53)).alloc (.cells (rcs 0 fun _ => 0#64) 53)) (w.heap.size + 1) 0 (fun _ => 0#64) := by
    have := RelAt.new (w.alloc (.cells (rcs n f) 53)) 0 (fun _ => 0#64)
    rwa [World.size_alloc] at this
  have HB := Lib.hid (show Below w.heap.size w ((w.alloc (.cells (rcs n f) 53)).alloc (.cells (rcs 0 fun _ => 0#64) 53)) from ((Below.refl _ w).alloc (Nat.le_refl _) _).alloc (by simp) _)
  have H1 := Lib.hid h1
  have H2 := Lib.hid h2
  have HTw := Lib.hid hT
  clear h1 h2 hT
  obtain ⟨m, hm, hm48⟩ := backN_nat n f
  have HP := Lib.hid (fun w hT => c_PlusR n f w hT)
  rw [hm] at HP
  have HM := Lib.hid hm
  clear hm
  obtain ⟨g, hg⟩ : ∃ g, g = plusR n f := ⟨_, rfl⟩
  rw [← hg] at HP
  have HG := Lib.hid hg
  clear hg
  go_enter Tryd.func84, Tryd.ntmps84
  go_upto_region 1 with (refine wpList_alloc_rel rfl rfl ?_)
  simp only [World.size_alloc]
  generalize (w.alloc (.cells (rcs n f) 53)).alloc (.cells (rcs 0 fun _ => 0#64) 53) = wb at *
  obtain ⟨b, hb0, hle⟩ : ∃ b, w.heap.size = b ∧ w.heap.size ≤ b := ⟨_, rfl, Nat.le_refl _⟩
  rw [hb0] at H1 H2 ⊢
  clear hb0
  go_upto_region 2 with (first
    | (refine wpList_load_rel rfl _ rfl rfl H1.out ?_)
    | (go_at_call 46; (with_reducible refine (HP.out _ (Tab.bel HB.out HTw.out)).mono ?_); rintro e w1 ⟨rfl, hb⟩)
    | (refine wpList_alloc_rel rfl rfl ?_)
    | (refine wpList_store_rel rfl _ _ rfl rfl rfl (RelAt.new _ 0 _) ?_; intro hr3; have HR3 := Lib.hid hr3; clear hr3))
  have hsz := hb.size
  have hl2 := H2.out.lt
  have H2a := Lib.hid (((H2.out.over hb).alloc (.cells (rcs 0 fun _ => 0#64) 53)).setRow (c := w1.heap.size) (cs := rcs m g) (by omega))
  have HBa := Lib.hid (Below.setRow' (c := w1.heap.size) (cs := rcs m g) ((Below.chain HB.out hb).alloc (Below.chain HB.out hb).size (.cells (rcs 0 fun _ => 0#64) 53)) (Below.chain HB.out hb).size)
  have hlw := (Below.chain HB.out hb).size
  clear hb
  generalize (w1.alloc (.cells (rcs 0 fun _ => 0#64) 53)).setRow w1.heap.size (rcs m g) = wa at *
  obtain ⟨c, hc0, hbc, hwc⟩ : ∃ c, w1.heap.size = c ∧ b + 1 < c ∧ w.heap.size ≤ c := ⟨_, rfl, by omega, hlw⟩
  rw [hc0] at HR3 ⊢
  clear hc0 hsz hlw
  have hn3 := HR3.out.n_cell
  go_wp2
  clear hn3
  go_loopw [4, 9] (fun _ i wr => ∃ k : Nat, k ≤ m ∧ i = .int .i64 k ∧ RelAt wr c m (wself g k) ∧ RelAt wr (b + 1) 0 (fun _ => 0#64) ∧ Below w.heap.size w wr) (fun _ i _ => m - (intOf i).toNat)
  case atStart => exact ⟨0, by omega, rfl, by rw [wself_zero]; exact HR3.out, H2a.out, HBa.out⟩
  case round =>
    obtain ⟨k, hk, rfl, hr3, hr2, hbw⟩ := hrel
    have R3 := Lib.hid hr3
    have R2 := Lib.hid hr2
    have HBr := Lib.hid hbw
    clear hr3 hr2 hbw
    by_cases hlt : k < m
    · have hk48 : k < 48 := by omega
      have hki : (k : Int) < 48 := by omega
      have hrow := R3.out.row hk48
      rw [wself_at] at hrow
      have hfr := R3.out.unfrozen (1 + k)
      go_wp2
      go_region
      go_wp2
      have hs := (R3.out.set hk48 (g k ||| 1#64 <<< k)).drewN 1
      rw [wself_succ] at hs
      exact ⟨⟨k + 1, by omega, by go_num, hs, (R2.out.other (by simp; omega)).drewN 1, below_drewN (HBr.out.setCell (p := ⟨c, 1 + k, none⟩) (by simpa using hwc) _) 1⟩, by simp [intOf]; omega⟩
    · have hkm : k = m := by omega
      subst hkm
      go_wp2_with (first
        | (refine wpList_load_rel rfl _ rfl rfl R3.out ?_)
        | (refine wpList_store_rel rfl _ _ rfl rfl rfl R2.out ?_; intro hr6; have HR6 := Lib.hid hr6; clear hr6))
      refine ret_rel rfl rfl HR6.out rfl ?_
      exact ⟨by rw [HM.out, ← HG.out, Int.toNat_natCast], Below.setRow' HBr.out (by omega)⟩
end Go.Proofs.YtgegmoedgegkcaaDoor

namespace Go.Proofs.YtgegmoedgegkcaaDoor
open Go.RowKit

/-- Of n things the rows of h, if n may be. -/
def ofN (n : Int) (h : Nat → BitVec 64) : Value := if 0 ≤ n ∧ n ≤ 48 then .agg (rcs n (below48 h n.toNat)) else .agg (rcs 0 fun _ => 0#64)

theorem goes119 : Goes 119 := goes Tryd.func119 (by kernel_rfl) rfl
set_option maxRecDepth 8000 in
theorem c_Id1 (s : BitVec 64) (b k : Nat) (hk : k < 48) (w : World) (h1 : w.cell? ⟨b, 0, none⟩ = some (.int .u64 (iv s))) :
    Calls Tryd.prog 119 #[.int .i64 k, .pointer (some ⟨b, 0, none⟩)] w fun e w' => e = .returned (.int .u64 (iv (s &&& 1#64 <<< k))) ∧ Below w.heap.size w w' := by
  have hk64 : (k : Int) < 64 := by omega
  go_enter Tryd.func119, Tryd.ntmps119
  go_wp2
  go_quiet (fail)
  go_wp2
  go_ret
  exact ⟨rfl, below_drewN (Below.refl _ _) _⟩
set_option maxRecDepth 8000 in
theorem c_Id (n : Int) (s : BitVec 64) (w : World) :
    Calls Tryd.prog 69 #[.int .i64 n, .int .u64 (iv s)] w fun e w' => e = .returned (ofN n fun k => s &&& 1#64 <<< k) ∧ Below w.heap.size w w' := by
  have hc : (w.alloc (.cells #[.int .u64 (iv s)] 23)).cell? ⟨w.heap.size, 0, none⟩ = some (.int .u64 (iv s)) := by rw [cell_of_row _ _ _ _ _ _ (heap_alloc_new w _)]; rfl
  have h4 : RelAt ((w.alloc (.cells #[.int .u64 (iv s)] 23)).alloc (.cells (rcs 0 fun _ => 0#64) 53)) (w.heap.size + 1) 0 (fun _ => 0#64) := by
    have := RelAt.new (w.alloc (.cells #[.int .u64 (iv s)] 23)) 0 (fun _ => 0#64)
    rwa [World.size_alloc] at this
  have hc2 : ((w.alloc (.cells #[.int .u64 (iv s)] 23)).alloc (.cells (rcs 0 fun _ => 0#64) 53)).cell? ⟨w.heap.size, 0, none⟩ = some (.int .u64 (iv s)) := by
    rw [World.cell?_of_block (w := w.alloc (.cells #[.int .u64 (iv s)] 23)) (Below.heap_alloc _ _ _ (by simp))]; exact hc
  have HB := Lib.hid (show Below w.heap.size w ((w.alloc (.cells #[.int .u64 (iv s)] 23)).alloc (.cells (rcs 0 fun _ => 0#64) 53)) from ((Below.refl _ w).alloc (Nat.le_refl _) _).alloc (by simp) _)
  have H4 := Lib.hid h4
  have HC := Lib.hid hc2
  clear h4 hc hc2
  go_enter Tryd.func69, Tryd.ntmps69
  go_upto_region 1 with (refine wpList_alloc_rel rfl rfl ?_)
  simp only [World.size_alloc]
  generalize (w.alloc (.cells #[.int .u64 (iv s)] 23)).alloc (.cells (rcs 0 fun _ => 0#64) 53) = wb at *
  obtain ⟨b, hb0, hle⟩ : ∃ b, w.heap.size = b ∧ w.heap.size ≤ b := ⟨_, rfl, Nat.le_refl _⟩
  rw [hb0] at H4 HC ⊢
  clear hb0
  by_cases hn : 0 ≤ n ∧ n ≤ 48
  · obtain ⟨m, rfl⟩ : ∃ m : Nat, n = m := ⟨n.toNat, (Int.toNat_of_nonneg hn.1).symm⟩
    have hm : m ≤ 48 := by omega
    have HV := Lib.hid (show ofN m (fun k => s &&& 1#64 <<< k) = .agg (rcs m (below48 (fun k => s &&& 1#64 <<< k) m)) by unfold ofN; rw [if_pos hn]; rfl)
    have hl4 := H4.out.lt
    have HRW := Lib.hid (show RowIs wb 119 #[.pointer (some ⟨b, 0, none⟩)] m (fun k => s &&& 1#64 <<< k) from fun k w1 hk hb1 => c_Id1 s b k (Nat.lt_of_lt_of_le hk hm) w1 ((hb1.cell (p := ⟨b, 0, none⟩) (by show b < _; omega)).trans HC.out))
    clear hn
    go_wp2_with (first
      | (go_at_call 101; (with_reducible refine (c_rows m hm 119 #[.pointer (some ⟨b, 0, none⟩)] (fun k => s &&& 1#64 <<< k) _ goes119 HRW.out).mono ?_); rintro e w2 ⟨rfl, hb2⟩)
      | (refine wpList_store_rel rfl _ _ rfl rfl rfl (H4.out.over hb2) ?_; intro hr6; have HR6 := Lib.hid hr6; clear hr6))
    refine ret_rel rfl rfl HR6.out rfl ?_
    exact ⟨by rw [HV.out], Below.setRow' (Below.chain HB.out hb2) (by omega)⟩
  · have HV := Lib.hid (show ofN n (fun k => s &&& 1#64 <<< k) = .agg (rcs 0 fun _ => 0#64) by unfold ofN; rw [if_neg hn])
    by_cases h0 : n < 0
    · clear hn
      go_wp2_with (first
        | (refine wpList_build_rel0 rfl rfl ?_)
        | (refine wpList_store_rel rfl _ _ rfl rfl rfl H4.out ?_; intro hr6; have HR6 := Lib.hid hr6; clear hr6))
      refine ret_rel rfl rfl HR6.out rfl ?_
      exact ⟨by rw [HV.out], Below.setRow' HB.out (by omega)⟩
    · have h1 : 48 < n := by omega
      clear hn
      go_wp2_with (first
        | (refine wpList_build_rel0 rfl rfl ?_)
        | (refine wpList_store_rel rfl _ _ rfl rfl rfl H4.out ?_; intro hr6; have HR6 := Lib.hid hr6; clear hr6))
      refine ret_rel rfl rfl HR6.out rfl ?_
      exact ⟨by rw [HV.out], Below.setRow' HB.out (by omega)⟩
end Go.Proofs.YtgegmoedgegkcaaDoor

namespace Go.Proofs.YtgegmoedgegkcaaDoor
open Go.RowKit

def crossF (n : Int) (s t : BitVec 64) : Nat → BitVec 64 := fun x => if has s x then t &&& mall n else 0#64
theorem goes108 : Goes 108 := goes Tryd.func108 (by kernel_rfl) rfl
set_option maxRecDepth 8000 in
theorem c_Cross1 (n : Int) (s t : BitVec 64) (b k : Nat) (hk : k < 48) (w : World) (h1 : w.cell? ⟨b, 0, none⟩ = some (.int .i64 n)) (h2 : w.cell? ⟨b + 1, 0, none⟩ = some (.int .u64 (iv s))) (h3 : w.cell? ⟨b + 1 + 1, 0, none⟩ = some (.int .u64 (iv t))) :
    Calls Tryd.prog 108 #[.int .i64 k, .pointer (some ⟨b + 1, 0, none⟩), .pointer (some ⟨b + 1 + 1, 0, none⟩), .pointer (some ⟨b, 0, none⟩)] w fun e w' => e = .returned (.int .u64 (iv (crossF n s t k))) ∧ Below w.heap.size w w' := by
  have hk64 : (k : Int) < 64 := by omega
  have H1 := Lib.hid h1
  have H3 := Lib.hid h3
  have L1 : b < w.heap.size := World.lt_of_cell h1
  have L3 : b + 1 + 1 < w.heap.size := World.lt_of_cell h3
  cases hs : has s k with
  | true =>
    have HV := Lib.hid (show crossF n s t k = t &&& mall n by unfold crossF; rw [hs]; rfl)
    go_enter Tryd.func108, Tryd.ntmps108
    go_wp2
    (refine wp_region_calm (by kernel_rfl) (by kernel_rfl) ?_; (repeat ((refine calm_step (fun K hK => ?_)); go_simp; (first | (refine hK _ ?_; clear hK K) | (refine Calm.of ?_; apply Exists.intro; refine ⟨fun wcalm hcalm => ?_, hK _ ?_⟩; (focus (((have e1 := (hcalm.cell (p := ⟨b, 0, none⟩) L1).trans H1.out; have e3 := (hcalm.cell (p := ⟨b + 1 + 1, 0, none⟩) L3).trans H3.out)); go_simp; first | done | ((go_at_call 27; with_reducible exact calm_same hcalm (c_All n _))) | rfl)); clear hK K)))); refine calm_nil ?_; intro wq hq)
    go_wp2
    go_ret
    exact ⟨by rw [HV.out]; rfl, hq⟩
  | false =>
    have HV := Lib.hid (show crossF n s t k = 0#64 by unfold crossF; rw [hs]; rfl)
    go_enter Tryd.func108, Tryd.ntmps108
    go_wp2
    go_ret
    exact ⟨by rw [HV.out]; rfl, Below.refl _ _⟩

theorem keep_cell {w : World} {p : Addr} {v : Value} (h : w.cell? p = some v) (o : Obj) : (w.alloc o).cell? p = some v := by
  have hlt : p.block < w.heap.size := World.lt_of_cell h
  rw [World.cell?_of_block (w := w) (Below.heap_alloc _ _ _ hlt)]; exact h
theorem new_cell (w : World) (v : Value) (e : TypeId) : (w.alloc (.cells #[v] e)).cell? ⟨w.heap.size, 0, none⟩ = some v := by
  rw [cell_of_row _ _ _ _ _ _ (heap_alloc_new w _)]; rfl
set_option maxRecDepth 8000 in
theorem c_Cross (n : Int) (s t : BitVec 64) (w : World) :
    Calls Tryd.prog 50 #[.int .i64 n, .int .u64 (iv s), .int .u64 (iv t)] w fun e w' => e = .returned (ofN n (crossF n s t)) ∧ Below w.heap.size w w' := by
  have hc1 := keep_cell (keep_cell (keep_cell (new_cell w (.int .i64 n) 3) (.cells #[.int .u64 (iv s)] 23)) (.cells #[.int .u64 (iv t)] 23)) (.cells (rcs 0 fun _ => 0#64) 53)
  have hc2 := keep_cell (keep_cell (new_cell (w.alloc (.cells #[.int .i64 n] 3)) (.int .u64 (iv s)) 23) (.cells #[.int .u64 (iv t)] 23)) (.cells (rcs 0 fun _ => 0#64) 53)
  have hc3 := keep_cell (new_cell ((w.alloc (.cells #[.int .i64 n] 3)).alloc (.cells #[.int .u64 (iv s)] 23)) (.int .u64 (iv t)) 23) (.cells (rcs 0 fun _ => 0#64) 53)
  have h4 := RelAt.new (((w.alloc (.cells #[.int .i64 n] 3)).alloc (.cells #[.int .u64 (iv s)] 23)).alloc (.cells #[.int .u64 (iv t)] 23)) 0 (fun _ => 0#64)
  have hb := (((((Below.refl _ w).alloc (Nat.le_refl _) (.cells #[.int .i64 n] 3)).alloc (by simp) (.cells #[.int .u64 (iv s)] 23)).alloc (by simp; omega) (.cells #[.int .u64 (iv t)] 23)).alloc (by simp; omega) (.cells (rcs 0 fun _ => 0#64) 53))
  simp only [World.size_alloc] at hc2 hc3 h4
  have HB := Lib.hid hb
  have H4 := Lib.hid h4
  have HC1 := Lib.hid hc1
  have HC2 := Lib.hid hc2
  have HC3 := Lib.hid hc3
  clear hc1 hc2 hc3 h4 hb
  go_enter Tryd.func50, Tryd.ntmps50
  go_upto_region 1 with (refine wpList_alloc_rel rfl rfl ?_)
  simp only [World.size_alloc]
  generalize (((w.alloc (.cells #[.int .i64 n] 3)).alloc (.cells #[.int .u64 (iv s)] 23)).alloc (.cells #[.int .u64 (iv t)] 23)).alloc (.cells (rcs 0 fun _ => 0#64) 53) = wb at *
  obtain ⟨b, hb0, hle⟩ : ∃ b, w.heap.size = b ∧ w.heap.size ≤ b := ⟨_, rfl, Nat.le_refl _⟩
  rw [hb0] at H4 HC1 HC2 HC3 ⊢
  clear hb0
  have hn1 := HC1.out
  by_cases hn : 0 ≤ n ∧ n ≤ 48
  · obtain ⟨m, rfl⟩ : ∃ m : Nat, n = m := ⟨n.toNat, (Int.toNat_of_nonneg hn.1).symm⟩
    have hm : m ≤ 48 := by omega
    have HV := Lib.hid (show ofN m (crossF m s t) = .agg (rcs m (below48 (crossF m s t) m)) by unfold ofN; rw [if_pos hn]; rfl)
    have hl4 := H4.out.lt
    have HRW := Lib.hid (show RowIs wb 108 #[.pointer (some ⟨b + 1, 0, none⟩), .pointer (some ⟨b + 1 + 1, 0, none⟩), .pointer (some ⟨b, 0, none⟩)] m (crossF m s t) from fun k w1 hk hb1 => c_Cross1 m s t b k (Nat.lt_of_lt_of_le hk hm) w1
      ((hb1.cell (p := ⟨b, 0, none⟩) (by show b < _; omega)).trans HC1.out) ((hb1.cell (p := ⟨b + 1, 0, none⟩) (by show b + 1 < _; omega)).trans HC2.out) ((hb1.cell (p := ⟨b + 1 + 1, 0, none⟩) (by show b + 1 + 1 < _; omega)).trans HC3.out))
    clear hn
    go_wp2_with (first
      | (go_at_call 101; (with_reducible refine (c_rows m hm 108 #[.pointer (some ⟨b + 1, 0, none⟩), .pointer (some ⟨b + 1 + 1, 0, none⟩), .pointer (some ⟨b, 0, none⟩)] (crossF m s t) _ goes108 HRW.out).mono ?_); rintro e w2 ⟨rfl, hb2⟩)
      | (refine wpList_store_rel rfl _ _ rfl rfl rfl (H4.out.over hb2) ?_; intro hr6; have HR6 := Lib.hid hr6; clear hr6))
    refine ret_rel rfl rfl HR6.out rfl ?_
    exact ⟨by rw [HV.out], Below.setRow' (Below.chain HB.out hb2) (by omega)⟩
  · have HV := Lib.hid (show ofN n (crossF n s t) = .agg (rcs 0 fun _ => 0#64) by unfold ofN; rw [if_neg hn])
    by_cases h0 : n < 0
    · clear hn
      go_wp2_with (first
        | (refine wpList_build_rel0 rfl rfl ?_)
        | (refine wpList_store_rel rfl _ _ rfl rfl rfl H4.out ?_; intro hr6; have HR6 := Lib.hid hr6; clear hr6))
      refine ret_rel rfl rfl HR6.out rfl ?_
      exact ⟨by rw [HV.out], Below.setRow' HB.out (by omega)⟩
    · have h1 : 48 < n := by omega
      clear hn
      go_wp2_with (first
        | (refine wpList_build_rel0 rfl rfl ?_)
        | (refine wpList_store_rel rfl _ _ rfl rfl rfl H4.out ?_; intro hr6; have HR6 := Lib.hid hr6; clear hr6))
      refine ret_rel rfl rfl HR6.out rfl ?_
      exact ⟨by rw [HV.out], Below.setRow' HB.out (by omega)⟩
end Go.Proofs.YtgegmoedgegkcaaDoor

namespace Go.Proofs.YtgegmoedgegkcaaDoor
open Go.RowKit

def emptyR (n : Int) (f : Nat → BitVec 64) : Bool := right n f && (prsR n f).length == 0
set_option maxRecDepth 8000 in
theorem c_Empty (n : Int) (f : Nat → BitVec 64) (w : World) (hT : Tab w) :
    Calls Tryd.prog 61 #[.agg (rcs n f)] w fun e w' => e = .returned (.bool (emptyR n f)) ∧ Below w.heap.size w w' := by
  have HR := Lib.hid (RelAt.new w n f)
  have HB := Lib.hid ((Below.refl w.heap.size w).alloc (Nat.le_refl _) (.cells (rcs n f) 53))
  have HTw := Lib.hid (hT.alloc (.cells (rcs n f) 53))
  obtain ⟨m, hm⟩ : ∃ m, (prsR n f).length = m := ⟨_, rfl⟩
  have HM := Lib.hid hm
  clear hT hm
  go_enter Tryd.func61, Tryd.ntmps61
  go_upto_region 1 with (fail)
  generalize w.alloc (.cells (rcs n f) 53) = wb at *
  obtain ⟨b, hb0, hle⟩ : ∃ b, w.heap.size = b ∧ w.heap.size ≤ b := ⟨_, rfl, Nat.le_refl _⟩
  rw [hb0] at HR ⊢
  clear hb0
  cases hRf : right n f with
  | false =>
    have HA := Lib.hid (show ∀ w, Calls Tryd.prog 83 #[.agg (rcs n f)] w fun e w' => e = .returned (.bool false) ∧ Below w.heap.size w w' from fun w => hRf ▸ c_Right n f w)
    have HV := Lib.hid (show emptyR n f = false by unfold emptyR; rw [hRf]; rfl)
    clear hRf
    go_wp2_with (first
      | (refine wpList_load_rel rfl _ rfl rfl HR.out ?_)
      | (go_at_call 83; (with_reducible refine (HA.out _).mono ?_); rintro e wn ⟨rfl, hb⟩))
    go_ret
    exact ⟨by rw [HV.out]; rfl, Below.chain HB.out hb⟩
  | true =>
    have HA := Lib.hid (show ∀ w, Calls Tryd.prog 83 #[.agg (rcs n f)] w fun e w' => e = .returned (.bool true) ∧ Below w.heap.size w w' from fun w => hRf ▸ c_Right n f w)
    have HV := Lib.hid (show emptyR n f = (m == 0) by unfold emptyR; rw [hRf, HM.out]; rfl)
    clear hRf
    by_cases h0 : m = 0
    · subst h0
      go_wp2_with (first
        | (refine wpList_load_rel rfl _ rfl rfl HR.out ?_)
        | (go_at_call 83; (with_reducible refine (HA.out _).mono ?_); rintro e wn ⟨rfl, hb⟩)
        | (refine wpList_load_rel_g _ rfl rfl (by rfl) (HR.out.over hb) ?_)
        | (go_at_call 56; (with_reducible refine (c_Pairs2 n f 0 HM.out _ (Tab.bel hb HTw.out)).mono ?_); rintro e w2 ⟨ad, cap, rfl, hpr, hb2⟩; clear hpr))
      go_ret
      exact ⟨by rw [HV.out]; rfl, Below.chain (Below.chain HB.out hb) hb2⟩
    · have hd : ((m : Int) == 0) = false := beq_eq_false_iff_ne.2 (by omega)
      have HW := Lib.hid (show emptyR n f = false by rw [HV.out]; exact beq_eq_false_iff_ne.2 h0)
      go_wp2_with (first
        | (refine wpList_load_rel rfl _ rfl rfl HR.out ?_)
        | (go_at_call 83; (with_reducible refine (HA.out _).mono ?_); rintro e wn ⟨rfl, hb⟩)
        | (refine wpList_load_rel_g _ rfl rfl (by rfl) (HR.out.over hb) ?_)
        | (go_at_call 56; (with_reducible refine (c_Pairs2 n f m HM.out _ (Tab.bel hb HTw.out)).mono ?_); rintro e w2 ⟨ad, cap, rfl, hpr, hb2⟩; clear hpr))
      go_ret
      exact ⟨by rw [HW.out]; rfl, Below.chain (Below.chain HB.out hb) hb2⟩

theorem goes114 : Goes 114 := goes Tryd.func114 (by kernel_rfl) rfl
set_option maxRecDepth 8000 in
theorem c_Irr1 (x y : Nat) (w : World) : Calls Tryd.prog 114 #[.agg #[.int .i64 (x : Int), .int .i64 (y : Int)]] w fun e w' => e = .returned (.bool (x == y)) ∧ Below w.heap.size w w' := by
  cases hxy : x == y with
  | true =>
    obtain rfl := eq_of_beq hxy
    clear hxy
    go_enter Tryd.func114, Tryd.ntmps114
    go_wp2
    go_ret
    exact ⟨rfl, (Below.refl w.heap.size w).alloc (Nat.le_refl _) _⟩
  | false =>
    have hne : ((x : Int) == (y : Int)) = false := by
      have := beq_eq_false_iff_ne.1 hxy
      exact beq_eq_false_iff_ne.2 (by omega)
    clear hxy
    go_enter Tryd.func114, Tryd.ntmps114
    go_wp2
    go_ret
    exact ⟨rfl, (Below.refl w.heap.size w).alloc (Nat.le_refl _) _⟩

/-- A pair of a thing with itself. -/
def selfP (p : Nat × Nat) : Bool := p.1 == p.2
def fstSelf (l : List (Nat × Nat)) : Int := match l.findIdx? selfP with | some k => k | none => -1
theorem fstSelf_hit {l : List (Nat × Nat)} {k : Nat} (hk : k < l.length) (hno : ∀ j (h : j < l.length), j < k → selfP l[j] = false) (h : selfP l[k] = true) : fstSelf l = k := by
  unfold fstSelf
  have : l.findIdx? selfP = some k := by
    rw [List.findIdx?_eq_some_iff_getElem]
    exact ⟨hk, h, fun j hj => by rw [hno j (by omega) hj]; simp⟩
  rw [this]
theorem fstSelf_miss {l : List (Nat × Nat)} (hno : ∀ j (h : j < l.length), selfP l[j] = false) : fstSelf l = -1 := by
  unfold fstSelf
  have : l.findIdx? selfP = none := by
    rw [List.findIdx?_eq_none_iff]
    intro x hx
    obtain ⟨j, hj, rfl⟩ := List.mem_iff_getElem.1 hx
    exact hno j hj
  rw [this]

set_option maxRecDepth 8000 in
set_option maxHeartbeats 1000000 in
theorem c_Index135 (l : List (Nat × Nat)) (m : Nat) (hm : l.length = m) (hm3 : m ≤ 3072) (ad : Option Addr) (cap : Nat) (w : World) (hp : PrAt w w.heap.size ad l) :
    Calls Tryd.prog 135 #[.slice ad m cap, .func (.func 114) #[] #[]] w fun e w' => e = .returned (.int .i64 (fstSelf l)) ∧ Below w.heap.size w w' := by
  have HP := Lib.hid hp
  have HM := Lib.hid hm
  clear hp hm
  go_enter Tryd.func135, Tryd.ntmps135
  go_wp2
  go_loopw [5, 8] (fun _ i wr => ∃ k : Nat, k ≤ m ∧ i = .int .i64 k ∧ (∀ j (h : j < l.length), j < k → selfP l[j] = false) ∧ Below w.heap.size w wr) (fun _ i _ => m - (intOf i).toNat)
  case atStart => exact ⟨0, by omega, rfl, fun j _ h => by omega, Below.refl _ _⟩
  case round =>
    obtain ⟨k, hk, rfl, hno, hbr⟩ := hrel
    have HNo := Lib.hid hno
    have HBr := Lib.hid hbr
    clear hno hbr
    by_cases hlt : k < m
    · have hkl : k < l.length := by have := HM.out; omega
      have HHit := Lib.hid (fstSelf_hit hkl HNo.out)
      obtain ⟨c, rfl, hclt, hc1, hc2⟩ := (HP.out.below HBr.out) k _ (List.getElem?_eq_getElem hkl)
      have HNext := Lib.hid (fun (h : selfP l[k] = false) j (hj : j < l.length) (hjk : j < k + 1) => show selfP l[j] = false by
        by_cases e : j = k
        · subst e; exact h
        · exact HNo.out j hj (by omega))
      obtain ⟨p, hp⟩ : ∃ p, p = l[k] := ⟨_, rfl⟩
      rw [← hp] at hc1 hc2 HHit HNext
      clear hp
      obtain ⟨x, y⟩ := p
      simp only at hc1 hc2
      cases hxy : x == y with
      | true =>
        have HA := Lib.hid (show ∀ w, Calls Tryd.prog 114 #[.agg #[.int .i64 (x : Int), .int .i64 (y : Int)]] w fun e w' => e = .returned (.bool true) ∧ Below w.heap.size w w' from fun w => hxy ▸ c_Irr1 x y w)
        have HV := Lib.hid (HHit.out hxy)
        clear hxy
        go_wp2_with (go_at_call 114; (with_reducible refine (HA.out _).mono ?_); rintro e wn ⟨rfl, hb⟩)
        go_ret
        exact ⟨by rw [HV.out]; rfl, Below.chain HBr.out hb⟩
      | false =>
        have HA := Lib.hid (show ∀ w, Calls Tryd.prog 114 #[.agg #[.int .i64 (x : Int), .int .i64 (y : Int)]] w fun e w' => e = .returned (.bool false) ∧ Below w.heap.size w w' from fun w => hxy ▸ c_Irr1 x y w)
        have HX := Lib.hid (HNext.out hxy)
        clear hxy
        go_wp2_with (go_at_call 114; (with_reducible refine (HA.out _).mono ?_); rintro e wn ⟨rfl, hb⟩)
        exact ⟨⟨k + 1, by omega, by go_num, HX.out, Below.chain HBr.out hb⟩, by simp [intOf]; omega⟩
    · have hkm : k = m := by omega
      have HV := Lib.hid (fstSelf_miss (l := l) fun j hj => HNo.out j hj (by have := HM.out; omega))
      clear hkm
      go_wp2
      go_ret
      exact ⟨by rw [HV.out]; rfl, HBr.out⟩
end Go.Proofs.YtgegmoedgegkcaaDoor

namespace Go.Proofs.YtgegmoedgegkcaaDoor
open Go.RowKit

theorem fstSelf_any (l : List (Nat × Nat)) : (l.any selfP = true → 0 ≤ fstSelf l) ∧ (l.any selfP = false → fstSelf l = -1) := by
  constructor
  · intro h
    unfold fstSelf
    cases hf : l.findIdx? selfP with
    | some k => simp
    | none =>
      rw [List.findIdx?_eq_none_iff] at hf
      obtain ⟨x, hx, h2⟩ := List.any_eq_true.1 h
      rw [hf x hx] at h2; cases h2
  · intro h
    exact fstSelf_miss fun j hj => by
      have := List.any_eq_false.1 h l[j] (List.getElem_mem hj)
      simpa using this
set_option maxRecDepth 8000 in
theorem c_Contains113 (l : List (Nat × Nat)) (m : Nat) (hm : l.length = m) (hm3 : m ≤ 3072) (ad : Option Addr) (cap : Nat) (w : World) (hp : PrAt w w.heap.size ad l) :
    Calls Tryd.prog 113 #[.slice ad m cap, .func (.func 114) #[] #[]] w fun e w' => e = .returned (.bool (l.any selfP)) ∧ Below w.heap.size w w' := by
  have HI := Lib.hid (c_Index135 l m hm hm3 ad cap w hp)
  obtain ⟨h1, h2⟩ := fstSelf_any l
  obtain ⟨i, hi⟩ : ∃ i, fstSelf l = i := ⟨_, rfl⟩
  rw [hi] at HI h1 h2
  clear hi hp
  cases ha : l.any selfP with
  | true =>
    have h3 := h1 ha
    clear ha h1 h2
    go_enter Tryd.func113, Tryd.ntmps113
    go_wp2_with (go_at_call 135; (with_reducible refine HI.out.mono ?_); rintro e wn ⟨rfl, hb⟩)
    go_ret
    exact ⟨by simp, hb⟩
  | false =>
    have h3 := h2 ha
    clear ha h1 h2
    subst h3
    go_enter Tryd.func113, Tryd.ntmps113
    go_wp2_with (go_at_call 135; (with_reducible refine HI.out.mono ?_); rintro e wn ⟨rfl, hb⟩)
    go_ret
    exact ⟨rfl, hb⟩

def irrR (n : Int) (f : Nat → BitVec 64) : Bool := right n f && !(prsR n f).any selfP
set_option maxRecDepth 8000 in
theorem c_Irr (n : Int) (f : Nat → BitVec 64) (w : World) (hT : Tab w) :
    Calls Tryd.prog 54 #[.agg (rcs n f)] w fun e w' => e = .returned (.bool (irrR n f)) ∧ Below w.heap.size w w' := by
  have HR := Lib.hid (RelAt.new w n f)
  have HB := Lib.hid ((Below.refl w.heap.size w).alloc (Nat.le_refl _) (.cells (rcs n f) 53))
  have HTw := Lib.hid (hT.alloc (.cells (rcs n f) 53))
  obtain ⟨m, hm⟩ : ∃ m, (prsR n f).length = m := ⟨_, rfl⟩
  have hm3 : m ≤ 3072 := hm ▸ prsR_le n f
  have HM := Lib.hid hm
  clear hT hm
  go_enter Tryd.func54, Tryd.ntmps54
  go_upto_region 1 with (fail)
  generalize w.alloc (.cells (rcs n f) 53) = wb at *
  obtain ⟨b, hb0, hle⟩ : ∃ b, w.heap.size = b ∧ w.heap.size ≤ b := ⟨_, rfl, Nat.le_refl _⟩
  rw [hb0] at HR ⊢
  clear hb0
  cases hRf : right n f with
  | false =>
    have HA := Lib.hid (show ∀ w, Calls Tryd.prog 83 #[.agg (rcs n f)] w fun e w' => e = .returned (.bool false) ∧ Below w.heap.size w w' from fun w => hRf ▸ c_Right n f w)
    have HV := Lib.hid (show irrR n f = false by unfold irrR; rw [hRf]; rfl)
    clear hRf
    go_wp2_with (first
      | (refine wpList_load_rel rfl _ rfl rfl HR.out ?_)
      | (go_at_call 83; (with_reducible refine (HA.out _).mono ?_); rintro e wn ⟨rfl, hb⟩))
    go_ret
    exact ⟨by rw [HV.out]; rfl, Below.chain HB.out hb⟩
  | true =>
    have HA := Lib.hid (show ∀ w, Calls Tryd.prog 83 #[.agg (rcs n f)] w fun e w' => e = .returned (.bool true) ∧ Below w.heap.size w w' from fun w => hRf ▸ c_Right n f w)
    have HV := Lib.hid (show irrR n f = !(prsR n f).any selfP by unfold irrR; rw [hRf]; rfl)
    clear hRf
    have HP := Lib.hid (fun w hT => c_Pairs2 n f m HM.out w hT)
    obtain ⟨l, hl⟩ : ∃ l, l = prsR n f := ⟨_, rfl⟩
    rw [← hl] at HM HV HP
    clear hl
    obtain ⟨v, hv⟩ : ∃ v, l.any selfP = v := ⟨_, rfl⟩
    have HC := Lib.hid (fun ad cap w hp => c_Contains113 l m HM.out hm3 ad cap w hp)
    rw [hv] at HC HV
    clear hv
    go_wp2_with (first
      | (refine wpList_load_rel rfl _ rfl rfl HR.out ?_)
      | (go_at_call 83; (with_reducible refine (HA.out _).mono ?_); rintro e wn ⟨rfl, hb⟩)
      | (refine wpList_load_rel_g _ rfl rfl (by rfl) (HR.out.over hb) ?_)
      | (go_at_call 56; (with_reducible refine (HP.out _ (Tab.bel hb HTw.out)).mono ?_); rintro e w2 ⟨ad, cap, rfl, hpr, hb2⟩; have HPR := Lib.hid hpr; clear hpr)
      | (go_at_call 113; (with_reducible refine (HC.out _ _ _ HPR.out).mono ?_); rintro e w3 ⟨rfl, hb3⟩))
    go_ret
    exact ⟨by rw [HV.out]; rfl, Below.chain (Below.chain (Below.chain HB.out hb) hb2) hb3⟩
end Go.Proofs.YtgegmoedgegkcaaDoor

namespace Go.Proofs.YtgegmoedgegkcaaDoor
open Go.RowKit

/-- The place of the first that p holds of, or -1. -/
def fstOf (p : Nat → Bool) (l : List Nat) : Int := match l.findIdx? p with | some k => k | none => -1
theorem fstOf_hit {p : Nat → Bool} {l : List Nat} {k : Nat} (hk : k < l.length) (hno : ∀ j (h : j < l.length), j < k → p l[j] = false) (h : p l[k] = true) : fstOf p l = k := by
  unfold fstOf
  have : l.findIdx? p = some k := by
    rw [List.findIdx?_eq_some_iff_getElem]
    exact ⟨hk, h, fun j hj => by rw [hno j (by omega) hj]; simp⟩
  rw [this]
theorem fstOf_miss {p : Nat → Bool} {l : List Nat} (hno : ∀ j (h : j < l.length), p l[j] = false) : fstOf p l = -1 := by
  unfold fstOf
  have : l.findIdx? p = none := by
    rw [List.findIdx?_eq_none_iff]
    intro x hx
    obtain ⟨j, hj, rfl⟩ := List.mem_iff_getElem.1 hx
    exact hno j hj
  rw [this]
/-- What a test answers. -/
abbrev TestIs (w : World) (F : FuncId) (caps : Array Value) (l : List Nat) (p : Nat → Bool) : Prop :=
  ∀ x ∈ l, ∀ w1, Below w.heap.size w w1 → Calls Tryd.prog F (#[.int .i64 (x : Int)] ++ caps) w1 fun e w' => e = .returned (.bool (p x)) ∧ Below w1.heap.size w1 w'

set_option maxRecDepth 8000 in
set_option maxHeartbeats 1000000 in
theorem c_Index106 (l : List Nat) (p : Nat → Bool) (m : Nat) (hm : l.length = m) (hm3 : m ≤ 3072) (ad : Option Addr) (cap : Nat) (F : FuncId) (caps : Array Value) (w : World) (hp : SlAt w w.heap.size ad (vn l)) (hgo : Goes F) (ht : TestIs w F caps l p) :
    Calls Tryd.prog 106 #[.slice ad m cap, .func (.func F) #[] caps] w fun e w' => e = .returned (.int .i64 (fstOf p l)) ∧ Below w.heap.size w w' := by
  have HP := Lib.hid hp
  have HM := Lib.hid hm
  have HGo := Lib.hid hgo
  have HT := Lib.hid ht
  clear hp hm hgo ht
  go_enter Tryd.func106, Tryd.ntmps106
  go_wp2
  go_loopw [5, 8] (fun _ i wr => ∃ k : Nat, k ≤ m ∧ i = .int .i64 k ∧ (∀ j (h : j < l.length), j < k → p l[j] = false) ∧ Below w.heap.size w wr) (fun _ i _ => m - (intOf i).toNat)
  case atStart => exact ⟨0, by omega, rfl, fun j _ h => by omega, Below.refl _ _⟩
  case round =>
    obtain ⟨k, hk, rfl, hno, hbr⟩ := hrel
    have HNo := Lib.hid hno
    have HBr := Lib.hid hbr
    clear hno hbr
    by_cases hlt : k < m
    · have hkl : k < l.length := by have := HM.out; omega
      have HHit := Lib.hid (fstOf_hit (p := p) hkl HNo.out)
      obtain ⟨c, off, rfl, hclt, hc1⟩ := (HP.out.below HBr.out).nat hkl
      have HNext := Lib.hid (fun (h : p l[k] = false) j (hj : j < l.length) (hjk : j < k + 1) => show p l[j] = false by
        by_cases e : j = k
        · subst e; exact h
        · exact HNo.out j hj (by omega))
      have HC := Lib.hid (HT.out l[k] (List.getElem_mem hkl) wr HBr.out)
      obtain ⟨x, hx⟩ : ∃ x, x = l[k] := ⟨_, rfl⟩
      rw [← hx] at hc1 HHit HNext HC
      clear hx
      have hgo : ∀ args w, (callFunc F args).run Tryd.prog w = .ok (.enter F args) w := HGo.out
      cases hxy : p x with
      | true =>
        have HV := Lib.hid (HHit.out hxy)
        rw [hxy] at HC
        clear hxy
        go_wp2_with ((with_reducible refine HC.out.mono ?_); rintro e wn ⟨rfl, hb⟩)
        go_ret
        exact ⟨by rw [HV.out]; rfl, Below.chain HBr.out hb⟩
      | false =>
        have HX := Lib.hid (HNext.out hxy)
        rw [hxy] at HC
        clear hxy
        go_wp2_with ((with_reducible refine HC.out.mono ?_); rintro e wn ⟨rfl, hb⟩)
        exact ⟨⟨k + 1, by omega, by go_num, HX.out, Below.chain HBr.out hb⟩, by simp [intOf]; omega⟩
    · have HV := Lib.hid (fstOf_miss (p := p) (l := l) fun j hj => HNo.out j hj (by have := HM.out; omega))
      go_wp2
      go_ret
      exact ⟨by rw [HV.out]; rfl, HBr.out⟩

theorem goes107 : Goes 107 := goes Tryd.func107 (by kernel_rfl) rfl
set_option maxRecDepth 8000 in
theorem c_Top1 (n : Int) (f : Nat → BitVec 64) (s : BitVec 64) (b c k : Nat) (hk : k < 48) (w : World) (h1 : RelAt w b n f) (h2 : w.cell? ⟨c, 0, none⟩ = some (.int .u64 (iv s))) :
    Calls Tryd.prog 107 #[.int .i64 k, .pointer (some ⟨b, 0, none⟩), .pointer (some ⟨c, 0, none⟩)] w fun e w' => e = .returned (.bool (f k &&& s == 0#64)) ∧ Below w.heap.size w w' := by
  have hc1 := h1.row hk
  clear h1
  go_enter Tryd.func107, Tryd.ntmps107
  go_wp2
  go_quiet (fail)
  go_wp2
  go_ret
  exact ⟨rfl, below_drewN (Below.refl _ _) _⟩
end Go.Proofs.YtgegmoedgegkcaaDoor

namespace Go.Proofs.YtgegmoedgegkcaaDoor
open Go.RowKit

/-- The order, from what is left on. -/
def topGo (bkf : Nat → BitVec 64) : Nat → BitVec 64 → List Nat → Option (List Nat)
  | 0, _, out => some out
  | k + 1, left, out => match (Mk.elems left).find? (fun a => bkf a &&& left == 0#64) with
    | none => none
    | some a => topGo bkf k (left &&& ~~~ (1#64 <<< a)) (out ++ [a])
theorem fstOf_find {p : Nat → Bool} {l : List Nat} : (l.find? p = none ∧ fstOf p l = -1) ∨ ∃ (i : Nat) (h : i < l.length), l.find? p = some l[i] ∧ fstOf p l = i := by
  cases hf : l.findIdx? p with
  | none =>
    refine .inl ⟨?_, by unfold fstOf; rw [hf]⟩
    rw [List.findIdx?_eq_none_iff] at hf
    rw [List.find?_eq_none]
    intro x hx
    rw [hf x hx]; simp
  | some i =>
    rw [List.findIdx?_eq_some_iff_getElem] at hf
    obtain ⟨h, h1, h2⟩ := hf
    refine .inr ⟨i, h, ?_, ?_⟩
    · rw [List.find?_eq_some_iff_getElem]
      exact ⟨h1, i, h, rfl, fun j hj => by simpa using h2 j hj⟩
    · exact fstOf_hit h (fun j hj hji => by have := h2 j hji; simpa using this) h1
def topR (n : Int) (f : Nat → BitVec 64) : Option (List Nat) := if right n f then topGo (bk (prsR n f)) (Mk.elems (mall n)).length (mall n) [] else none
theorem elems_drop {s : BitVec 64} {a : Nat} (ha : a ∈ Mk.elems s) : (Mk.elems (s &&& ~~~ (1#64 <<< a))).length + 1 = (Mk.elems s).length := by
  have ha64 : a < 64 := has_lt (Mk.mem_elems.1 ha)
  have h1 : ∀ l : List Nat, l.Nodup → (∀ x ∈ l, x < 64) → l.countP (fun b => has (s &&& ~~~ (1#64 <<< a)) b) + (if a ∈ l ∧ has s a = true then 1 else 0) = l.countP (fun b => has s b) := by
    intro l
    induction l with
    | nil => simp
    | cons x l ih =>
      intro hnd hlt
      have ih := ih (List.nodup_cons.1 hnd).2 fun y hy => hlt y (by simp [hy])
      have hx := hlt x (by simp)
      rw [List.countP_cons, List.countP_cons]
      have hh : has (s &&& ~~~ (1#64 <<< a)) x = (has s x && !decide (x = a)) := by
        show (s &&& ~~~ (1#64 <<< a)).getLsbD x = _
        rw [BitVec.getLsbD_and]
        have := has_not (1#64 <<< a) x
        unfold has at this
        rw [this, show (1#64 <<< a).getLsbD x = _ from has_one a x ha64]
        simp [has, hx]
      rw [hh]
      by_cases e : x = a
      · subst e
        have hn : x ∉ l := (List.nodup_cons.1 hnd).1
        simp only [hn, false_and, if_false] at ih
        have hm := Mk.mem_elems.1 ha
        have hm' : has s x = true := hm
        simp [hm']
        omega
      · have hm : (a ∈ x :: l ↔ a ∈ l) := by simp [Ne.symm e]
        simp only [hm]
        simp only [e, decide_false, Bool.not_false, Bool.and_true]
        omega
  have := h1 (List.range 64) List.nodup_range (fun x hx => List.mem_range.1 hx)
  have hm : has s a = true := Mk.mem_elems.1 ha
  rw [if_pos ⟨List.mem_range.2 ha64, hm⟩] at this
  rw [elems_count, elems_count]; exact this

theorem owns_of_heap {w w' : World} {base e size n : Nat} {v : Value} {xs : List Value} (h : w.ownsRow base e size v n xs) (hh : ∀ g, v.ownBlock = some g → w'.heap[g]? = w.heap[g]?) : w'.ownsRow base e size v n xs := by
  obtain ⟨hl, h1 | ⟨g, cap, cur, rfl, hg, hx, r⟩⟩ := h
  · exact ⟨hl, .inl h1⟩
  · exact ⟨hl, .inr ⟨g, cap, cur, rfl, hg, (hh g rfl).trans hx, r⟩⟩
set_option maxRecDepth 8000 in
set_option maxHeartbeats 2000000 in
/-- rel.Top: an order, or nothing. -/
theorem c_Top (n : Int) (f : Nat → BitVec 64) (w : World) (hT : Tab w) :
    Calls Tryd.prog 49 #[.agg (rcs n f)] w fun e w' => ∃ v, e = .returned (.tuple #[v, .bool (topR n f).isSome]) ∧ w'.ownsRow w.heap.size 3 1 v ((topR n f).getD []).length (vn ((topR n f).getD [])) ∧ Below w.heap.size w w' := by
  have HR := Lib.hid (RelAt.new w n f)
  have HB := Lib.hid ((Below.refl w.heap.size w).alloc (Nat.le_refl _) (.cells (rcs n f) 53))
  have HTw := Lib.hid (hT.alloc (.cells (rcs n f) 53))
  obtain ⟨i0, hi, hz0, hz1, hz2⟩ := info_parts Tryd.info3
  have HT00 := Lib.hid hT
  clear hT
  go_enter Tryd.func49, Tryd.ntmps49
  go_upto_region 1 with (fail)
  generalize w.alloc (.cells (rcs n f) 53) = wb at *
  obtain ⟨b, hb0, hle⟩ : ∃ b, w.heap.size = b ∧ w.heap.size ≤ b := ⟨_, rfl, Nat.le_refl _⟩
  rw [hb0] at HR ⊢
  clear hb0
  cases hRf : right n f with
  | false =>
    have HA := Lib.hid (show ∀ w, Calls Tryd.prog 83 #[.agg (rcs n f)] w fun e w' => e = .returned (.bool false) ∧ Below w.heap.size w w' from fun w => hRf ▸ c_Right n f w)
    have HV := Lib.hid (show topR n f = none by unfold topR; rw [hRf]; rfl)
    clear hRf
    go_wp2_with (first
      | (refine wpList_load_rel rfl _ rfl rfl HR.out ?_)
      | (go_at_call 83; (with_reducible refine (HA.out _).mono ?_); rintro e wn ⟨rfl, hb⟩))
    go_ret2
    exact ⟨_, by rw [HV.out]; rfl, by rw [HV.out]; exact World.ownsRow_nil _ _ _ _, Below.chain HB.out hb⟩
  | true =>
    obtain ⟨h0, h48⟩ := right_range hRf
    have HA := Lib.hid (show ∀ w, Calls Tryd.prog 83 #[.agg (rcs n f)] w fun e w' => e = .returned (.bool true) ∧ Below w.heap.size w w' from fun w => hRf ▸ c_Right n f w)
    have HN := Lib.hid (show backN n f = n by unfold backN; rw [hRf]; rfl)
    have HBk := Lib.hid (fun w hT => c_Back n f w hT)
    rw [HN.out] at HBk
    obtain ⟨B, hB⟩ : ∃ B, B = bk (prsR n f) := ⟨_, rfl⟩
    rw [← hB] at HBk
    have HV := Lib.hid (show topR n f = topGo B (Mk.elems (mall n)).length (mall n) [] by unfold topR; rw [hRf, hB]; rfl)
    clear hRf hB
    go_upto_region 6 with (first
      | (refine wpList_load_rel rfl _ rfl rfl HR.out ?_)
      | (go_at_call 83; (with_reducible refine (HA.out _).mono ?_); rintro e wn ⟨rfl, hb⟩; have hT1 := Tab.bel hb HTw.out)
      | (refine wpList_load_rel rfl _ rfl rfl (HR.out.over hb) ?_)
      | (go_at_call 68; (with_reducible refine (HBk.out _ hT1).mono ?_); rintro e w2 ⟨rfl, hb2⟩)
      | (refine wpList_alloc_rel rfl rfl ?_)
      | (refine wpList_store_rel rfl _ _ rfl rfl rfl (RelAt.new _ 0 _) ?_; intro hr3; have HR5 := Lib.hid hr3; have hn1 := (((HR.out.over (Below.chain hb hb2)).alloc (.cells (rcs 0 fun _ => 0#64) 53)).setRow (c := w2.heap.size) (cs := rcs n B) (by have h9 := (HR.out.over (Below.chain hb hb2)).lt; omega)).n_cell; clear hr3)
      | (go_at_call 27; (with_reducible refine (c_All _ _).mono ?_); rintro e wa ⟨rfl, rfl⟩))
    have hbw2 := Below.chain HB.out (Below.chain hb hb2)
    have hbw3 : Below w.heap.size w (((w2.alloc (.cells (rcs 0 fun _ => 0#64) 53)).setRow w2.heap.size (rcs n B)).alloc (.cells #[.int .u64 (iv (mall n))] 23)) :=
      (Below.setRow' (hbw2.alloc hbw2.size _) hbw2.size).alloc (by have := hbw2.size; simp [World.setRow]; omega) _
    have hsw2 := hbw2.size
    have hleft : (((w2.alloc (.cells (rcs 0 fun _ => 0#64) 53)).setRow w2.heap.size (rcs n B)).alloc (.cells #[.int .u64 (iv (mall n))] 23)).heap[w2.heap.size + 1]? = some (.cells #[.int .u64 (iv (mall n))] 23 (0, 0)) := by
      have := heap_alloc_new ((w2.alloc (.cells (rcs 0 fun _ => 0#64) 53)).setRow w2.heap.size (rcs n B)) (.cells #[.int .u64 (iv (mall n))] 23)
      simpa [World.setRow] using this
    have hr5 := HR5.out.alloc (.cells #[.int .u64 (iv (mall n))] 23)
    have hs3 : (((w2.alloc (.cells (rcs 0 fun _ => 0#64) 53)).setRow w2.heap.size (rcs n B)).alloc (.cells #[.int .u64 (iv (mall n))] 23)).heap.size = w2.heap.size + 2 := by simp [World.setRow]
    clear hb hb2 hT1 hn1 hbw2
    generalize ((w2.alloc (.cells (rcs 0 fun _ => 0#64) 53)).setRow w2.heap.size (rcs n B)).alloc (.cells #[.int .u64 (iv (mall n))] 23) = w3 at *
    generalize w2.heap.size = c5 at *
    have HT3 := Lib.hid (Tab.bel hbw3 HT00.out)
    have HE48 := Lib.hid (show ∀ x ∈ Mk.elems (mall n), x < 48 from fun x hx => by
      have h1 := Mk.mem_elems.1 hx
      have h2 := has_mall n x
      unfold has at h2
      rw [h1] at h2
      simp only [Bool.true_eq, Bool.and_eq_true, decide_eq_true_eq] at h2
      omega)
    have HL64 := Lib.hid (Mk.elems_length_le (mall n))
    have HLE := Lib.hid hleft
    have HR5' := Lib.hid hr5
    have HBW3 := Lib.hid hbw3
    clear hleft hr5 hbw3
    go_loopg [4, 6] (Mk.elems (mall n)).length (fun k v s6 wr => ∃ (lc : Nat) (left : BitVec 64) (out : List Nat), s6 = .pointer (some ⟨lc, 0, none⟩) ∧ k = (Mk.elems left).length ∧ wr.heap[lc]? = some (.cells #[.int .u64 (iv left)] 23 (0, 0)) ∧
      wr.ownsRow w3.heap.size 3 1 v out.length (vn out) ∧ (∀ g, v.ownBlock = some g → g ≠ lc) ∧ RelAt wr c5 n B ∧ topGo B k left out = topR n f ∧ (∀ x ∈ Mk.elems left, x < 48) ∧ out.length + k ≤ 64 ∧ c5 < lc ∧ w3.heap.size ≤ wr.heap.size ∧ Below w.heap.size w wr ∧ Tab wr)
    case atStart => exact ⟨c5 + 1, mall n, [], rfl, rfl, HLE.out, World.ownsRow_nil _ _ _ _, fun g hg => by simp [Value.ownBlock] at hg, HR5'.out, HV.out.symm, HE48.out, by simpa using HL64.out, by omega, Nat.le_refl _, HBW3.out, HT3.out⟩
    case round =>
      obtain ⟨lc, left, out, rfl, hgk, hlc, hown, hblk, hr5, htop, he48, ho64, hclc, hsz, hbw, hTr⟩ := hrel
      have HLC := Lib.hid hlc
      have HOW := Lib.hid hown
      have HBLK := Lib.hid hblk
      have R5 := Lib.hid hr5
      have HTOP := Lib.hid htop
      have HE := Lib.hid he48
      have HBW := Lib.hid hbw
      have HTR := Lib.hid hTr
      have HGK := Lib.hid hgk
      have hc := cell_of_row wr lc 0 _ _ _ hlc
      simp only [List.getElem?_toArray, List.getElem?_cons_zero] at hc
      clear hlc hown hblk hr5 htop he48 hbw hTr hgk
      cases hz : left != 0#64 with
      | false =>
        have hl0 : left = 0#64 := by
          have h1 := bne_eq_true_flip hz
          exact eq_of_beq h1
        have HK0 := Lib.hid (show topR n f = some out by
          have h1 := HTOP.out
          rw [HGK.out, hl0] at h1
          exact h1.symm)
        go_wp2
        go_ret2
        exact ⟨_, by rw [HK0.out]; rfl, by rw [HK0.out]; exact ownsRow_base HOW.out HBW3.out.size, HBW.out⟩
      | true =>
        have hlcl : lc < wr.heap.size := (Array.getElem?_eq_some_iff.1 HLC.out).1
        obtain ⟨m, hm⟩ : ∃ m, (Mk.elems left).length = m := ⟨_, rfl⟩
        have hm64 : m ≤ 64 := hm ▸ Mk.elems_length_le left
        have HM := Lib.hid hm
        have HLI := Lib.hid (cs_List left m hm wr HTR.out)
        have HTest := Lib.hid (show ∀ w1, Below wr.heap.size wr w1 → TestIs w1 107 #[.pointer (some ⟨c5, 0, none⟩), .pointer (some ⟨lc, 0, none⟩)] (Mk.elems left) (fun a => B a &&& left == 0#64) from
          fun w1 h1 x hx w2 h2 => c_Top1 n B left c5 lc x (HE.out x hx) w2 (R5.out.over (Below.chain h1 h2)) (((Below.chain h1 h2).cell (p := ⟨lc, 0, none⟩) hlcl).trans hc))
        have HIX := Lib.hid (fun ad cap w1 (h1 : Below wr.heap.size wr w1) hsl => c_Index106 (Mk.elems left) (fun a => B a &&& left == 0#64) m HM.out (by omega) ad cap 107 _ w1 hsl goes107 (HTest.out w1 h1))
        clear hm
        rcases fstOf_find (p := fun a => B a &&& left == 0#64) (l := Mk.elems left) with ⟨hf1, hf2⟩ | ⟨i, hil, hf1, hf2⟩
        · have HK0 := Lib.hid (show topR n f = none by
            have h1 := HTOP.out
            have hpos : 0 < gk := by
              apply Nat.pos_of_ne_zero
              intro h0
              have h2 := HGK.out
              rw [h0] at h2
              have h3 : Mk.elems left = [] := List.eq_nil_of_length_eq_zero h2.symm
              have h4 : left = 0#64 := Mk.has_ext' fun j => by
                cases hb : has left j with
                | false => rw [has_zero]
                | true =>
                  have := Mk.mem_elems.2 hb
                  rw [h3] at this; cases this
              rw [h4] at hz; cases hz
            obtain ⟨q, rfl⟩ : ∃ q, gk = q + 1 := ⟨gk - 1, by omega⟩
            unfold topGo at h1
            rw [hf1] at h1
            exact h1.symm)
          rw [hf2] at HIX
          clear hf1 hf2
          go_wp2_with (first
            | (go_at_call 30; (with_reducible refine HLI.out.mono ?_); rintro e w1 ⟨ad, cap, rfl, hsl, hb1⟩; have HSL := Lib.hid hsl; clear hsl)
            | (go_at_call 106; (with_reducible refine (HIX.out _ _ _ hb1 HSL.out).mono ?_); rintro e w2 ⟨rfl, hb2⟩))
          go_ret2
          exact ⟨_, by rw [HK0.out]; rfl, by rw [HK0.out]; exact World.ownsRow_nil _ _ _ _, Below.chain (Below.chain HBW.out hb1) hb2⟩
        · rw [hf2] at HIX
          have hmp : mpick left i = some (Mk.elems left)[i] := by unfold mpick; rw [if_neg (by omega)]; simp [hil]
          have ha48 := HE.out _ (List.getElem_mem hil)
          have hdrop := elems_drop (List.getElem_mem hil)
          have hsub : ∀ x ∈ Mk.elems (left &&& ~~~ (1#64 <<< (Mk.elems left)[i])), x < 48 := fun x hx => by
            have h1 := Mk.mem_elems.1 hx
            rw [BitVec.getLsbD_and, Bool.and_eq_true] at h1
            exact HE.out x (Mk.mem_elems.2 h1.1)
          have hi64 : i < 64 := by have := HM.out; omega
          have HPK := Lib.hid (fun w hT => c_Pick left i w hT (by omega) (by omega))
          rw [hmp] at HPK
          have htop2 := HTOP.out
          have hgk2 := HGK.out
          obtain ⟨q, rfl⟩ : ∃ q, gk = q + 1 := ⟨gk - 1, by omega⟩
          unfold topGo at htop2
          rw [hf1] at htop2
          obtain ⟨a, ha⟩ : ∃ a, a = (Mk.elems left)[i] := ⟨_, rfl⟩
          rw [← ha] at ha48 hdrop hsub HPK htop2
          simp only [Option.getD_some, Option.isSome_some] at HPK
          change topGo B q (left &&& ~~~ (1#64 <<< a)) (out ++ [a]) = topR n f at htop2
          obtain ⟨left2, hl2⟩ : ∃ l2, l2 = left &&& ~~~ (1#64 <<< a) := ⟨_, rfl⟩
          rw [← hl2] at hdrop hsub htop2
          have HL2 := Lib.hid hl2
          have HTOP2 := Lib.hid htop2
          have HSUB := Lib.hid hsub
          have HQ := Lib.hid (show q = (Mk.elems left2).length by omega)
          have hbase := HOW.out
          have hai : (a : Int) < 64 := by omega
          clear hf1 hf2 hmp hdrop hsub htop2 hgk2 ha hl2 hil hbase
          go_upto_region 12 with (first
            | (go_at_call 30; (with_reducible refine HLI.out.mono ?_); rintro e w1 ⟨ad, cap, rfl, hsl, hb1⟩; have HSL := Lib.hid hsl; clear hsl)
            | (go_at_call 106; (with_reducible refine (HIX.out _ _ _ hb1 HSL.out).mono ?_); rintro e w2 ⟨rfl, hb2⟩; have hbb2 := Below.chain hb1 hb2; have hc := (hbb2.cell (p := ⟨lc, 0, none⟩) hlcl).trans (cell_of_row wr lc 0 _ _ _ HLC.out))
            | (go_at_call 38; (with_reducible refine (HPK.out _ (Tab.bel hbb2 HTR.out)).mono ?_); rintro e w4 ⟨rfl, hb4⟩; have hbb4 := Below.chain hbb2 hb4; have hown4 := owns_over HOW.out hbb4; have hs4 := hbb4.size)
            | (at_builtin; refine wpList_append_own2 _ rfl _ _ 24 rfl w3.heap.size 3 i0 _ 1 8 Tryd.underlying24 hi hz0 hz1 hz2 rfl (by decide) _ _ _ rfl (hown4.alloc _) ⟨w4.heap.size, 0, none⟩ 1 1 [.int .i64 (a : Int)] rfl rfl (cell_one_new _ _ _) (by simp [Value.oneCell']) (by unfold maxLen; omega) (by omega) (by simp; omega) ?_; intro v' w5 hown5 hgrow hsn))
          have hsz5 := hgrow.size
          simp only [World.size_alloc] at hsz5
          have keep5 : ∀ p, p < wr.heap.size → (∀ g, u4.ownBlock = some g → g ≠ p) → w5.heap[p]? = wr.heap[p]? := fun p hp hne => by
            rw [hgrow.block p (by simp only [World.size_alloc]; omega) (fun h => hne p h.symm rfl), Below.heap_alloc _ _ _ (by omega)]
            exact hbb4.block p hp
          have hlc5 := (keep5 lc hlcl HBLK.out).trans HLC.out
          have hr55 : RelAt w5 c5 n B := ⟨(keep5 c5 R5.out.lt (fun g hg => by have := (owned_block HOW.out hg).1; omega)).trans R5.out.heap⟩
          have hnl : ∀ g, v'.ownBlock = some g → g ≠ lc := fun g hg => by
            rcases hsn with h | h
            · exact HBLK.out g (h ▸ hg)
            · have := h g hg
              simp only [World.size_alloc] at this
              omega
          have hB5 : Below w.heap.size w w5 := ((Below.chain HBW.out hbb4).alloc (Below.chain HBW.out hbb4).size _).grown hgrow (by have := (Below.chain HBW.out hbb4).size; simp only [World.size_alloc]; omega) (fun g hg => by have h1 := (owned_block HOW.out hg).1; have h2 := HBW3.out.size; omega)
          have hwlc : w.heap.size ≤ lc := by omega
          have HO5 := Lib.hid hown5
          have HLC5 := Lib.hid hlc5
          have HR55 := Lib.hid hr55
          have HNL := Lib.hid hnl
          have HB5 := Lib.hid hB5
          have hc := cell_of_row w5 lc 0 _ _ _ hlc5
          simp only [List.getElem?_toArray, List.getElem?_cons_zero] at hc
          have hf : w5.frozen? ⟨lc, 0, none⟩ = false := by simp [World.frozen?, hlc5]
          clear hgrow keep5 hlc5 hr55 hnl hB5 hown5 hsn hbb4 hown4 hbb2
          go_region
          go_wp2
          have hssz : (w5.setCell ⟨lc, 0, none⟩ (.int .u64 (iv (left &&& ~~~ (1#64 <<< a))))).heap.size = w5.heap.size := by simp [World.setCell]
          have hlc5 : lc < w5.heap.size := (Array.getElem?_eq_some_iff.1 HLC5.out).1
          have hheap : (((w5.setCell ⟨lc, 0, none⟩ (.int .u64 (iv (left &&& ~~~ (1#64 <<< a))))).alloc (.cells #[.int .u64 (iv (left &&& ~~~ (1#64 <<< a)))] 23)).drew).heap[w5.heap.size]? = some (.cells #[.int .u64 (iv left2)] 23 (0, 0)) := by
            have h1 := heap_alloc_new (w5.setCell ⟨lc, 0, none⟩ (.int .u64 (iv (left &&& ~~~ (1#64 <<< a))))) (.cells #[.int .u64 (iv (left &&& ~~~ (1#64 <<< a)))] 23)
            rw [hssz] at h1
            rw [HL2.out]
            exact h1
          have hownF : (((w5.setCell ⟨lc, 0, none⟩ (.int .u64 (iv (left &&& ~~~ (1#64 <<< a))))).alloc (.cells #[.int .u64 (iv (left &&& ~~~ (1#64 <<< a)))] 23)).drew).ownsRow w3.heap.size 3 1 v' (out ++ [a]).length (vn (out ++ [a])) := by
            rw [show vn (out ++ [a]) = vn out ++ [.int .i64 (a : Int)] by simp [vn], List.length_append]
            refine owns_of_heap HO5.out fun g hg => ?_
            have h1 := (owned_block HO5.out hg).2
            have h2 := HNL.out g hg
            exact (Below.heap_alloc _ _ g (by rw [hssz]; exact h1)).trans (Below.heap_setCell w5 ⟨lc, 0, none⟩ _ g (by simpa using h2))
          have hB7 := below_drewN ((HB5.out.setCell (p := ⟨lc, 0, none⟩) hwlc (.int .u64 (iv (left &&& ~~~ (1#64 <<< a))))).alloc (by rw [hssz]; exact HB5.out.size) (.cells #[.int .u64 (iv (left &&& ~~~ (1#64 <<< a)))] 23)) 1
          have hR7 := ((HR55.out.other (p := ⟨lc, 0, none⟩) (v := .int .u64 (iv (left &&& ~~~ (1#64 <<< a)))) (by show c5 ≠ lc; omega)).alloc (.cells #[.int .u64 (iv (left &&& ~~~ (1#64 <<< a)))] 23)).drewN 1
          have hsz7 : w3.heap.size ≤ (((w5.setCell ⟨lc, 0, none⟩ (.int .u64 (iv (left &&& ~~~ (1#64 <<< a))))).alloc (.cells #[.int .u64 (iv (left &&& ~~~ (1#64 <<< a)))] 23)).drew).heap.size := by
            show w3.heap.size ≤ ((w5.setCell ⟨lc, 0, none⟩ (.int .u64 (iv (left &&& ~~~ (1#64 <<< a))))).alloc (.cells #[.int .u64 (iv (left &&& ~~~ (1#64 <<< a)))] 23)).heap.size
            rw [World.size_alloc, hssz]; omega
          have hT7 := Tab.bel hB7 HT00.out
          go_roundg q
          case measure => omega
          case rel => exact ⟨w5.heap.size, left2, out ++ [a], rfl, HQ.out, hheap, hownF, fun g hg => by have := (owned_block HO5.out hg).2; omega, hR7, HTOP2.out, HSUB.out, by simp; omega, by omega, hsz7, hB7, hT7⟩
end Go.Proofs.YtgegmoedgegkcaaDoor

namespace Go.Proofs.YtgegmoedgegkcaaDoor
open Go.RowKit

set_option maxRecDepth 8000 in
theorem c_Acyclic (n : Int) (f : Nat → BitVec 64) (w : World) (hT : Tab w) :
    Calls Tryd.prog 55 #[.agg (rcs n f)] w fun e w' => e = .returned (.bool (topR n f).isSome) ∧ Below w.heap.size w w' := by
  have HR := Lib.hid (RelAt.new w n f)
  have HB := Lib.hid ((Below.refl w.heap.size w).alloc (Nat.le_refl _) (.cells (rcs n f) 53))
  have HTw := Lib.hid (hT.alloc (.cells (rcs n f) 53))
  have HTop := Lib.hid (fun w hT => c_Top n f w hT)
  obtain ⟨v, hv⟩ : ∃ v, (topR n f).isSome = v := ⟨_, rfl⟩
  rw [hv] at HTop
  have HV := Lib.hid hv
  clear hT hv
  go_enter Tryd.func55, Tryd.ntmps55
  go_upto_region 1 with (fail)
  generalize w.alloc (.cells (rcs n f) 53) = wb at *
  obtain ⟨b, hb0, hle⟩ : ∃ b, w.heap.size = b ∧ w.heap.size ≤ b := ⟨_, rfl, Nat.le_refl _⟩
  rw [hb0] at HR ⊢
  clear hb0
  go_wp2_with (first
    | (refine wpList_load_rel rfl _ rfl rfl HR.out ?_)
    | (go_at_call 49; (with_reducible refine (HTop.out _ HTw.out).mono ?_); rintro e wn ⟨u, rfl, hown, hb⟩; clear hown))
  go_ret
  exact ⟨by rw [HV.out]; rfl, Below.chain HB.out hb⟩
end Go.Proofs.YtgegmoedgegkcaaDoor

namespace Go.Proofs.YtgegmoedgegkcaaDoor
open Go.RowKit

def inR (n m : Int) (f g : Nat → BitVec 64) : Bool := twoOk n m f g && emptyR n (below48 (fun k => f k &&& ~~~g k) n.toNat)
set_option maxRecDepth 8000 in
theorem c_In (n m : Int) (f g : Nat → BitVec 64) (w : World) (hT : Tab w) :
    Calls Tryd.prog 66 #[.agg (rcs n f), .agg (rcs m g)] w fun e w' => e = .returned (.bool (inR n m f g)) ∧ Below w.heap.size w w' := by
  have h1 : RelAt ((w.alloc (.cells (rcs n f) 53)).alloc (.cells (rcs m g) 53)) w.heap.size n f := (RelAt.new w n f).alloc _
  have h2 : RelAt ((w.alloc (.cells (rcs n f) 53)).alloc (.cells (rcs m g) 53)) (w.heap.size + 1) m g := by
    have := RelAt.new (w.alloc (.cells (rcs n f) 53)) m g
    rwa [World.size_alloc] at this
  have HB := Lib.hid (show Below w.heap.size w ((w.alloc (.cells (rcs n f) 53)).alloc (.cells (rcs m g) 53)) from ((Below.refl _ w).alloc (Nat.le_refl _) _).alloc (by simp) _)
  have H1 := Lib.hid h1
  have H2 := Lib.hid h2
  clear h1 h2
  have HTw := Lib.hid hT
  have hl := fun w => c_Less n m f g w
  unfold twoV at hl
  cases ht : twoOk n m f g with
  | true =>
    rw [ht] at hl
    simp only [if_true] at hl
    have HL := Lib.hid hl
    have HV := Lib.hid (show inR n m f g = emptyR n (below48 (fun k => f k &&& ~~~g k) n.toNat) by unfold inR; rw [ht]; rfl)
    clear hl ht hT
    go_enter Tryd.func66, Tryd.ntmps66
    go_upto_region 1 with (fail)
    try simp only [World.size_alloc]
    generalize (w.alloc (.cells (rcs n f) 53)).alloc (.cells (rcs m g) 53) = wb at *
    obtain ⟨b, hb0, hle⟩ : ∃ b, w.heap.size = b ∧ w.heap.size ≤ b := ⟨_, rfl, Nat.le_refl _⟩
    rw [hb0] at H1 H2 ⊢
    clear hb0
    go_wp2_with (first
      | (refine wpList_load_rel rfl _ rfl rfl H1.out ?_)
      | (refine wpList_load_rel rfl _ rfl rfl H2.out ?_)
      | (go_at_call 71; (with_reducible refine (HL.out _).mono ?_); rintro e w1 ⟨rfl, hb1⟩)
      | (refine wpList_alloc_rel rfl rfl ?_)
      | (refine wpList_store_rel rfl _ _ rfl rfl rfl (RelAt.new _ 0 _) ?_; intro hr5; have hb5 := Below.setRow' (c := w1.heap.size) (cs := rcs n (below48 (fun k => f k &&& ~~~g k) n.toNat)) (hb1.alloc hb1.size (.cells (rcs 0 fun _ => 0#64) 53)) hb1.size)
      | (refine wpList_load_rel_g _ rfl rfl (by rfl) hr5 ?_)
      | (go_at_call 61; (with_reducible refine (c_Empty _ _ _ (Tab.bel (Below.chain HB.out hb5) HTw.out)).mono ?_); rintro e w6 ⟨rfl, hb6⟩))
    go_ret
    exact ⟨by rw [HV.out]; rfl, Below.chain (Below.chain HB.out hb5) hb6⟩
  | false =>
    rw [ht] at hl
    simp only [Bool.false_eq_true, if_false] at hl
    have HL := Lib.hid hl
    have HV := Lib.hid (show inR n m f g = false by unfold inR; rw [ht]; rfl)
    clear hl ht hT
    go_enter Tryd.func66, Tryd.ntmps66
    go_upto_region 1 with (fail)
    try simp only [World.size_alloc]
    generalize (w.alloc (.cells (rcs n f) 53)).alloc (.cells (rcs m g) 53) = wb at *
    obtain ⟨b, hb0, hle⟩ : ∃ b, w.heap.size = b ∧ w.heap.size ≤ b := ⟨_, rfl, Nat.le_refl _⟩
    rw [hb0] at H1 H2 ⊢
    clear hb0
    go_wp2_with (first
      | (refine wpList_load_rel rfl _ rfl rfl H1.out ?_)
      | (refine wpList_load_rel rfl _ rfl rfl H2.out ?_)
      | (go_at_call 71; (with_reducible refine (HL.out _).mono ?_); rintro e w1 ⟨rfl, hb1⟩)
      | (refine wpList_alloc_rel rfl rfl ?_)
      | (refine wpList_store_rel rfl _ _ rfl rfl rfl (RelAt.new _ 0 _) ?_; intro hr5; have hb5 := Below.setRow' (c := w1.heap.size) (cs := rcs 0 fun _ => 0#64) (hb1.alloc hb1.size (.cells (rcs 0 fun _ => 0#64) 53)) hb1.size))
    go_ret
    exact ⟨by rw [HV.out]; rfl, Below.chain HB.out hb5⟩
end Go.Proofs.YtgegmoedgegkcaaDoor

namespace Go.Proofs.YtgegmoedgegkcaaDoor
open Go.RowKit

theorem fineN (n : Int) (M : Nat) (hM : M < 64) : (wrap64 (wrap64 (n.tmod ((M : Int) + 1) + M) + 1)).tmod ((M : Int) + 1) = n % ((M : Int) + 1) := by
  have h1 := Int.tmod_lt_of_pos n (b := (M : Int) + 1) (by omega)
  have h2 : -((M : Int) + 1) < n.tmod ((M : Int) + 1) := Int.lt_tmod_of_pos n (by omega)
  have h3 : wrap64 (wrap64 (n.tmod ((M : Int) + 1) + M) + 1) = n.tmod ((M : Int) + 1) + ((M : Int) + 1) := by unfold wrap64; omega
  rw [h3, Int.tmod_eq_emod_of_nonneg (by omega), Int.add_emod_right]
  have h4 := Int.mul_tdiv_add_tmod n ((M : Int) + 1)
  conv => rhs; rw [← h4, Int.add_comm, Int.add_mul_emod_self_left]
def fineF (k : Nat) (f : Nat → BitVec 64) : Nat → BitVec 64 := fun a => if a < k then f a &&& (1#64 <<< k - 1#64) else 0#64
def fineTo (k : Nat) (f : Nat → BitVec 64) (j : Nat) : Nat → BitVec 64 := fun a => if a < j then fineF k f a else f a
theorem fineTo_at (k : Nat) (f : Nat → BitVec 64) (j : Nat) : fineTo k f j j = f j := by simp [fineTo]
theorem fineTo_succ (k : Nat) (f : Nat → BitVec 64) (j : Nat) : upd (fineTo k f j) j (fineF k f j) = fineTo k f (j + 1) := by
  funext i
  unfold upd fineTo
  by_cases h : i = j
  · subst h; simp
  · by_cases h2 : i < j
    · simp [h, h2, show i < j + 1 by omega]
    · simp [h, h2, show ¬ i < j + 1 by omega]
theorem upd_upd (f : Nat → BitVec 64) (k : Nat) (s t : BitVec 64) : upd (upd f k s) k t = upd f k t := by
  funext i; unfold upd; split <;> rfl
set_option maxRecDepth 8000 in
theorem c_Fine (n : Int) (f : Nat → BitVec 64) (M : Nat) (hM : M ≤ 48) (w : World) :
    Calls Tryd.prog 43 #[.agg (rcs n f), .int .i64 M] w fun e w' => e = .returned (.agg (rcs (n % ((M : Int) + 1)) (fineF (n % ((M : Int) + 1)).toNat f))) ∧ Below w.heap.size w w' := by
  have h1 : RelAt ((w.alloc (.cells (rcs n f) 53)).alloc (.cells (rcs 0 fun _ => 0#64) 53)) w.heap.size n f := (RelAt.new w n f).alloc _
  have HB := Lib.hid (show Below w.heap.size w ((w.alloc (.cells (rcs n f) 53)).alloc (.cells (rcs 0 fun _ => 0#64) 53)) from ((Below.refl _ w).alloc (Nat.le_refl _) _).alloc (by simp) _)
  have h2 : RelAt ((w.alloc (.cells (rcs n f) 53)).alloc (.cells (rcs 0 fun _ => 0#64) 53)) (w.heap.size + 1) 0 (fun _ => 0#64) := by
    have := RelAt.new (w.alloc (.cells (rcs n f) 53)) 0 (fun _ => 0#64)
    rwa [World.size_alloc] at this
  have H2 := Lib.hid h2
  have H1 := Lib.hid h1
  clear h1 h2
  go_enter Tryd.func43, Tryd.ntmps43
  go_upto_region 1 with (refine wpList_alloc_rel rfl rfl ?_)
  simp only [World.size_alloc]
  generalize (w.alloc (.cells (rcs n f) 53)).alloc (.cells (rcs 0 fun _ => 0#64) 53) = wb at *
  obtain ⟨b, hb0, hle⟩ : ∃ b, w.heap.size = b ∧ w.heap.size ≤ b := ⟨_, rfl, Nat.le_refl _⟩
  rw [hb0] at H1 H2 ⊢
  clear hb0
  have hn := H1.out.n_cell
  have hf := H1.out.unfrozen 0
  have h2 : RelAt wb (b + 1) 0 (fun _ => 0#64) := H2.out
  have hfn := fineN n M (by omega)
  obtain ⟨k, hk⟩ : ∃ k : Nat, n % ((M : Int) + 1) = k := ⟨(n % ((M : Int) + 1)).toNat, (Int.toNat_of_nonneg (Int.emod_nonneg _ (by omega))).symm⟩
  have hk48 : k ≤ 48 := by have := Int.emod_lt_of_pos n (b := (M : Int) + 1) (by omega); omega
  have HKN := Lib.hid hk
  rw [hk] at hfn
  clear hk
  go_upto_region 2 with (fail)
  have hs1 := H1.out.setN k
  have hs2 := h2.other (p := ⟨b, 0, none⟩) (v := .int .i64 (k : Int)) (by simp)
  have hs3 := HB.out.setCell (p := ⟨b, 0, none⟩) (by simpa using hle) (.int .i64 (k : Int))
  clear hfn hn hf h2
  generalize wb.setCell ⟨b, 0, none⟩ (.int .i64 (k : Int)) = wc at *
  have G1 := Lib.hid hs1
  have G2 := Lib.hid hs2
  have G3 := Lib.hid hs3
  clear hs1 hs2 hs3
  go_wp2
  go_loopw [5, 18] (fun _ i wr => ∃ a : Nat, a ≤ 48 ∧ i = .int .i64 a ∧ RelAt wr b k (fineTo k f a) ∧ RelAt wr (b + 1) 0 (fun _ => 0#64) ∧ Below w.heap.size w wr) (fun _ i _ => 48 - (intOf i).toNat)
  case atStart => exact ⟨0, by omega, rfl, G1.out, G2.out, G3.out⟩
  case round =>
    obtain ⟨a, ha, rfl, hr1, hr2, hbw⟩ := hrel
    have R1 := Lib.hid hr1
    have R2 := Lib.hid hr2
    have HBr := Lib.hid hbw
    have hn := hr1.n_cell
    clear hr1 hr2 hbw
    by_cases hlt : a < 48
    · have hrow := R1.out.row hlt
      rw [fineTo_at] at hrow
      have hfr := R1.out.unfrozen (1 + a)
      have hai : (a : Int) < 48 := by omega
      have hk64 : (k : Int) < 64 := by omega
      by_cases hak : a < k
      · have HF := Lib.hid (show fineF k f a = f a &&& (1#64 <<< k - 1#64) from if_pos hak)
        go_wp2
        go_region
        go_wp2
        have hs := (R1.out.set hlt (f a &&& (1#64 <<< k - 1#64))).drewN 1
        rw [← HF.out, fineTo_succ, HF.out] at hs
        exact ⟨⟨a + 1, by omega, by go_num, hs, (R2.out.other (by simp)).drewN 1, below_drewN (HBr.out.setCell (p := ⟨b, 1 + a, none⟩) (by simpa using hle) _) 1⟩, by simp [intOf]; omega⟩
      · have HF := Lib.hid (show fineF k f a = 0#64 from if_neg hak)
        have hbz : bits .and .u64 0 (iv (1#64 <<< k - 1#64)) = 0 := by
          have h1 := bits_and_set 0#64 (1#64 <<< k - 1#64)
          rw [BitVec.zero_and] at h1
          exact h1
        go_wp2
        go_region
        go_wp2
        have hs := (((R1.out.set hlt 0#64).set hlt 0#64)).drewN 1
        rw [upd_upd, ← HF.out, fineTo_succ, HF.out] at hs
        exact ⟨⟨a + 1, by omega, by go_num, hs, ((R2.out.other (by simp)).other (by simp)).drewN 1, below_drewN ((HBr.out.setCell (p := ⟨b, 1 + a, none⟩) (by simpa using hle) _).setCell (p := ⟨b, 1 + a, none⟩) (by simpa using hle) _) 1⟩, by simp [intOf]; omega⟩
    · have hae : a = 48 := by omega
      subst hae
      go_wp2_with (first
        | (refine wpList_load_rel rfl _ rfl rfl R1.out ?_)
        | (refine wpList_store_rel rfl _ _ rfl rfl rfl R2.out ?_; intro hr6; have HR6 := Lib.hid hr6; clear hr6))
      refine ret_rel rfl rfl HR6.out rfl ?_
      refine ⟨?_, Below.setRow' HBr.out (by omega)⟩
      rw [HKN.out, Int.toNat_natCast, rcs_congr (k : Int) (f := fineTo k f 48) (g := fineF k f) fun i hi => by simp [fineTo, hi]]
end Go.Proofs.YtgegmoedgegkcaaDoor
