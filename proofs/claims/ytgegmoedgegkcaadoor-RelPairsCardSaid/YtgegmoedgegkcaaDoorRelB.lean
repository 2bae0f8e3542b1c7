/-
  The relations that lie in a call's own blocks, carried through a walk as one fact; one law for each operation on them.
  rel.Of: the relation of a list of pairs, or the error; seisinlaw02.of.
  seisinlaw02.of: a relation of pairs; seisinlaw02.Pairs: two lists of pairs compared.
  rel.walk: back step by step.
  rel.around and rel.Ring: a ring of the fewest steps.
  rel.Ring: the shortest ring, of the least thing.
  The relations of a call's own and the blocks that it keeps, as one fact; the laws for the operations on them, with the world a letter.
-/
import Derived.Test.YtgegmoedgegkcaaDoorRelA
namespace Go.Proofs.YtgegmoedgegkcaaDoor
open Go.RowKit

/-- A relation and the block where it lies. -/
structure RlE where
  b : Nat
  n : Int
  f : Nat → BitVec 64
/-- The call began at w0; of its own blocks those of L hold relations. -/
structure St (w0 w : World) (L : List RlE) : Prop where
  bel : Below w0.heap.size w0 w
  old : ∀ e ∈ L, w0.heap.size ≤ e.b
  rel : ∀ e ∈ L, RelAt w e.b e.n e.f
  dis : L.Pairwise fun e e' => e'.b ≠ e.b

namespace St
variable {w0 w w' : World} {L : List RlE}
theorem refl (w : World) : St w w [] := ⟨Below.refl _ _, by simp, by simp, .nil⟩
theorem over (h : St w0 w L) (hb : Below w.heap.size w w') : St w0 w' L := ⟨Below.chain h.bel hb, h.old, fun e he => (h.rel e he).over hb, h.dis⟩
theorem drewN (h : St w0 w L) (k : Nat) : St w0 (w.drewN k) L := h.over (below_drewN (Below.refl _ _) k)
theorem allocO (h : St w0 w L) (o : Obj) : St w0 (w.alloc o) L := h.over ((Below.refl _ _).alloc (Nat.le_refl _) o)
theorem alloc (h : St w0 w L) (n : Int) (f : Nat → BitVec 64) : St w0 (w.alloc (.cells (rcs n f) 53)) (⟨w.heap.size, n, f⟩ :: L) := by
  have h1 := h.allocO (.cells (rcs n f) 53)
  refine ⟨h1.bel, ?_, ?_, ?_⟩
  · intro e he
    rcases List.mem_cons.1 he with rfl | he
    · exact h.bel.size
    · exact h.old e he
  · intro e he
    rcases List.mem_cons.1 he with rfl | he
    · exact RelAt.new w n f
    · exact h1.rel e he
  · exact List.pairwise_cons.2 ⟨fun e he => Nat.ne_of_lt (h.rel e he).lt, h.dis⟩
theorem tab (h : St w0 w L) (hT : Tab w0) : Tab w := Tab.bel h.bel hT
theorem get {i : Nat} {e : RlE} (h : St w0 w L) (hi : L[i]? = some e) : RelAt w e.b e.n e.f := h.rel e (List.mem_of_getElem? hi)
theorem ge {i : Nat} {e : RlE} (h : St w0 w L) (hi : L[i]? = some e) : w0.heap.size ≤ e.b := h.old e (List.mem_of_getElem? hi)
/-- A change of one block of the call's own. -/
theorem change {i : Nat} {b : Nat} {n m : Int} {f g : Nat → BitVec 64} (h : St w0 w L) (hi : L[i]? = some ⟨b, m, g⟩) (hr : RelAt w' b n f) (hb : Below w0.heap.size w0 w') (hk : ∀ c, c ≠ b → w'.heap[c]? = w.heap[c]?) : St w0 w' (L.set i ⟨b, n, f⟩) := by
  have hd : ∀ (j : Nat) e, L[j]? = some e → j ≠ i → e.b ≠ b := by
    intro j e hj hji
    have hp := List.pairwise_iff_getElem.1 h.dis
    obtain ⟨hjl, hje⟩ := List.getElem?_eq_some_iff.1 hj
    obtain ⟨hil, hie⟩ := List.getElem?_eq_some_iff.1 hi
    rcases Nat.lt_or_gt_of_ne hji with h1 | h1
    · have := hp j i hjl hil h1
      rw [hje, hie] at this
      exact fun h => this h.symm
    · have := hp i j hil hjl h1
      rw [hje, hie] at this
      exact this
  have hmem : ∀ e ∈ L.set i ⟨b, n, f⟩, e = ⟨b, n, f⟩ ∨ (e ∈ L ∧ e.b ≠ b) := by
    intro e he
    obtain ⟨j, hj, rfl⟩ := List.mem_iff_getElem.1 he
    rw [List.getElem_set]
    split
    · exact .inl rfl
    · rename_i hne
      have hjl : j < L.length := by simpa using hj
      exact .inr ⟨List.getElem_mem hjl, hd j _ (List.getElem?_eq_getElem hjl) (fun h => hne h.symm)⟩
  refine ⟨hb, ?_, ?_, ?_⟩
  · intro e he
    rcases hmem e he with rfl | ⟨he, _⟩
    · have h1 := h.ge hi; exact h1
    · exact h.old e he
  · intro e he
    rcases hmem e he with rfl | ⟨he, hne⟩
    · exact hr
    · exact ⟨(hk _ hne).trans (h.rel e he).heap⟩
  · have hm : (L.set i ⟨b, n, f⟩).map RlE.b = L.map RlE.b := by
      rw [List.map_set]
      obtain ⟨hil, hie⟩ := List.getElem?_eq_some_iff.1 hi
      refine List.ext_getElem (by simp) fun j h1 h2 => ?_
      rw [List.getElem_set]
      split
      · rename_i e; subst e; simp [hie]
      · rfl
    have h1 : (L.map RlE.b).Pairwise fun e e' => e' ≠ e := List.pairwise_map.2 h.dis
    rw [← hm] at h1
    exact List.pairwise_map.1 h1
theorem put {i : Nat} {b : Nat} {m : Int} {g : Nat → BitVec 64} (n : Int) (f : Nat → BitVec 64) (h : St w0 w L) (hi : L[i]? = some ⟨b, m, g⟩) : St w0 (w.setRow b (rcs n f)) (L.set i ⟨b, n, f⟩) :=
  h.change hi ⟨setRow_heap w b _ _ _ _ (h.get hi).heap⟩ (Below.setRow' h.bel (h.ge hi)) fun c hc => setRow_other w b c _ hc
theorem putN {i : Nat} {b : Nat} {m : Int} {g : Nat → BitVec 64} (n : Int) (h : St w0 w L) (hi : L[i]? = some ⟨b, m, g⟩) : St w0 (w.setCell ⟨b, 0, none⟩ (.int .i64 n)) (L.set i ⟨b, n, g⟩) :=
  h.change hi ((h.get hi).setN n) (h.bel.setCell (h.ge hi) _) fun c hc => Below.heap_setCell w _ _ c hc
theorem putRow {i : Nat} {b k : Nat} {m : Int} {g : Nat → BitVec 64} (hk : k < 48) (s : BitVec 64) (h : St w0 w L) (hi : L[i]? = some ⟨b, m, g⟩) : St w0 (w.setCell ⟨b, 1 + k, none⟩ (.int .u64 (iv s))) (L.set i ⟨b, m, upd g k s⟩) :=
  h.change hi ((h.get hi).set hk s) (h.bel.setCell (h.ge hi) _) fun c hc => Below.heap_setCell w _ _ c hc
/-- A change of a cell of the call's own that is none of L's. -/
theorem putO {p : Addr} {v : Value} (h : St w0 w L) (hp : w0.heap.size ≤ p.block) (hn : ∀ e ∈ L, e.b ≠ p.block) : St w0 (w.setCell p v) L :=
  ⟨h.bel.setCell hp v, h.old, fun e he => (h.rel e he).other (hn e he), h.dis⟩
theorem n_cell {i : Nat} {b : Nat} {n : Int} {f : Nat → BitVec 64} (h : St w0 w L) (hi : L[i]? = some ⟨b, n, f⟩) : w.cell? ⟨b, 0, none⟩ = some (.int .i64 n) := (h.get hi).n_cell
theorem box1 (w : World) (n : Int) (f : Nat → BitVec 64) : St w (w.alloc (.cells (rcs n f) 53)) [⟨w.heap.size, n, f⟩] := (refl w).alloc n f
theorem box2 (w : World) (n m : Int) (f g : Nat → BitVec 64) : St w ((w.alloc (.cells (rcs n f) 53)).alloc (.cells (rcs m g) 53)) [⟨w.heap.size + 1, m, g⟩, ⟨w.heap.size, n, f⟩] := by
  have := (box1 w n f).alloc m g
  rwa [World.size_alloc] at this
theorem box3 (w : World) (n m q : Int) (f g h : Nat → BitVec 64) : St w (((w.alloc (.cells (rcs n f) 53)).alloc (.cells (rcs m g) 53)).alloc (.cells (rcs q h) 53)) [⟨w.heap.size + 1 + 1, q, h⟩, ⟨w.heap.size + 1, m, g⟩, ⟨w.heap.size, n, f⟩] := by
  have := (box2 w n m f g).alloc q h
  rwa [World.size_alloc, World.size_alloc] at this
end St

section
variable {ops : Array Oper} {rest : List Oper} {o : Oper} {a : Act} {w0 w : World} {Q : Exit → Act → World → Prop} {L : List RlE}
theorem wpList_loadS {b : Nat} {n : Int} {f : Nat → BitVec 64} (i : Nat) (hS : St w0 w L) (x : Operand) (ho : o.op = .load 53 x) (hx : a.eval x = .pointer (some ⟨b, 0, none⟩)) (hi : L[i]? = some ⟨b, n, f⟩)
    (hgd : Region.wanted o (yielded ops a.tmps) = true) (h : wpList Tryd.prog ops Q rest (a.put o.dst (.agg (rcs n f))) w) : wpList Tryd.prog ops Q (o :: rest) a w :=
  wpList_load_rel_g x ho hx hgd (hS.get hi) h
theorem wpList_loadNS {b : Nat} {n : Int} {f : Nat → BitVec 64} (i : Nat) (hS : St w0 w L) (x : Operand) (ho : o.op = .load 3 x) (hx : a.eval x = .pointer (some ⟨b, 0, none⟩)) (hi : L[i]? = some ⟨b, n, f⟩)
    (hgd : Region.wanted o (yielded ops a.tmps) = true) (h : wpList Tryd.prog ops Q rest (a.put o.dst (.int .i64 n)) w) : wpList Tryd.prog ops Q (o :: rest) a w :=
  wpList_step fun K hK => by
    rw [if_pos hgd]
    have hc := hS.n_cell hi
    have ha : (isAgg 3).run Tryd.prog w = .ok false w := by
      unfold isAgg
      rw [Sem.run_bind, run_underlying Tryd.underlying3 w]; rfl
    unfold Oper.wp execOp
    simp only [ho, hx, Instr.loadAt, Instr.sureAddr, Sem.run_bind, Sem.run_pure, Result.andThen_ok, loadVar, ha, run_load, Bool.false_eq_true, if_false, hc]
    exact hK _ _ h
theorem wpList_storeS {b : Nat} {n m : Int} {f g : Nat → BitVec 64} (i : Nat) (hS : St w0 w L) (x y : Operand) (ho : o.op = .store 53 x y) (hx : a.eval x = .pointer (some ⟨b, 0, none⟩)) (hi : L[i]? = some ⟨b, m, g⟩) (hy : a.eval y = .agg (rcs n f))
    (hgd : o.guard = none) (h : ∀ w', St w0 w' (L.set i ⟨b, n, f⟩) → wpList Tryd.prog ops Q rest (a.put o.dst undef) w') : wpList Tryd.prog ops Q (o :: rest) a w :=
  wpList_store_rel hgd x y ho hx hy (hS.get hi) fun _ => h _ (hS.put n f hi)
theorem wpList_allocS (hS : St w0 w L) (ho : o.op = .alloc 53) (hgd : o.guard = none)
    (h : ∀ b w', St w0 w' (⟨b, 0, fun _ => 0#64⟩ :: L) → wpList Tryd.prog ops Q rest (a.put o.dst (.pointer (some ⟨b, 0, none⟩))) w') : wpList Tryd.prog ops Q (o :: rest) a w :=
  wpList_alloc_rel hgd ho (h _ _ (hS.alloc _ _))
theorem eqRel_self (n : Int) (f : Nat → BitVec 64) : eqRel n n f f = true := eqRel_iff.2 ⟨rfl, fun _ _ => rfl⟩
theorem wpList_eqlS {n m : Int} {f g : Nat → BitVec 64} (x y : Operand) (t : TypeId) (ho : o.op = .binOp .eql 53 x y t) (hx : a.eval x = .agg (rcs n f)) (hy : a.eval y = .agg (rcs m g)) (v : Bool) (hv : eqRel n m f g = v)
    (hgd : Region.wanted o (yielded ops a.tmps) = true) (h : wpList Tryd.prog ops Q rest (a.put o.dst (.bool v)) w) : wpList Tryd.prog ops Q (o :: rest) a w :=
  wpList_step fun K hK => by
    rw [if_pos hgd]
    have hg : (eqGuard .eql 53 x y (.agg (rcs n f)) (.agg (rcs m g))).run Tryd.prog w = .ok () w := by
      have : Tryd.prog.eqGuardType Tryd.prog.depth 53 = false := by kernel_rfl
      simp [eqGuard, this]
    unfold Oper.wp execOp
    simp only [ho, hx, hy, Sem.run_bind, Sem.run_pure, Result.andThen_ok, hg, run_eql_rel, hv]
    exact hK _ _ h
theorem wpList_neqS {n m : Int} {f g : Nat → BitVec 64} (x y : Operand) (t : TypeId) (ho : o.op = .binOp .neq 53 x y t) (hx : a.eval x = .agg (rcs n f)) (hy : a.eval y = .agg (rcs m g)) (v : Bool) (hv : eqRel n m f g = v)
    (hgd : Region.wanted o (yielded ops a.tmps) = true) (h : wpList Tryd.prog ops Q rest (a.put o.dst (.bool !v)) w) : wpList Tryd.prog ops Q (o :: rest) a w :=
  wpList_step fun K hK => by
    rw [if_pos hgd]
    have hg : (eqGuard .neq 53 x y (.agg (rcs n f)) (.agg (rcs m g))).run Tryd.prog w = .ok () w := by
      have : Tryd.prog.eqGuardType Tryd.prog.depth 53 = false := by kernel_rfl
      simp [eqGuard, this]
    unfold Oper.wp execOp
    simp only [ho, hx, hy, Sem.run_bind, Sem.run_pure, Result.andThen_ok, hg, run_neq_rel, hv]
    exact hK _ _ h
end
end Go.Proofs.YtgegmoedgegkcaaDoor

namespace Go.Proofs.YtgegmoedgegkcaaDoor
open Go.RowKit

/-- A slice reads as a list of pairs of ints. -/
def PrG (w : World) (N : Nat) (ad : Option Addr) (l : List (Int × Int)) : Prop :=
  ∀ (j : Nat) p, l[j]? = some p → ∃ c off, ad = some ⟨c, off, none⟩ ∧ c < N ∧ w.cell? ⟨c, off + j * 2, none⟩ = some (.int .i64 p.1) ∧ w.cell? ⟨c, off + j * 2 + 1, none⟩ = some (.int .i64 p.2)
theorem PrG.below {w w' : World} {N : Nat} {ad : Option Addr} {l : List (Int × Int)} (h : PrG w N ad l) (hb : Below N w w') : PrG w' N ad l :=
  fun j p hp => let ⟨c, off, e, hlt, h1, h2⟩ := h j p hp; ⟨c, off, e, hlt, (hb.cell (p := ⟨c, off + j * 2, none⟩) hlt).trans h1, (hb.cell (p := ⟨c, off + j * 2 + 1, none⟩) hlt).trans h2⟩
theorem PrG.mono {w : World} {N M : Nat} {ad : Option Addr} {l : List (Int × Int)} (h : PrG w N ad l) (hm : N ≤ M) : PrG w M ad l :=
  fun j p hp => let ⟨c, off, e, hlt, h1, h2⟩ := h j p hp; ⟨c, off, e, Nat.lt_of_lt_of_le hlt hm, h1, h2⟩
def ipr (l : List (Nat × Nat)) : List (Int × Int) := l.map fun p => ((p.1 : Int), (p.2 : Int))
theorem PrG.of {w : World} {N : Nat} {ad : Option Addr} {l : List (Nat × Nat)} (h : PrAt w N ad l) : PrG w N ad (ipr l) := by
  intro j p hp
  unfold ipr at hp
  rw [List.getElem?_map] at hp
  obtain ⟨q, hq, rfl⟩ := Option.map_eq_some_iff.1 hp
  obtain ⟨c, e, hlt, h1, h2⟩ := h j q hq
  exact ⟨c, 0, e, hlt, by rw [Nat.zero_add]; exact h1, by rw [Nat.zero_add]; exact h2⟩

/-- A pair of things of n. -/
def pOk (n : Int) (p : Int × Int) : Bool := decide (0 ≤ p.1) && decide (0 ≤ p.2) && (decide (p.1 < n) && decide (p.2 < n))
def ofF (l : List (Int × Int)) : Nat → BitVec 64 := l.foldl (fun g p => upd g p.1.toNat (g p.1.toNat ||| 1#64 <<< p.2.toNat)) fun _ => 0#64
theorem ofF_succ {l : List (Int × Int)} {k : Nat} (hk : k < l.length) : ofF (l.take (k + 1)) = upd (ofF (l.take k)) l[k].1.toNat (ofF (l.take k) l[k].1.toNat ||| 1#64 <<< l[k].2.toNat) := by
  unfold ofF
  rw [List.take_succ_eq_append_getElem hk, List.foldl_append]; rfl
def ofOk (n : Int) (l : List (Int × Int)) : Bool := decide (0 ≤ n) && decide (n ≤ 48) && l.all (pOk n)
/-- What Of answers. -/
def ofV (n : Int) (l : List (Int × Int)) : Value := if ofOk n l then .tuple #[.agg (rcs n (ofF l)), .int .i64 0] else .tuple #[.agg (rcs 0 fun _ => 0#64), .int .i64 2]
theorem ofOk_bad {n : Int} {l : List (Int × Int)} {k : Nat} (hk : k < l.length) (h : pOk n l[k] = false) : ofOk n l = false := by
  unfold ofOk
  have : l.all (pOk n) = false := by
    rw [Bool.eq_false_iff]
    intro ha
    have := List.all_eq_true.1 ha _ (List.getElem_mem hk)
    rw [h] at this; cases this
  rw [this, Bool.and_false]
theorem pOk_iff {n : Int} {p : Int × Int} : pOk n p = true ↔ 0 ≤ p.1 ∧ 0 ≤ p.2 ∧ p.1 < n ∧ p.2 < n := by
  unfold pOk; simp [and_assoc]
theorem all_take_succ {α : Type} {p : α → Bool} {l : List α} {k : Nat} (hk : k < l.length) (h : (l.take k).all p = true) (hp : p l[k] = true) : (l.take (k + 1)).all p = true := by
  rw [List.take_succ_eq_append_getElem hk, List.all_append, h, List.all_cons, hp]; rfl

set_option maxRecDepth 8000 in
set_option maxHeartbeats 2000000 in
theorem c_ROf (n : Int) (l : List (Int × Int)) (m : Nat) (hm : l.length = m) (hmx : m ≤ maxLen) (ad : Option Addr) (cap : Nat) (w : World) (hp : PrG w w.heap.size ad l) :
    Calls Tryd.prog 70 #[.int .i64 n, .slice ad m cap] w fun e w' => e = .returned (ofV n l) ∧ Below w.heap.size w w' := by
  have HS0 := Lib.hid (St.box1 w 0 fun _ => 0#64)
  have HP := Lib.hid hp
  have HM := Lib.hid hm
  unfold maxLen at hmx
  clear hp hm
  by_cases hn : 0 ≤ n ∧ n ≤ 48
  · obtain ⟨k, rfl⟩ : ∃ k : Nat, n = k := ⟨n.toNat, (Int.toNat_of_nonneg hn.1).symm⟩
    have hk48 : k ≤ 48 := by omega
    have HV := Lib.hid (show ofV k l = if l.all (pOk k) then .tuple #[.agg (rcs k (ofF l)), .int .i64 0] else .tuple #[.agg (rcs 0 fun _ => 0#64), .int .i64 2] by
      unfold ofV ofOk; rw [decide_eq_true hn.1, decide_eq_true hn.2]; rfl)
    clear hn
    go_enter Tryd.func70, Tryd.ntmps70
    go_upto_region 1 with (refine wpList_alloc_rel rfl rfl ?_)
    generalize w.alloc (.cells (rcs 0 fun _ => 0#64) 53) = wb at *
    obtain ⟨b, hb0, hle⟩ : ∃ b, w.heap.size = b ∧ w.heap.size ≤ b := ⟨_, rfl, Nat.le_refl _⟩
    rw [hb0] at HS0 ⊢
    clear hb0
    go_wp2_with (first
      | (refine wpList_build_rel1 rfl _ rfl _ rfl ?_)
      | (refine wpList_allocS HS0.out rfl rfl ?_; intro c wc hS; have HS1 := Lib.hid hS; clear hS)
      | (refine wpList_storeS 0 HS1.out _ _ rfl rfl rfl rfl rfl ?_; intro wd hS; simp only [List.set_cons_zero] at hS; have HS2 := Lib.hid hS; clear hS))
    go_loopw [20] (fun i wr => ∃ j : Nat, j ≤ m ∧ i = .int .i64 j ∧ (l.take j).all (pOk k) = true ∧ St w wr [⟨c, k, ofF (l.take j)⟩, ⟨b, 0, fun _ => 0#64⟩]) (fun i _ => m - (intOf i).toNat)
    case atStart => exact ⟨0, by omega, rfl, by simp, HS2.out⟩
    case round =>
      obtain ⟨j, hj, rfl, hall, hS⟩ := hrel
      have HA := Lib.hid hall
      have HSr := Lib.hid hS
      clear hall hS
      by_cases hlt : j < m
      · have hjl : j < l.length := by have := HM.out; omega
        have HSU := Lib.hid (ofF_succ hjl)
        have HBad := Lib.hid (ofOk_bad (n := k) hjl)
        have HOk := Lib.hid (all_take_succ hjl HA.out)
        obtain ⟨pc, off, rfl, hclt, hc1, hc2⟩ := (HP.out.below HSr.out.bel) j _ (List.getElem?_eq_getElem hjl)
        obtain ⟨p, hp⟩ : ∃ p, p = l[j] := ⟨_, rfl⟩
        rw [← hp] at HSU HBad HOk hc1 hc2
        clear hp
        obtain ⟨x, y⟩ := p
        simp only at HSU hc1 hc2
        by_cases hpk : pOk k (x, y) = true
        · have HX := Lib.hid (HOk.out hpk)
          rw [pOk_iff] at hpk
          obtain ⟨h1, h2, h3, h4⟩ := hpk
          obtain ⟨x, rfl⟩ : ∃ a : Nat, x = a := ⟨x.toNat, (Int.toNat_of_nonneg h1).symm⟩
          obtain ⟨y, rfl⟩ : ∃ a : Nat, y = a := ⟨y.toNat, (Int.toNat_of_nonneg h2).symm⟩
          simp only [Int.toNat_natCast] at HSU h3 h4
          obtain ⟨mn, hmn⟩ : ∃ mn : Int, (if y < x then (y : Int) else (x : Int)) = mn := ⟨_, rfl⟩
          obtain ⟨mx, hmx2⟩ : ∃ mx : Int, (if x < y then (y : Int) else (x : Int)) = mx := ⟨_, rfl⟩
          have hd1 : decide (mn < 0) = false := decide_eq_false (by rw [← hmn]; split <;> omega)
          have hd2 : decide ((k : Int) ≤ mx) = false := decide_eq_false (by rw [← hmx2]; split <;> omega)
          have hx48 : x < 48 := by omega
          have hy48 : y < 48 := by omega
          clear h1 h2 HBad HOk h3 h4
          go_upto_region 9 with (fail)
          have e0 : (wr.alloc (.cells #[.int .i64 (x : Int), .int .i64 (y : Int)] 74)).cell? ⟨wr.heap.size, 0, none⟩ = some (.int .i64 (x : Int)) := by rw [cell_of_row _ _ _ _ _ _ (heap_alloc_new wr _)]; rfl
          have e1 : (wr.alloc (.cells #[.int .i64 (x : Int), .int .i64 (y : Int)] 74)).cell? ⟨wr.heap.size, 1, none⟩ = some (.int .i64 (y : Int)) := by rw [cell_of_row _ _ _ _ _ _ (heap_alloc_new wr _)]; rfl
          have HSa := Lib.hid (HSr.out.allocO (.cells #[.int .i64 (x : Int), .int .i64 (y : Int)] 74))
          clear hc1 hc2 hmn hmx2 hd1 hd2 HSr hclt
          generalize wr.alloc (.cells #[.int .i64 (x : Int), .int .i64 (y : Int)] 74) = wa at *
          generalize wr.heap.size = g at e0 e1 ⊢
          have hrow := (HSa.out.get (i := 0) rfl).row hx48
          have hfr := (HSa.out.get (i := 0) rfl).unfrozen (1 + x)
          have hxi : (x : Int) < 48 := by omega
          have hyi : (y : Int) < 64 := by omega
          obtain ⟨G, hG⟩ : ∃ G, G = ofF (l.take j) := ⟨_, rfl⟩
          rw [← hG] at HSa HSU
          simp only [← hG] at hrow hfr
          clear hG
          go_region
          go_wp2
          have hset := (HSa.out.putRow (i := 0) hx48 (G x ||| 1#64 <<< y) rfl).drewN 1
          rw [← HSU.out] at hset
          exact ⟨⟨j + 1, by omega, by go_num, HX.out, hset⟩, by simp [intOf]; omega⟩
        · have hpk' : pOk k (x, y) = false := by simpa using hpk
          have HVB := Lib.hid (show ofV k l = .tuple #[.agg (rcs 0 fun _ => 0#64), .int .i64 2] by unfold ofV; rw [HBad.out hpk']; rfl)
          rw [pOk_iff] at hpk
          simp only at hpk
          obtain ⟨mn, hmn⟩ : ∃ mn : Int, (if y < x then y else x) = mn := ⟨_, rfl⟩
          obtain ⟨mx, hmx2⟩ : ∃ mx : Int, (if x < y then y else x) = mx := ⟨_, rfl⟩
          clear hpk' HBad HOk HSU
          by_cases hneg : mn < 0
          · have hd1 : decide (mn < 0) = true := decide_eq_true hneg
            clear hpk hneg
            go_wp2_with (first
              | (refine wpList_build_rel0 rfl rfl ?_)
              | (refine wpList_storeS 1 (HSr.out.allocO _) _ _ rfl rfl rfl rfl rfl ?_; intro wd hS; simp only [List.set_cons_succ, List.set_cons_zero] at hS; have HS2 := Lib.hid hS; clear hS))
            refine ret_rel2 rfl rfl (HS2.out.get (i := 1) rfl) rfl rfl ?_
            exact ⟨by rw [HVB.out]; rfl, HS2.out.bel⟩
          · have hd1 : decide (mn < 0) = false := decide_eq_false hneg
            have hd2 : decide ((k : Int) ≤ mx) = true := decide_eq_true (by
              rw [← hmn] at hneg; rw [← hmx2]
              split at hneg <;> split <;> omega)
            clear hpk hneg
            go_wp2_with (first
              | (refine wpList_build_rel0 rfl rfl ?_)
              | (refine wpList_storeS 1 (HSr.out.allocO _) _ _ rfl rfl rfl rfl rfl ?_; intro wd hS; simp only [List.set_cons_succ, List.set_cons_zero] at hS; have HS2 := Lib.hid hS; clear hS))
            refine ret_rel2 rfl rfl (HS2.out.get (i := 1) rfl) rfl rfl ?_
            exact ⟨by rw [HVB.out]; rfl, HS2.out.bel⟩
      · have hje : l.take j = l := List.take_of_length_le (by have := HM.out; omega)
        have HVG := Lib.hid (show ofV k l = .tuple #[.agg (rcs k (ofF l)), .int .i64 0] by
          have h1 := HA.out
          rw [hje] at h1
          rw [HV.out, h1]; rfl)
        rw [hje] at HSr
        clear hje
        go_wp2_with (first
          | (refine wpList_loadS 0 HSr.out _ rfl rfl rfl (by rfl) ?_)
          | (refine wpList_storeS 1 HSr.out _ _ rfl rfl rfl rfl rfl ?_; intro wd hS; simp only [List.set_cons_succ, List.set_cons_zero] at hS; have HS2 := Lib.hid hS; clear hS))
        refine ret_rel2 rfl rfl (HS2.out.get (i := 1) rfl) rfl rfl ?_
        exact ⟨by rw [HVG.out]; rfl, HS2.out.bel⟩
  · have HVB := Lib.hid (show ofV n l = .tuple #[.agg (rcs 0 fun _ => 0#64), .int .i64 2] by
      unfold ofV ofOk
      have h1 : (decide (0 ≤ n) && decide (n ≤ 48)) = false := by rw [← Bool.decide_and]; exact decide_eq_false hn
      rw [h1]; rfl)
    have h0 : n < 0 ∨ 48 < n := by omega
    clear hn
    rcases h0 with h0 | h0
    all_goals
      go_enter Tryd.func70, Tryd.ntmps70
      go_upto_region 1 with (refine wpList_alloc_rel rfl rfl ?_)
      generalize w.alloc (.cells (rcs 0 fun _ => 0#64) 53) = wb at *
      obtain ⟨b, hb0, hle⟩ : ∃ b, w.heap.size = b ∧ w.heap.size ≤ b := ⟨_, rfl, Nat.le_refl _⟩
      rw [hb0] at HS0 ⊢
      clear hb0
      go_wp2_with (first
        | (refine wpList_build_rel0 rfl rfl ?_)
        | (refine wpList_storeS 0 HS0.out _ _ rfl rfl rfl rfl rfl ?_; intro wd hS; simp only [List.set_cons_zero] at hS; have HS2 := Lib.hid hS; clear hS))
      refine ret_rel2 rfl rfl (HS2.out.get (i := 0) rfl) rfl rfl ?_
      exact ⟨by rw [HVB.out]; rfl, HS2.out.bel⟩
end Go.Proofs.YtgegmoedgegkcaaDoor

namespace Go.Proofs.YtgegmoedgegkcaaDoor
open Go.RowKit

set_option maxRecDepth 8000 in
theorem c_of115 (n : Int) (l : List (Int × Int)) (m : Nat) (hm : l.length = m) (hmx : m ≤ maxLen) (hok : ofOk n l = true) (ad : Option Addr) (cap : Nat) (w : World) (hp : PrG w w.heap.size ad l) :
    Calls Tryd.prog 115 #[.int .i64 n, .slice ad m cap] w fun e w' => e = .returned (.agg (rcs n (ofF l))) ∧ Below w.heap.size w w' := by
  have HS0 := Lib.hid (St.box1 w 0 fun _ => 0#64)
  have hc := fun w hp => c_ROf n l m hm hmx ad cap w hp
  have hv : ofV n l = .tuple #[.agg (rcs n (ofF l)), .int .i64 0] := by unfold ofV; rw [hok]; rfl
  rw [hv] at hc
  have HC := Lib.hid hc
  have HP := Lib.hid hp
  unfold maxLen at hmx
  clear hp hm hv hc hok
  go_enter Tryd.func115, Tryd.ntmps115
  go_upto_region 1 with (refine wpList_alloc_rel rfl rfl ?_)
  generalize w.alloc (.cells (rcs 0 fun _ => 0#64) 53) = wb at *
  obtain ⟨b, hb0, hle⟩ : ∃ b, w.heap.size = b ∧ w.heap.size ≤ b := ⟨_, rfl, Nat.le_refl _⟩
  rw [hb0] at HS0 ⊢
  clear hb0
  go_wp2_with (first
    | (go_at_call 70; (with_reducible refine (HC.out _ ((HP.out.below HS0.out.bel).mono HS0.out.bel.size)).mono ?_); rintro e w1 ⟨rfl, hb1⟩; have HS1 := Lib.hid (HS0.out.over hb1); clear hb1)
    | (refine wpList_allocS HS1.out rfl rfl ?_; intro c wc hS; have HS2 := Lib.hid hS; clear hS)
    | (refine wpList_loadS 0 HS3.out _ rfl rfl rfl (by rfl) ?_)
    | (refine wpList_storeS 1 HS3.out _ _ rfl rfl rfl rfl rfl ?_; intro wd hS; simp only [List.set_cons_succ, List.set_cons_zero] at hS; have HS4 := Lib.hid hS; clear hS)
    | (refine wpList_storeS 0 HS2.out _ _ rfl rfl rfl rfl rfl ?_; intro wd hS; simp only [List.set_cons_zero] at hS; have HS3 := Lib.hid hS; clear hS))
  refine ret_rel rfl rfl (HS4.out.get (i := 1) rfl) rfl ?_
  exact ⟨rfl, HS4.out.bel⟩

theorem part74a (a b : Int) (w : World) : (part 3 #[.int .i64 a, .int .i64 b] 0).run Tryd.prog w = .ok (.int .i64 a) w := by
  simp [part, isAgg, run_underlying Tryd.underlying3 w]
theorem part74b (a b : Int) (w : World) : (part 3 #[.int .i64 a, .int .i64 b] 1).run Tryd.prog w = .ok (.int .i64 b) w := by
  simp [part, isAgg, run_underlying Tryd.underlying3 w]
theorem run_neq_pair (a b c d : Int) (w : World) : (binOp .neq 74 (.agg #[.int .i64 a, .int .i64 b]) (.agg #[.int .i64 c, .int .i64 d])).run Tryd.prog w = .ok (.bool (!((a, b) == (c, d)))) w := by
  have hs : (sizeOf 3).run Tryd.prog w = .ok 1 w := by
    have hs : (Tryd.prog.info? 3).map (·.size) = some 1 := by kernel_rfl
    cases hq : Tryd.prog.info? 3 with
    | none => simp [hq] at hs
    | some i =>
      have hs : i.size = 1 := by simpa [hq] using hs
      simp [sizeOf, typeInfo, hq, hs]
  have he : (Op.equalIn 10000 74 (.agg #[.int .i64 a, .int .i64 b]) (.agg #[.int .i64 c, .int .i64 d])).run Tryd.prog w = .ok ((a, b) == (c, d)) w := by
    rw [show (10000 : Nat) = 9999 + 1 from rfl, Op.equalIn]
    simp only [Sem.run_bind, run_underlying Tryd.underlying74, Result.andThen_ok, hs, Std.Legacy.Range.forIn_eq_forIn_range', Std.Legacy.Range.size, Nat.sub_zero, Nat.add_sub_cancel, Nat.div_one, Nat.mul_one]
    rw [show List.range' 0 2 1 = [0, 1] from rfl]
    simp only [List.forIn_cons, List.forIn_nil, Sem.run_bind, part74a, Result.andThen_ok, run_equalIn_int w 9998 3 .i64 .i64 _ _ Tryd.underlying3]
    have e : ((a, b) == (c, d)) = (a == c && b == d) := rfl
    rw [e]
    cases h1 : a == c
    · simp
    · simp only [Bool.not_true, Bool.false_eq_true, if_false, Sem.run_pure, Result.andThen_ok, Sem.run_bind, part74b, run_equalIn_int w 9998 3 .i64 .i64 _ _ Tryd.underlying3]
      cases h2 : b == d <;> simp
  rw [run_neq_struct, he]; rfl

set_option maxRecDepth 8000 in
set_option maxHeartbeats 400000 in
theorem c_Pairs90 (l r : List (Int × Int)) (m k : Nat) (hl : l.length = m) (hr : r.length = k) (hmx : m ≤ maxLen) (ad bd : Option Addr) (cap dap N : Nat) (w : World) (hp : PrG w N ad l) (hq : PrG w N bd r) :
    Calls Tryd.prog 90 #[.slice ad m cap, .slice bd k dap] w fun e w' => e = .returned (.bool (l == r)) ∧ Below w.heap.size w w' := by
  have HP := Lib.hid hp
  have HQ := Lib.hid hq
  have HL := Lib.hid hl
  have HR := Lib.hid hr
  unfold maxLen at hmx
  clear hp hq hl hr
  by_cases hmk : m = k
  · subst hmk
    go_enter Tryd.func90, Tryd.ntmps90
    go_wp2
    go_loopw [13] (fun i wr => ∃ j : Nat, j ≤ m ∧ i = .int .i64 j ∧ (∀ q, q < j → l[q]? = r[q]?) ∧ ∃ q, wr = w.drewN q) (fun i _ => m - (intOf i).toNat)
    case atStart => exact ⟨0, by omega, rfl, fun q hq => by omega, 0, rfl⟩
    case round =>
      obtain ⟨j, hj, rfl, hall, q, rfl⟩ := hrel
      have Hall := Lib.hid hall
      clear hall
      by_cases hlt : j < m
      · have hjl : j < l.length := by have := HL.out; omega
        have hjr : j < r.length := by have := HR.out; omega
        obtain ⟨c, off, rfl, _, hc1, hc2⟩ := HP.out j _ (List.getElem?_eq_getElem hjl)
        obtain ⟨d, of2, rfl, _, hd1, hd2⟩ := HQ.out j _ (List.getElem?_eq_getElem hjr)
        obtain ⟨x, hx⟩ : ∃ x, x = l[j] := ⟨_, rfl⟩
        obtain ⟨y, hy⟩ : ∃ y, y = r[j] := ⟨_, rfl⟩
        rw [← hx] at hc1 hc2
        rw [← hy] at hd1 hd2
        have HX := Lib.hid hx
        have HY := Lib.hid hy
        clear hx hy
        obtain ⟨x1, x2⟩ := x
        obtain ⟨y1, y2⟩ := y
        simp only at hc1 hc2 hd1 hd2
        have hneq := run_neq_pair x1 x2 y1 y2
        cases hxy : (x1, x2) == (y1, y2) with
        | true =>
          have HE := Lib.hid (eq_of_beq hxy)
          rw [hxy] at hneq
          clear hxy
          go_wp2
          go_quiet (fail)
          go_wp2
          refine ⟨⟨j + 1, by omega, by go_num, fun q hq => ?_, _, rfl⟩, by simp [intOf]; omega⟩
          by_cases hjk : q < j
          · exact Hall.out q hjk
          · obtain rfl : q = j := by omega
            rw [List.getElem?_eq_getElem (by have := HL.out; omega), List.getElem?_eq_getElem (by have := HR.out; omega), ← HX.out, ← HY.out, HE.out]
        | false =>
          have HE := Lib.hid (show (l == r) = false by
            rw [beq_eq_false_iff_ne]
            rintro rfl
            rw [beq_eq_false_iff_ne] at hxy
            exact hxy (HX.out.trans HY.out.symm))
          rw [hxy] at hneq
          clear hxy
          go_wp2
          go_quiet (fail)
          go_wp2
          go_ret
          exact ⟨by rw [HE.out]; rfl, below_drewN (below_drewN (Below.refl _ _) _) _⟩
      · have HE := Lib.hid (show (l == r) = true by
          rw [beq_iff_eq]
          refine List.ext_getElem? fun q => ?_
          by_cases hq : q < j
          · exact Hall.out q hq
          · rw [List.getElem?_eq_none (by have := HL.out; omega), List.getElem?_eq_none (by have := HR.out; omega)])
        go_wp2
        go_ret
        exact ⟨by rw [HE.out]; rfl, by first | exact below_drewN (Below.refl _ _) _ | exact Below.refl _ _⟩
  · have HE := Lib.hid (show (l == r) = false by
      rw [beq_eq_false_iff_ne]
      rintro rfl
      exact hmk (HL.out.symm.trans HR.out))
    have hne : ((m : Int) != (k : Int)) = true := by rw [bne_iff_ne]; omega
    go_enter Tryd.func90, Tryd.ntmps90
    go_wp2
    go_ret
    exact ⟨by rw [HE.out]; rfl, Below.refl _ _⟩
end Go.Proofs.YtgegmoedgegkcaaDoor

namespace Go.Proofs.YtgegmoedgegkcaaDoor
open Go.RowKit

def wkNext (f : Nat → BitVec 64) (x : Nat) (s : BitVec 64) : Nat := (Mk.elems (f x &&& s)).head?.getD 0
def wkTail (f : Nat → BitVec 64) : Nat → List (BitVec 64) → List Nat
  | _, [] => []
  | x, s :: l => wkNext f x s :: wkTail f (wkNext f x s) l
/-- What walk answers. -/
def walkL (f : Nat → BitVec 64) (fr : Nat) (ats : List (BitVec 64)) : List Nat := fr :: wkTail f fr ats.dropLast.reverse
theorem wkNext_lt {f : Nat → BitVec 64} {x : Nat} (hs : ∀ y ∈ Mk.elems (f x), y < 48) (s : BitVec 64) : wkNext f x s < 48 := by
  unfold wkNext
  cases h : Mk.elems (f x &&& s) with
  | nil => simp
  | cons y l =>
    have h1 : y ∈ Mk.elems (f x &&& s) := by rw [h]; simp
    have h2 := Mk.mem_elems.1 h1
    rw [BitVec.getLsbD_and, Bool.and_eq_true] at h2
    exact hs y (Mk.mem_elems.2 h2.1)
theorem take_rev {ats : List (BitVec 64)} {p : Nat} (h : p < ats.length) : (ats.take (p + 1)).reverse = ats[p] :: (ats.take p).reverse := by
  rw [List.take_succ_eq_append_getElem h, List.reverse_append]; rfl

set_option maxRecDepth 8000 in
set_option maxHeartbeats 2000000 in
theorem c_walk (n : Int) (f : Nat → BitVec 64) (hs : ∀ a, a < 48 → ∀ y ∈ Mk.elems (f a), y < 48) (fr : Nat) (hfr : fr < 48) (ats : List (BitVec 64)) (L : Nat) (hL : ats.length = L) (h1 : 1 ≤ L) (h2 : L ≤ 1000) (ad : Option Addr) (cap : Nat) (w : World) (hT : Tab w) (hp : SlAt w w.heap.size ad (vs ats)) :
    Calls Tryd.prog 134 #[.agg (rcs n f), .int .i64 fr, .slice ad L cap] w fun e w' => ∃ v, e = .returned v ∧ w'.ownsRow w.heap.size 3 1 v L (vn (walkL f fr ats)) ∧ Below w.heap.size w w' := by
  have HS := Lib.hid hs
  have HP := Lib.hid hp
  have HLn := Lib.hid hL
  have HTw := Lib.hid hT
  have HS0 := Lib.hid (St.box1 w n f)
  obtain ⟨i0, hi, hz0, hz1, hz2⟩ := info_parts Tryd.info3
  clear hs hp hL hT
  go_enter Tryd.func134, Tryd.ntmps134
  go_upto_region 1 with (fail)
  generalize w.alloc (.cells (rcs n f) 53) = wb at *
  obtain ⟨b, hb0, hle⟩ : ∃ b, w.heap.size = b ∧ w.heap.size ≤ b := ⟨_, rfl, Nat.le_refl _⟩
  rw [hb0] at HS0 ⊢
  clear hb0
  go_upto_region 2 with (fail)
  have hown0 : (wb.alloc (.cells #[.int .i64 (fr : Int)] 3)).ownsRow wb.heap.size 3 1 (.slice (some ⟨wb.heap.size, 0, none⟩) 1 1) 1 (vn [fr]) := World.ownsRow_lit wb #[.int .i64 (fr : Int)] 1 (Nat.le_refl _) (by unfold maxLen; omega) rfl
  have HS1 := Lib.hid (HS0.out.allocO (.cells #[.int .i64 (fr : Int)] 3))
  have HO := Lib.hid hown0
  have hbg := (HS0.out.get (i := 0) rfl).lt
  have hwg := HS0.out.bel.size
  have hgc : wb.heap.size ≤ (wb.alloc (.cells #[.int .i64 (fr : Int)] 3)).heap.size := by rw [World.size_alloc]; omega
  clear hown0
  simp only at hbg
  generalize wb.alloc (.cells #[.int .i64 (fr : Int)] 3) = wc at *
  generalize wb.heap.size = g0 at *
  go_wp2
  go_loopw [7, 8] (fun v i wr => ∃ (q : Nat) (pre : List Nat) (x N : Nat) (z : Int), i = .int .i64 z ∧ z = (q : Int) - 1 ∧ N + q = L ∧ N = pre.length + 1 ∧ x < 48 ∧ walkL f fr ats = pre ++ x :: wkTail f x (ats.take q).reverse ∧
    wr.ownsRow g0 3 1 v N (vn (pre ++ [x])) ∧ g0 ≤ wr.heap.size ∧ St w wr [⟨b, n, f⟩]) (fun _ i _ => (intOf i + 1).toNat)
  case atStart => exact ⟨L - 1, [], fr, 1, _, rfl, by omega, by omega, rfl, hfr, by unfold walkL; rw [List.dropLast_eq_take, HLn.out]; rfl, HO.out, hgc, HS1.out⟩
  case round =>
    obtain ⟨q, pre, x, N, z, rfl, hz, hNq, hN, hx48, hwk, hown, hgr, hst⟩ := hrel
    have HWK := Lib.hid hwk
    have HOW := Lib.hid hown
    have HST := Lib.hid hst
    have HN := Lib.hid hN
    clear hwk hown hst hN
    rcases Nat.eq_zero_or_pos q with h0 | h0
    · obtain rfl : z = -1 := by omega
      have HV := Lib.hid (show walkL f fr ats = pre ++ [x] by rw [HWK.out, h0]; rfl)
      have HNL := Lib.hid (show N = L by omega)
      clear hz h0 hNq
      go_wp2
      go_ret
      exact ⟨_, rfl, by rw [HV.out, ← HNL.out]; exact ownsRow_base HOW.out hwg, HST.out.bel⟩
    · obtain ⟨p, rfl⟩ : ∃ p, q = p + 1 := ⟨q - 1, by omega⟩
      obtain rfl : z = (p : Int) := by omega
      have hpl : p < ats.length := by rw [HLn.out]; omega
      have hpL : (p : Int) < (L : Int) := by omega
      obtain ⟨c, off, rfl, hclt, hcs⟩ := HP.out.set hpl
      obtain ⟨g, cap2, rfl, hNc, hcm, hgb, hglt, hsl, hfz⟩ := owns_form_pos HOW.out (by have := HN.out; omega)
      have hM := HN.out
      obtain ⟨M, hM2⟩ : ∃ M, pre.length = M := ⟨_, rfl⟩
      have hcx := (hsl.cell (j := M) (by simp [vn]; omega)).2
      simp only [vn, List.map_append, List.map_cons, List.map_nil, Nat.zero_add] at hcx
      rw [List.getElem_append_right (by simp; omega)] at hcx
      simp only [List.length_map, hM2, Nat.sub_self, List.getElem_cons_zero] at hcx
      have hMN : N = M + 1 := by omega
      have hwN : IntKind.i64.wrap ((N : Int) - 1) = (M : Int) := by rw [IntWalk.i64_in _ (by omega)]; omega
      have hMlt : (M : Int) < (N : Int) := by omega
      have hxi : (x : Int) < 48 := by omega
      have HSU := Lib.hid (take_rev hpl)
      obtain ⟨s, hss⟩ : ∃ s, s = ats[p] := ⟨_, rfl⟩
      rw [← hss] at hcs HSU
      have hy48 := wkNext_lt (f := f) (x := x) (HS.out x hx48) s
      have hfirst := fun w hT => c_First (f x &&& s) w hT
      obtain ⟨bb, hbb⟩ : ∃ bb, (Mk.elems (f x &&& s)).head?.isSome = bb := ⟨_, rfl⟩
      obtain ⟨y, hy⟩ : ∃ y, wkNext f x s = y := ⟨_, rfl⟩
      rw [hbb, show (Mk.elems (f x &&& s)).head?.getD 0 = y from hy] at hfirst
      have HF := Lib.hid hfirst
      have HY := Lib.hid hy
      have HTr := Lib.hid (HST.out.tab HTw.out)
      have HMN := Lib.hid hMN
      rw [hy] at hy48
      have hcr := (HST.out.bel.cell (p := ⟨c, off + p, none⟩) hclt).trans hcs
      have hclt2 : c < wr.heap.size := Nat.lt_of_lt_of_le hclt HST.out.bel.size
      clear hz h0 hss hbb hy hfirst hM hM2 hMN hsl hfz hcs
      go_upto_region 5 with (fail)
      (refine wp_region_calm (by kernel_rfl) (by kernel_rfl) ?_; (repeat ((refine calm_step (fun K hK => ?_)); go_simp; (first | (refine hK _ ?_; clear hK K) | (refine Calm.of ?_; apply Exists.intro; refine ⟨fun wcalm hcalm => ?_, hK _ ?_⟩; (focus (((have e1 := (hcalm.cell (p := ⟨g, M, none⟩) hglt).trans hcx; have e2 := ((HST.out.get (i := 0) rfl).over hcalm).row hx48; have e3 := (hcalm.cell (p := ⟨c, off + p, none⟩) hclt2).trans hcr)); go_simp; first | done | ((go_at_call 35; with_reducible exact calm_below hcalm (HF.out _ (Tab.bel hcalm HTr.out)))) | rfl)); clear hK K)))); refine calm_nil ?_; intro wq hq)
      have HQ := Lib.hid hq
      have hown2 := owns_over HOW.out hq
      have hsz := hq.size
      clear hq hcx hcr hwN
      go_wp2_with (at_builtin; refine wpList_append_own2 _ rfl _ _ 24 rfl g0 3 i0 _ 1 8 Tryd.underlying24 hi hz0 hz1 hz2 rfl (by decide) _ _ _ rfl (hown2.alloc _) ⟨wq.heap.size, 0, none⟩ 1 1 [.int .i64 (y : Int)] rfl rfl (cell_one_new _ _ _) (by simp [Value.oneCell']) (by unfold maxLen; omega) (by omega) (by simp; omega) ?_; intro v' w5 hown5 hgrow hsn)
      have hst5 : St w w5 [⟨b, n, f⟩] := by
        have ha := (HST.out.over HQ.out).allocO (.cells #[.int .i64 (y : Int)] 3)
        refine ⟨ha.bel.grown hgrow ha.bel.size (fun k hk => by have := (owned_block hown2 hk).1; omega), ha.old, ?_, ha.dis⟩
        intro e he
        have hr := ha.rel e he
        refine ⟨(hgrow.block e.b hr.lt (fun hk => ?_)).trans hr.heap⟩
        have := (owned_block hown2 hk.symm).1
        simp only [List.mem_singleton] at he
        subst he
        simp only at this
        omega
      refine ⟨⟨p, pre ++ [x], y, N + 1, _, rfl, by omega, by omega, by have := HN.out; simp only [List.length_append, List.length_cons, List.length_nil, this], hy48, ?_, ?_, by have := hgrow.size; simp only [World.size_alloc] at this; omega, hst5⟩, by simp [intOf]⟩
      · rw [HWK.out, HSU.out]; simp [wkTail, HY.out]
      · simp only [vn, List.map_append, List.map_cons, List.map_nil] at hown5 ⊢
        exact hown5
end Go.Proofs.YtgegmoedgegkcaaDoor

namespace Go.Proofs.YtgegmoedgegkcaaDoor
open Go.RowKit

/-- The sets from which one comes back in one step, two, and so on, till the thing itself is met. -/
def arGo (B : Nat → BitVec 64) (G : BitVec 64) (fr : Nat) : Nat → BitVec 64 → BitVec 64 → List (BitVec 64) → Option (List (BitVec 64))
  | 0, _, _, _ => none
  | k + 1, now, met, ats => if now == 0#64 then none else if has now fr then some (ats ++ [now]) else arGo B G fr k (stp B now &&& G &&& ~~~(met ||| now)) (met ||| now) (ats ++ [now])
def arG (n : Int) (fr : Nat) : BitVec 64 := (mall n &&& ~~~ mall ((fr : Int) + 1)) ||| 1#64 <<< fr
def arAt (n : Int) (f : Nat → BitVec 64) (fr : Nat) : Option (List (BitVec 64)) := arGo (bk (prsR n f)) (arG n fr) fr 65 (bk (prsR n f) fr &&& arG n fr) 0#64 []
/-- What around answers. -/
def arL (n : Int) (f : Nat → BitVec 64) (fr : Nat) : List Nat := match arAt n f fr with | none => [] | some ats => walkL f fr ats
theorem has_and' (a b : BitVec 64) (i : Nat) : has (a &&& b) i = (has a i && has b i) := BitVec.getLsbD_and
theorem has_andNot (a b : BitVec 64) (i : Nat) : has (a &&& ~~~b) i = (has a i && !has b i) := by
  rw [has_and', has_not]
  by_cases h : i < 64
  · simp [h]
  · have : has a i = false := by
      cases hh : has a i with
      | false => rfl
      | true => exact absurd (has_lt hh) h
    rw [this]; rfl
theorem ar_less {G now met : BitVec 64} (h0 : now ≠ 0#64) (hG : ∀ i, has now i = true → has G i = true ∧ has met i = false) : (Mk.elems (G &&& ~~~(met ||| now))).length < (Mk.elems (G &&& ~~~met)).length := by
  rw [elems_count, elems_count]
  obtain ⟨i, hi⟩ : ∃ i, has now i = true := by
    apply Classical.byContradiction
    intro hne
    exact h0 (Mk.has_ext' fun j => by rw [has_zero]; cases hh : has now j with
      | false => rfl
      | true => exact absurd ⟨j, hh⟩ hne)
  refine countP_lt (fun x _ hx => ?_) i (List.mem_range.2 (has_lt hi)) ?_ ?_
  · rw [has_andNot, Bool.and_eq_true] at hx ⊢
    refine ⟨hx.1, ?_⟩
    have h2 := hx.2
    rw [has_or] at h2
    cases hm : has met x with
    | false => rfl
    | true => rw [hm] at h2; simp at h2
  · rw [has_andNot, (hG i hi).1, (hG i hi).2]; rfl
  · rw [has_andNot, has_or, hi]; simp
theorem arG_lt {n : Int} {fr : Nat} (h48 : n ≤ 48) (hfr : fr < 48) {i : Nat} (h : has (arG n fr) i = true) : i < 48 := by
  unfold arG at h
  rw [has_or, Bool.or_eq_true, has_and', has_mall, has_one fr i (by omega)] at h
  rcases h with h | h
  · simp only [Bool.and_eq_true, decide_eq_true_eq] at h; omega
  · simp only [decide_eq_true_eq] at h; omega

theorem wkTail_len (f : Nat → BitVec 64) (l : List (BitVec 64)) : ∀ x, (wkTail f x l).length = l.length := by
  induction l with
  | nil => intro x; rfl
  | cons s l ih => intro x; simp [wkTail, ih]

set_option maxRecDepth 8000 in
set_option maxHeartbeats 2000000 in
theorem c_around (n : Int) (f : Nat → BitVec 64) (hr : right n f = true) (fr : Nat) (hfr : fr < 48) (w : World) (hT : Tab w) :
    Calls Tryd.prog 112 #[.agg (rcs n f), .int .i64 fr] w fun e w' => ∃ v, e = .returned v ∧ w'.ownsRow w.heap.size 3 1 v (arL n f fr).length (vn (arL n f fr)) ∧ Below w.heap.size w w' := by
  obtain ⟨h0, h48⟩ := right_range hr
  have HS0 := Lib.hid (St.box1 w n f)
  have HTw := Lib.hid hT
  have HSR := Lib.hid (show ∀ a, a < 48 → ∀ y ∈ Mk.elems (f a), y < 48 from fun a ha y hy => by have := elems_right hr ha y hy; omega)
  obtain ⟨i0, hi, hz0, hz1, hz2⟩ := info_parts Tryd.info23
  have HBk := Lib.hid (fun w hT => c_Back n f w hT)
  rw [show backN n f = n by unfold backN; rw [hr]; rfl] at HBk
  obtain ⟨B, hB⟩ : ∃ B, B = bk (prsR n f) := ⟨_, rfl⟩
  rw [← hB] at HBk
  obtain ⟨G, hG⟩ : ∃ G, arG n fr = G := ⟨_, rfl⟩
  obtain ⟨G1, hG1⟩ : ∃ G1, mall n &&& ~~~ mall ((fr : Int) + 1) = G1 := ⟨_, rfl⟩
  have hGG : G1 ||| 1#64 <<< fr = G := by rw [← hG1]; exact hG
  have HG48 := Lib.hid (show ∀ i, has G i = true → i < 48 from fun i h => arG_lt h48 hfr (hG ▸ h))
  have HA := Lib.hid (show arAt n f fr = arGo B G fr 65 (B fr &&& G) 0#64 [] by unfold arAt; rw [← hB, hG])
  clear hT hr hB hG
  go_enter Tryd.func112, Tryd.ntmps112
  go_upto_region 1 with (fail)
  generalize w.alloc (.cells (rcs n f) 53) = wb at *
  obtain ⟨b, hb0, hle⟩ : ∃ b, w.heap.size = b ∧ w.heap.size ≤ b := ⟨_, rfl, Nat.le_refl _⟩
  rw [hb0] at HS0 ⊢
  clear hb0
  go_upto_region 4 with (first
    | (refine wpList_loadNS 0 HS0.out _ rfl rfl rfl (by rfl) ?_)
    | (go_at_call 27; (with_reducible refine (c_All _ _).mono ?_); rintro e wa ⟨rfl, rfl⟩)
    | (refine wpList_loadS 0 HS0.out _ rfl rfl rfl (by rfl) ?_)
    | (go_at_call 68; (with_reducible refine (HBk.out _ (HS0.out.tab HTw.out)).mono ?_); rintro e w2 ⟨rfl, hb2⟩; have HS1 := Lib.hid (HS0.out.over hb2); clear hb2)
    | (refine wpList_allocS HS1.out rfl rfl ?_; intro c wc hS; have HS2 := Lib.hid hS; clear hS)
    | (refine wpList_storeS 0 HS2.out _ _ rfl rfl rfl rfl rfl ?_; intro w3 hS; simp only [List.set_cons_zero] at hS; have HS3 := Lib.hid hS; clear hS))
  have hrow := (HS3.out.get (i := 0) rfl).row hfr
  have hfi : (fr : Int) < 48 := by omega
  have hfi2 : (fr : Int) < 64 := by omega
  go_quiet (fail)
  have HS4 := Lib.hid (HS3.out.drewN nq)
  clear hrow
  generalize w3.drewN nq = w4 at *
  have hcl := (HS4.out.get (i := 0) rfl).lt
  have hbl := (HS4.out.get (i := 1) rfl).lt
  have hwl := HS4.out.bel.size
  simp only at hcl hbl
  obtain ⟨g1, hg1⟩ : ∃ g1, w4.heap.size = g1 := ⟨_, rfl⟩
  have hg1' : g1 ≤ w4.heap.size := Nat.le_of_eq hg1.symm
  rw [hg1] at hcl hbl hwl
  have HL64 := Lib.hid (Mk.elems_length_le (G &&& ~~~ 0#64))
  clear hg1 hG1
  go_wp2
  go_loopg [7, 8, 9] (Mk.elems (G &&& ~~~ 0#64)).length (fun k v s8 s9 wr => ∃ (now met : BitVec 64) (ats : List (BitVec 64)) (fu N : Nat), s8 = .int .u64 (iv now) ∧ s9 = .int .u64 (iv met) ∧ k = (Mk.elems (G &&& ~~~met)).length ∧ k < fu ∧ arGo B G fr fu now met ats = arAt n f fr ∧
    (∀ i, has now i = true → has G i = true ∧ has met i = false) ∧ N = ats.length ∧ wr.ownsRow g1 23 1 v N (vs ats) ∧ N + k ≤ 64 ∧ g1 ≤ wr.heap.size ∧ St w wr [⟨c, n, B⟩, ⟨b, n, f⟩])
  case atStart =>
    exact ⟨B fr &&& G, 0#64, [], 65, 0, rfl, rfl, rfl, by have := HL64.out; omega, HA.out.symm, fun i hi => ⟨by rw [has_and', Bool.and_eq_true] at hi; exact hi.2, has_zero i⟩, rfl, World.ownsRow_nil _ _ _ _, by have := HL64.out; omega, hg1', HS4.out⟩
  case round =>
    obtain ⟨now, met, ats, fu, N, rfl, rfl, hgk, hfu, hgo, hnow, hN, hown, hN64, hgr, hst⟩ := hrel
    have HGK := Lib.hid hgk
    have HGO := Lib.hid hgo
    have HNOW := Lib.hid hnow
    have HN := Lib.hid hN
    have HOW := Lib.hid hown
    have HST := Lib.hid hst
    clear hgk hgo hnow hN hown hst
    obtain ⟨fu, rfl⟩ : ∃ q, fu = q + 1 := ⟨fu - 1, by omega⟩
    cases hz : now != 0#64 with
    | false =>
      have hn0 : now == 0#64 := bne_eq_true_flip hz
      have HV := Lib.hid (show arL n f fr = [] by
        unfold arL
        rw [← HGO.out]
        unfold arGo
        rw [if_pos hn0])
      clear hn0
      go_wp2
      go_ret
      exact ⟨_, rfl, by rw [HV.out]; exact World.ownsRow_nil _ _ _ _, HST.out.bel⟩
    | true =>
      have hn0 := bne_eq_false_flip hz
      have HU := Lib.hid (show arGo B G fr (fu + 1) now met ats = if has now fr then some (ats ++ [now]) else arGo B G fr fu (stp B now &&& G &&& ~~~(met ||| now)) (met ||| now) (ats ++ [now]) by
        conv => lhs; unfold arGo
        rw [if_neg (by rw [hn0]; simp)])
      have HLess := Lib.hid (ar_less (G := G) (met := met) (beq_eq_false_iff_ne.1 hn0) HNOW.out)
      have HHG := Lib.hid (HNOW.out)
      clear hn0
      go_upto_region 7 with (at_builtin; refine wpList_append_own2 _ rfl _ _ 39 rfl g1 23 i0 _ 1 8 Tryd.underlying39 hi hz0 hz1 hz2 rfl (by decide) _ _ _ rfl (HOW.out.alloc _) ⟨wr.heap.size, 0, none⟩ 1 1 [.int .u64 (iv now)] rfl rfl (cell_one_new _ _ _) (by simp [Value.oneCell']) (by unfold maxLen; omega) (by omega) (by simp; omega) ?_; intro v' w5 hown5 hgrow hsn)
      have hst5 : St w w5 [⟨c, n, B⟩, ⟨b, n, f⟩] := by
        have ha := HST.out.allocO (.cells #[.int .u64 (iv now)] 23)
        refine ⟨ha.bel.grown hgrow ha.bel.size (fun k hk => by have := (owned_block HOW.out hk).1; omega), ha.old, ?_, ha.dis⟩
        intro e he
        have hr := ha.rel e he
        refine ⟨(hgrow.block e.b hr.lt (fun hk => ?_)).trans hr.heap⟩
        have := (owned_block HOW.out hk.symm).1
        simp only [List.mem_cons, List.not_mem_nil, or_false] at he
        rcases he with rfl | rfl <;> simp only at this <;> omega
      have hgr5 : g1 ≤ w5.heap.size := by have := hgrow.size; simp only [World.size_alloc] at this; omega
      rw [← vs_snoc] at hown5
      have HO5 := Lib.hid hown5
      have HS5 := Lib.hid hst5
      have HN5 := Lib.hid (show N + 1 = (ats ++ [now]).length by have := HN.out; simp; omega)
      clear hown5 hst5 hgrow hsn
      obtain ⟨N2, hN2⟩ : ∃ N2, N + 1 = N2 := ⟨_, rfl⟩
      rw [hN2] at HO5 HN5
      have HN2 := Lib.hid hN2
      clear hN2
      obtain ⟨ats2, ha2⟩ : ∃ a2, ats ++ [now] = a2 := ⟨_, rfl⟩
      rw [ha2] at HO5 HN5 HU
      clear ha2
      cases hh : has now fr with
      | true =>
        have HV := Lib.hid (show arL n f fr = walkL f fr ats2 by
          unfold arL
          rw [← HGO.out, HU.out, hh]; rfl)
        obtain ⟨g, cap2, rfl, hNc, hcm, hgb, hglt, hsl, hfz⟩ := owns_form_pos HO5.out (by have := HN2.out; omega)
        have HSL := Lib.hid hsl
        have HWk := Lib.hid (show (walkL f fr ats2).length = N2 by
          unfold walkL
          rw [List.length_cons, wkTail_len, List.length_reverse, List.length_dropLast, ← HN5.out]
          have := HN2.out
          omega)
        clear hsl hfz
        go_wp2_with (first
          | (refine wpList_loadS 1 HS5.out _ rfl rfl rfl (by rfl) ?_)
          | (go_at_call 134; (with_reducible refine (c_walk n f HSR.out fr hfr ats2 N2 HN5.out.symm (by have := HN2.out; omega) (by have := HN2.out; omega) _ _ _ (HS5.out.tab HTw.out) HSL.out).mono ?_); rintro e w6 ⟨v6, rfl, hown6, hb6⟩))
        go_ret
        exact ⟨_, rfl, by rw [HV.out, HWk.out]; exact ownsRow_base hown6 HS5.out.bel.size, Below.chain HS5.out.bel hb6⟩
      | false =>
        have HV := Lib.hid (show arGo B G fr fu (stp B now &&& G &&& ~~~(met ||| now)) (met ||| now) ats2 = arAt n f fr by
          rw [← HGO.out, HU.out, hh]; rfl)
        have HNL := Lib.hid (show ∀ x ∈ Mk.elems now, x < 48 from fun x hx => HG48.out x (HHG.out x (Mk.mem_elems.1 hx)).1)
        have HT5 := Lib.hid (HS5.out.tab HTw.out)
        obtain ⟨met2, hm2⟩ : ∃ m2, met ||| now = m2 := ⟨_, rfl⟩
        rw [hm2] at HV HLess
        go_upto_region 10 with (fail)
        clear hm2
        (refine wp_region_calm (by kernel_rfl) (by kernel_rfl) ?_; (repeat (first | ((refine calm_step (fun K hK => ?_)); (refine calm_load_rel rfl _ rfl rfl (fun w hC => (HS5.out.get (i := 0) rfl).over hC) ?_); refine hK _ ?_; clear hK K) | ((refine calm_step (fun K hK => ?_)); go_simp; (first | (refine hK _ ?_; clear hK K) | (refine Calm.of ?_; apply Exists.intro; refine ⟨fun wcalm hcalm => ?_, hK _ ?_⟩; (focus ((skip); go_simp; first | done | ((go_at_call 103; with_reducible exact calm_below hcalm (c_step n B now HNL.out _ (Tab.bel hcalm HT5.out)))) | rfl)); clear hK K))))); refine calm_nil ?_; intro wq hq)
        have hst6 := HS5.out.over hq
        have hown6 := owns_over HO5.out hq
        have hsz6 := hq.size
        go_wp2
        go_roundg (Mk.elems (G &&& ~~~met2)).length
        case measure => have := HLess.out; have := HGK.out; omega
        case rel =>
          have h1 := HLess.out
          have h2 := HGK.out
          have h3 := HN2.out
          refine ⟨_, met2, ats2, fu, N2, rfl, rfl, rfl, by omega, HV.out, fun i hi => ?_, HN5.out, hown6, by omega, by omega, hst6⟩
          rw [has_andNot, has_and', Bool.and_eq_true, Bool.and_eq_true] at hi
          exact ⟨hi.1.2, by simpa using hi.2⟩
end Go.Proofs.YtgegmoedgegkcaaDoor

namespace Go.Proofs.YtgegmoedgegkcaaDoor
open Go.RowKit

/-- The shorter ring; the first of two that are as long. -/
def rgStep (best l : List Nat) : List Nat := if 0 < l.length ∧ (best.length = 0 ∨ l.length < best.length) then l else best
def rgUp (n : Int) (f : Nat → BitVec 64) (k : Nat) : List Nat := (List.range k).foldl (fun best a => rgStep best (arL n f a)) []
/-- What Ring answers. -/
def ringL (n : Int) (f : Nat → BitVec 64) : List Nat := if right n f then rgUp n f n.toNat else []
theorem rgUp_succ (n : Int) (f : Nat → BitVec 64) (k : Nat) : rgUp n f (k + 1) = rgStep (rgUp n f k) (arL n f k) := by
  unfold rgUp; rw [List.range_succ, List.foldl_append]; rfl
theorem arGo_len (B : Nat → BitVec 64) (G : BitVec 64) (fr : Nat) : ∀ (k : Nat) (now met : BitVec 64) (ats l : List (BitVec 64)), arGo B G fr k now met ats = some l → l.length ≤ ats.length + k
  | 0, _, _, _, _, h => by cases h
  | k + 1, now, met, ats, l, h => by
    unfold arGo at h
    split at h
    · cases h
    · split at h
      · simp only [Option.some.injEq] at h; subst h; simp
      · have := arGo_len B G fr k _ _ _ _ h
        simp at this; omega
theorem arL_len (n : Int) (f : Nat → BitVec 64) (fr : Nat) : (arL n f fr).length ≤ 66 := by
  unfold arL
  cases h : arAt n f fr with
  | none => simp
  | some l =>
    have := arGo_len _ _ _ _ _ _ _ _ h
    simp only [walkL, List.length_cons, wkTail_len, List.length_reverse, List.length_dropLast]
    simp at this; omega
theorem rgUp_len (n : Int) (f : Nat → BitVec 64) (k : Nat) : (rgUp n f k).length ≤ 66 := by
  induction k with
  | zero => simp [rgUp]
  | succ k ih =>
    rw [rgUp_succ]; unfold rgStep
    split
    · exact arL_len n f k
    · exact ih

set_option maxRecDepth 8000 in
set_option maxHeartbeats 2000000 in
theorem c_Ring (n : Int) (f : Nat → BitVec 64) (w : World) (hT : Tab w) :
    Calls Tryd.prog 53 #[.agg (rcs n f)] w fun e w' => ∃ v, e = .returned v ∧ w'.ownsRow w.heap.size 3 1 v (ringL n f).length (vn (ringL n f)) ∧ Below w.heap.size w w' := by
  have HS0 := Lib.hid (St.box1 w n f)
  have HTw := Lib.hid hT
  clear hT
  go_enter Tryd.func53, Tryd.ntmps53
  go_upto_region 1 with (fail)
  generalize w.alloc (.cells (rcs n f) 53) = wb at *
  obtain ⟨b, hb0, hle⟩ : ∃ b, w.heap.size = b ∧ w.heap.size ≤ b := ⟨_, rfl, Nat.le_refl _⟩
  rw [hb0] at HS0 ⊢
  clear hb0
  cases hRf : right n f with
  | false =>
    have HA := Lib.hid (show ∀ w, Calls Tryd.prog 83 #[.agg (rcs n f)] w fun e w' => e = .returned (.bool false) ∧ Below w.heap.size w w' from fun w => hRf ▸ c_Right n f w)
    have HV := Lib.hid (show ringL n f = [] by unfold ringL; rw [hRf]; rfl)
    clear hRf
    go_wp2_with (first
      | (refine wpList_loadS 0 HS0.out _ rfl rfl rfl (by rfl) ?_)
      | (go_at_call 83; (with_reducible refine (HA.out _).mono ?_); rintro e wn ⟨rfl, hb⟩))
    go_ret
    exact ⟨_, rfl, by rw [HV.out]; exact World.ownsRow_nil _ _ _ _, (HS0.out.over hb).bel⟩
  | true =>
    obtain ⟨h0, h48⟩ := right_range hRf
    have HA := Lib.hid (show ∀ w, Calls Tryd.prog 83 #[.agg (rcs n f)] w fun e w' => e = .returned (.bool true) ∧ Below w.heap.size w w' from fun w => hRf ▸ c_Right n f w)
    have HAr := Lib.hid (c_around n f hRf)
    obtain ⟨m, rfl⟩ : ∃ m : Nat, n = m := ⟨n.toNat, (Int.toNat_of_nonneg h0).symm⟩
    have HV := Lib.hid (show ringL m f = rgUp m f m by unfold ringL; rw [hRf]; rfl)
    have hm48 : m ≤ 48 := by omega
    clear hRf h0 h48
    go_wp2_with (first
      | (refine wpList_loadS 0 HS0.out _ rfl rfl rfl (by rfl) ?_)
      | (go_at_call 83; (with_reducible refine (HA.out _).mono ?_); rintro e wn ⟨rfl, hb⟩; have HS1 := Lib.hid (HS0.out.over hb); clear hb)
      | (refine wpList_loadNS 0 HS1.out _ rfl rfl rfl (by rfl) ?_))
    go_loopw [3, 11] (fun v i wr => ∃ (k N : Nat), k ≤ m ∧ i = .int .i64 k ∧ N = (rgUp m f k).length ∧ wr.ownsRow w.heap.size 3 1 v N (vn (rgUp m f k)) ∧ St w wr [⟨b, m, f⟩]) (fun _ i _ => m - (intOf i).toNat)
    case atStart => exact ⟨0, 0, by omega, rfl, rfl, World.ownsRow_nil _ _ _ _, HS1.out⟩
    case round =>
      obtain ⟨k, N, hk, rfl, hN, hown, hst⟩ := hrel
      have HN := Lib.hid hN
      have HOW := Lib.hid hown
      have HST := Lib.hid hst
      clear hN hown hst
      by_cases hlt : k < m
      · have hk48 : k < 48 := by omega
        have HT1 := Lib.hid (HST.out.tab HTw.out)
        have HSU := Lib.hid (rgUp_succ m f k)
        obtain ⟨M, hM⟩ : ∃ M, (arL m f k).length = M := ⟨_, rfl⟩
        have hc := HAr.out k hk48 wr HT1.out
        rw [hM] at hc
        have HC := Lib.hid hc
        have HM := Lib.hid hM
        obtain ⟨ad, cap, rfl, hsl⟩ := SlAt.of_owns HOW.out
        have hM66 : M ≤ 66 := hM ▸ arL_len m f k
        have hN66 : N ≤ 66 := by have h1 := HN.out; have h2 := rgUp_len m f k; omega
        clear hc hM hsl
        by_cases hpos : 0 < M
        · by_cases hz : N = 0
          · have HX := Lib.hid (show rgUp m f (k + 1) = arL m f k by rw [HSU.out]; unfold rgStep; rw [if_pos ⟨by rw [HM.out]; exact hpos, .inl (by rw [← HN.out]; exact hz)⟩])
            have hd : ((N : Int) == 0) = true := by rw [hz]; rfl
            clear hz
            go_wp2_with (first
              | (refine wpList_loadS 0 HST.out _ rfl rfl rfl (by rfl) ?_)
              | (go_at_call 112; (with_reducible refine HC.out.mono ?_); rintro e w2 ⟨v2, rfl, hown2, hb2⟩; have HO2 := Lib.hid hown2; obtain ⟨ad2, cap2, rfl, hsl2⟩ := SlAt.of_owns hown2; clear hown2 hsl2))
            exact ⟨⟨k + 1, M, by omega, by go_num, by rw [HX.out, HM.out], by rw [HX.out]; exact ownsRow_base HO2.out HST.out.bel.size, HST.out.over hb2⟩, by simp [intOf]; omega⟩
          · have hd : ((N : Int) == 0) = false := beq_eq_false_iff_ne.2 (by omega)
            by_cases hMN : M < N
            · have HX := Lib.hid (show rgUp m f (k + 1) = arL m f k by rw [HSU.out]; unfold rgStep; rw [if_pos ⟨by rw [HM.out]; exact hpos, .inr (by rw [← HN.out, HM.out]; exact hMN)⟩])
              go_wp2_with (first
                | (refine wpList_loadS 0 HST.out _ rfl rfl rfl (by rfl) ?_)
                | (go_at_call 112; (with_reducible refine HC.out.mono ?_); rintro e w2 ⟨v2, rfl, hown2, hb2⟩; have HO2 := Lib.hid hown2; obtain ⟨ad2, cap2, rfl, hsl2⟩ := SlAt.of_owns hown2; clear hown2 hsl2))
              exact ⟨⟨k + 1, M, by omega, by go_num, by rw [HX.out, HM.out], by rw [HX.out]; exact ownsRow_base HO2.out HST.out.bel.size, HST.out.over hb2⟩, by simp [intOf]; omega⟩
            · have HX := Lib.hid (show rgUp m f (k + 1) = rgUp m f k by rw [HSU.out]; unfold rgStep; rw [if_neg (by rw [← HN.out, HM.out]; omega)])
              go_wp2_with (first
                | (refine wpList_loadS 0 HST.out _ rfl rfl rfl (by rfl) ?_)
                | (go_at_call 112; (with_reducible refine HC.out.mono ?_); rintro e w2 ⟨v2, rfl, hown2, hb2⟩; have HO2 := Lib.hid hown2; obtain ⟨ad2, cap2, rfl, hsl2⟩ := SlAt.of_owns hown2; clear hown2 hsl2))
              exact ⟨⟨k + 1, N, by omega, by go_num, by rw [HX.out, HN.out], by rw [HX.out]; exact owns_over HOW.out hb2, HST.out.over hb2⟩, by simp [intOf]; omega⟩
        · have HX := Lib.hid (show rgUp m f (k + 1) = rgUp m f k by rw [HSU.out]; unfold rgStep; rw [if_neg (by rw [HM.out]; omega)])
          go_wp2_with (first
            | (refine wpList_loadS 0 HST.out _ rfl rfl rfl (by rfl) ?_)
            | (go_at_call 112; (with_reducible refine HC.out.mono ?_); rintro e w2 ⟨v2, rfl, hown2, hb2⟩; have HO2 := Lib.hid hown2; obtain ⟨ad2, cap2, rfl, hsl2⟩ := SlAt.of_owns hown2; clear hown2 hsl2))
          exact ⟨⟨k + 1, N, by omega, by go_num, by rw [HX.out, HN.out], by rw [HX.out]; exact owns_over HOW.out hb2, HST.out.over hb2⟩, by simp [intOf]; omega⟩
      · have hkm : k = m := by omega
        subst hkm
        go_wp2
        go_ret
        exact ⟨_, rfl, by rw [HV.out, ← HN.out]; exact HOW.out, HST.out.bel⟩
end Go.Proofs.YtgegmoedgegkcaaDoor

namespace Go.Proofs.YtgegmoedgegkcaaDoor
open Go.RowKit

/-- The same, and blocks of the call's own (or older) that keep what they hold. -/
structure Sk (w0 w : World) (L : List RlE) (K : List (Nat × Obj)) : Prop where
  st : St w0 w L
  keep : ∀ p ∈ K, w.heap[p.1]? = some p.2
  apart : ∀ p ∈ K, ∀ e ∈ L, e.b ≠ p.1
namespace Sk
variable {w0 w w' : World} {L : List RlE} {K : List (Nat × Obj)}
theorem of (h : St w0 w L) : Sk w0 w L [] := ⟨h, by simp, by simp⟩
theorem over (h : Sk w0 w L K) (hb : Below w.heap.size w w') : Sk w0 w' L K :=
  ⟨h.st.over hb, fun p hp => (hb.block p.1 (Array.getElem?_eq_some_iff.1 (h.keep p hp)).1).trans (h.keep p hp), h.apart⟩
theorem drewN (h : Sk w0 w L K) (k : Nat) : Sk w0 (w.drewN k) L K := h.over (below_drewN (Below.refl _ _) k)
theorem allocO (h : Sk w0 w L K) (o : Obj) : Sk w0 (w.alloc o) L K := h.over ((Below.refl _ _).alloc (Nat.le_refl _) o)
theorem alloc (h : Sk w0 w L K) (n : Int) (f : Nat → BitVec 64) : Sk w0 (w.alloc (.cells (rcs n f) 53)) (⟨w.heap.size, n, f⟩ :: L) K := by
  have h1 := h.allocO (.cells (rcs n f) 53)
  refine ⟨h.st.alloc n f, h1.keep, fun p hp e he => ?_⟩
  rcases List.mem_cons.1 he with rfl | he
  · exact (Nat.ne_of_lt (Array.getElem?_eq_some_iff.1 (h.keep p hp)).1).symm
  · exact h.apart p hp e he
theorem tab (h : Sk w0 w L K) (hT : Tab w0) : Tab w := h.st.tab hT
theorem set_b {i : Nat} {b : Nat} {n m : Int} {f g : Nat → BitVec 64} (hi : L[i]? = some ⟨b, m, g⟩) {e : RlE} (he : e ∈ L.set i ⟨b, n, f⟩) : ∃ e' ∈ L, e'.b = e.b := by
  obtain ⟨j, hj, rfl⟩ := List.mem_iff_getElem.1 he
  rw [List.getElem_set]
  split
  · exact ⟨_, List.mem_of_getElem? hi, rfl⟩
  · exact ⟨_, List.getElem_mem (by simpa using hj), rfl⟩
theorem change {i : Nat} {b : Nat} {n m : Int} {f g : Nat → BitVec 64} (h : Sk w0 w L K) (hi : L[i]? = some ⟨b, m, g⟩) (hs : St w0 w' (L.set i ⟨b, n, f⟩)) (hk : ∀ c, c ≠ b → w'.heap[c]? = w.heap[c]?) : Sk w0 w' (L.set i ⟨b, n, f⟩) K := by
  refine ⟨hs, fun p hp => (hk p.1 fun hc => h.apart p hp _ (List.mem_of_getElem? hi) hc.symm).trans (h.keep p hp), fun p hp e he => ?_⟩
  obtain ⟨e', h1, h2⟩ := set_b hi he
  rw [← h2]; exact h.apart p hp e' h1
theorem put {i : Nat} {b : Nat} {m : Int} {g : Nat → BitVec 64} (n : Int) (f : Nat → BitVec 64) (h : Sk w0 w L K) (hi : L[i]? = some ⟨b, m, g⟩) : Sk w0 (w.setRow b (rcs n f)) (L.set i ⟨b, n, f⟩) K :=
  h.change hi (h.st.put n f hi) fun c hc => setRow_other w b c _ hc
theorem putN {i : Nat} {b : Nat} {m : Int} {g : Nat → BitVec 64} (n : Int) (h : Sk w0 w L K) (hi : L[i]? = some ⟨b, m, g⟩) : Sk w0 (w.setCell ⟨b, 0, none⟩ (.int .i64 n)) (L.set i ⟨b, n, g⟩) K :=
  h.change hi (h.st.putN n hi) fun c hc => Below.heap_setCell w _ _ c hc
theorem putRow {i : Nat} {b k : Nat} {m : Int} {g : Nat → BitVec 64} (hk : k < 48) (s : BitVec 64) (h : Sk w0 w L K) (hi : L[i]? = some ⟨b, m, g⟩) : Sk w0 (w.setCell ⟨b, 1 + k, none⟩ (.int .u64 (iv s))) (L.set i ⟨b, m, upd g k s⟩) K :=
  h.change hi (h.st.putRow hk s hi) fun c hc => Below.heap_setCell w _ _ c hc
/-- One more block that a callee made. -/
theorem got (h : Sk w0 w L K) (hb : Below w.heap.size w w') {g : Nat} {o : Obj} (hg : w.heap.size ≤ g) (ho : w'.heap[g]? = some o) : Sk w0 w' L ((g, o) :: K) := by
  have h1 := h.over hb
  refine ⟨h1.st, fun p hp => ?_, fun p hp e he => ?_⟩
  · rcases List.mem_cons.1 hp with rfl | hp
    · exact ho
    · exact h1.keep p hp
  · rcases List.mem_cons.1 hp with rfl | hp
    · exact Nat.ne_of_lt (Nat.lt_of_lt_of_le (h.st.rel e he).lt hg)
    · exact h1.apart p hp e he
theorem drop {p : Nat × Obj} (h : Sk w0 w L (p :: K)) : Sk w0 w L K := ⟨h.st, fun q hq => h.keep q (by simp [hq]), fun q hq => h.apart q (by simp [hq])⟩
end Sk
section
variable {ops : Array Oper} {rest : List Oper} {o : Oper} {a : Act} {w0 w : World} {Q : Exit → Act → World → Prop} {L : List RlE} {K : List (Nat × Obj)}
theorem wpList_loadK {b : Nat} {n : Int} {f : Nat → BitVec 64} (i : Nat) (hS : Sk w0 w L K) (x : Operand) (ho : o.op = .load 53 x) (hx : a.eval x = .pointer (some ⟨b, 0, none⟩)) (hi : L[i]? = some ⟨b, n, f⟩)
    (hgd : Region.wanted o (yielded ops a.tmps) = true) (h : wpList Tryd.prog ops Q rest (a.put o.dst (.agg (rcs n f))) w) : wpList Tryd.prog ops Q (o :: rest) a w :=
  wpList_loadS i hS.st x ho hx hi hgd h
theorem wpList_loadNK {b : Nat} {n : Int} {f : Nat → BitVec 64} (i : Nat) (hS : Sk w0 w L K) (x : Operand) (ho : o.op = .load 3 x) (hx : a.eval x = .pointer (some ⟨b, 0, none⟩)) (hi : L[i]? = some ⟨b, n, f⟩)
    (hgd : Region.wanted o (yielded ops a.tmps) = true) (h : wpList Tryd.prog ops Q rest (a.put o.dst (.int .i64 n)) w) : wpList Tryd.prog ops Q (o :: rest) a w :=
  wpList_loadNS i hS.st x ho hx hi hgd h
theorem wpList_storeK {b : Nat} {n m : Int} {f g : Nat → BitVec 64} (i : Nat) (hS : Sk w0 w L K) (x y : Operand) (ho : o.op = .store 53 x y) (hx : a.eval x = .pointer (some ⟨b, 0, none⟩)) (hi : L[i]? = some ⟨b, m, g⟩) (hy : a.eval y = .agg (rcs n f))
    (hgd : o.guard = none) (h : ∀ w', Sk w0 w' (L.set i ⟨b, n, f⟩) K → wpList Tryd.prog ops Q rest (a.put o.dst undef) w') : wpList Tryd.prog ops Q (o :: rest) a w :=
  wpList_store_rel hgd x y ho hx hy (hS.st.get hi) fun _ => h _ (hS.put n f hi)
theorem wpList_allocK (hS : Sk w0 w L K) (ho : o.op = .alloc 53) (hgd : o.guard = none)
    (h : ∀ b w', Sk w0 w' (⟨b, 0, fun _ => 0#64⟩ :: L) K → wpList Tryd.prog ops Q rest (a.put o.dst (.pointer (some ⟨b, 0, none⟩))) w') : wpList Tryd.prog ops Q (o :: rest) a w :=
  wpList_alloc_rel hgd ho (h _ _ (hS.alloc _ _))
theorem wpList_storeNK {b : Nat} {n m : Int} {g : Nat → BitVec 64} (i : Nat) (hS : Sk w0 w L K) (x y : Operand) (ho : o.op = .store 3 x y) (hx : a.eval x = .pointer (some ⟨b, 0, none⟩)) (hi : L[i]? = some ⟨b, m, g⟩) (hy : a.eval y = .int .i64 n)
    (hgd : Region.wanted o (yielded ops a.tmps) = true) (h : ∀ w', Sk w0 w' (L.set i ⟨b, n, g⟩) K → wpList Tryd.prog ops Q rest (a.put o.dst undef) w') : wpList Tryd.prog ops Q (o :: rest) a w :=
  wpList_step fun K' hK => by
    rw [if_pos hgd]
    have hR := hS.st.get hi
    have hc := hR.n_cell
    have hf := hR.unfrozen 0
    have hs : (sizeOf 3).run Tryd.prog w = .ok 1 w := by
      have hs : (Tryd.prog.info? 3).map (·.size) = some 1 := by kernel_rfl
      cases hq : Tryd.prog.info? 3 with
      | none => simp [hq] at hs
      | some i =>
        have hs : i.size = 1 := by simpa [hq] using hs
        simp [sizeOf, typeInfo, hq, hs]
    have hk := hK _ _ (h _ (hS.putN n hi))
    unfold Oper.wp execOp
    simp only [ho, hx, hy, Instr.storeAt, Instr.sureAddr, Sem.run_bind, Sem.run_pure, Result.andThen_ok, storeVar, Value.cells, hs]
    simp only [storeCells, Addr.add_lit, Nat.add_zero, List.size_toArray, List.length_cons, List.length_nil, Nat.zero_add, ne_eq, not_true, if_false, Sem.run_bind, Sem.run_pure]
    rw [run_store _ _ _ _ _ rfl]
    simp only [hc, hf, Bool.false_eq_true, if_false]
    exact hk
theorem wpList_neqK {n : Int} {f : Nat → BitVec 64} (x y : Operand) (t : TypeId) (ho : o.op = .binOp .neq 53 x y t) (hx : a.eval x = .agg (rcs n f)) (hy : a.eval y = .agg (rcs n f))
    (hgd : Region.wanted o (yielded ops a.tmps) = true) (h : wpList Tryd.prog ops Q rest (a.put o.dst (.bool false)) w) : wpList Tryd.prog ops Q (o :: rest) a w :=
  wpList_neqS x y t ho hx hy true (eqRel_self n f) hgd h
theorem wpList_eqlK {n : Int} {f : Nat → BitVec 64} (x y : Operand) (t : TypeId) (ho : o.op = .binOp .eql 53 x y t) (hx : a.eval x = .agg (rcs n f)) (hy : a.eval y = .agg (rcs n f))
    (hgd : Region.wanted o (yielded ops a.tmps) = true) (h : wpList Tryd.prog ops Q rest (a.put o.dst (.bool true)) w) : wpList Tryd.prog ops Q (o :: rest) a w :=
  wpList_eqlS x y t ho hx hy true (eqRel_self n f) hgd h
end
end Go.Proofs.YtgegmoedgegkcaaDoor
