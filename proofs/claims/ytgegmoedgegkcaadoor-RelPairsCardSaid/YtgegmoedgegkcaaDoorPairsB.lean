/-
  For seisinlaw02.RelPairs: the region that joins the turned list with itself, asks Of and stores its answer.
-/
import Derived.Test.YtgegmoedgegkcaaDoorPairsA
namespace Go.Proofs.YtgegmoedgegkcaaDoor
open Go.RowKit

theorem owns_below {w w' : World} {base e n k : Nat} {v : Value} {xs : List Value} (h : w.ownsRow base e k v n xs) (hb : Below w.heap.size w w') : w'.ownsRow base e k v n xs := by
  obtain ⟨hl, h | ⟨g, cap, cur, hv, hbg, hh, r⟩⟩ := h
  · exact ⟨hl, .inl h⟩
  · exact ⟨hl, .inr ⟨g, cap, cur, hv, hbg, (hb.block g (Array.getElem?_eq_some_iff.1 hh).1).trans hh, r⟩⟩
theorem owns_heap2 {w w' : World} {base e n k c cap : Nat} {xs : List Value} (h : w.ownsRow base e k (.slice (some ⟨c, 0, none⟩) n cap) n xs) (hb : w'.heap[c]? = w.heap[c]?) : w'.ownsRow base e k (.slice (some ⟨c, 0, none⟩) n cap) n xs := by
  obtain ⟨hl, ⟨h, _⟩ | ⟨g, cap', cur, hv, hbg, hh, r⟩⟩ := h
  · simp at h
  · have hg := hv
    simp only [Value.slice.injEq, Option.some.injEq, Addr.mk.injEq] at hg
    obtain ⟨⟨rfl, _⟩, _⟩ := hg
    exact ⟨hl, .inr ⟨c, cap', cur, hv, hbg, hb.trans hh, r⟩⟩
theorem owns_pos {w : World} {base e n k : Nat} {v : Value} {xs : List Value} (h : w.ownsRow base e k v n xs) (hn : 0 < n) : ∃ g cap, v = .slice (some ⟨g, 0, none⟩) n cap ∧ n ≤ cap ∧ cap ≤ maxLen := by
  obtain ⟨_, ⟨_, h0⟩ | ⟨g, cap, cur, hv, _, _, h1, h2, _⟩⟩ := h
  · omega
  · exact ⟨g, cap, hv, h1, h2⟩
theorem pr_own {w : World} {base e n cap : Nat} {ad : Option Addr} {l : List (Nat × Nat)} (h : w.ownsRow base e 2 (.slice ad n cap) n (vpr l)) : PrAt w w.heap.size ad l := by
  obtain ⟨ad', cap', e, hp⟩ := PrAt.of_owns h
  simp only [Value.slice.injEq] at e
  obtain ⟨rfl, _, _⟩ := e
  exact hp

/-- The plan of the region. -/
@[reducible] def p8 (wA wB : World) (l : List (Nat × Nat)) (m c cap : Nat) (k : Nat) (A : Nat → BitVec 64) : Pl where
  T := [52, 9]
  S := [4, 9, 10]
  U := fun i => match i with | 5 => [4] | 10 => [9] | _ => []
  E := [10]
  C := fun w => Cls wA w ∧ wB.heap.size ≤ w.heap.size ∧ w.ownsRow wA.heap.size 74 2 (.slice (some ⟨c, 0, none⟩) m cap) m (vpr l)
  X := fun i β w => match i with
    | 4 => ∃ ad cap, β 52 = .slice ad (m + m) cap ∧ PrG w w.heap.size ad (ipr (l ++ l))
    | 9 => ∃ b, β 9 = .pointer (some ⟨b, 0, none⟩) ∧ wB.heap.size ≤ b ∧ RelAt w b 0 fun _ => 0#64
    | 10 => ∃ b, β 9 = .pointer (some ⟨b, 0, none⟩) ∧ wB.heap.size ≤ b ∧ RelAt w b k A
    | _ => True
theorem p8_C (wA wB : World) (l : List (Nat × Nat)) (m c cap k : Nat) (A : Nat → BitVec 64) : ∀ w w', (p8 wA wB l m c cap k A).C w → Below w.heap.size w w' → (p8 wA wB l m c cap k A).C w' :=
  fun _ _ h hb => ⟨Below.chain h.1 hb, Nat.le_trans h.2.1 hb.size, owns_below h.2.2 hb⟩
theorem p8_X (wA wB : World) (l : List (Nat × Nat)) (m c cap k : Nat) (A : Nat → BitVec 64) : ∀ i β w w', (p8 wA wB l m c cap k A).X i β w → Below w.heap.size w w' → (p8 wA wB l m c cap k A).X i β w' := by
  intro i β w w' h hb
  match i with
  | 4 => obtain ⟨ad, cap, h1, h2⟩ := h; exact ⟨ad, cap, h1, (h2.below hb).mono hb.size⟩
  | 9 => obtain ⟨b, h1, h2, h3⟩ := h; exact ⟨b, h1, h2, h3.over hb⟩
  | 10 => obtain ⟨b, h1, h2, h3⟩ := h; exact ⟨b, h1, h2, h3.over hb⟩
  | 0 | 1 | 2 | 3 | 5 | 6 | 7 | 8 => trivial
  | n + 11 => trivial
/-- The append of the list onto itself. -/
theorem p8_app {wA wB wc : World} {l : List (Nat × Nat)} {m c cap k : Nat} {A : Nat → BitVec 64} (ty : TypeId) (hC : (p8 wA wB l m c cap k A).C wc) (hl : l.length = m) (hm : m ≤ 3072) :
    ∃ v' w', (Builtin.append_ #[72, 72] ty #[.slice (some ⟨c, 0, none⟩) m cap, .slice (some ⟨c, 0, none⟩) m cap]).run Tryd.prog wc = .ok v' w' ∧ (∃ ad cap, v' = .slice ad (m + m) cap ∧ PrG w' w'.heap.size ad (ipr (l ++ l))) ∧ (p8 wA wB l m c cap k A).C w' ∧ (∀ b, b < wc.heap.size → b ≠ c → w'.heap[b]? = wc.heap[b]?) := by
  obtain ⟨h1, h2, h3⟩ := hC
  obtain ⟨i0, hi, hz0, hz1, hz2⟩ := info_parts info74
  have hp := (pr_own h3).part 0 m
  rw [List.drop_zero, List.take_of_length_le (by omega), Nat.zero_mul] at hp
  obtain ⟨v', w', r1, r2, r3, r4⟩ := run_append_own3 wc wA.heap.size 72 ty 74 i0 _ 2 16 Tryd.underlying72 hi hz0 hz1 hz2 rfl (by decide) _ m _ h3 ⟨c, 0, none⟩ m cap (vpr l)
    (by rw [vpr_length, hl]) hp (vpr_one _) (by unfold maxLen; omega) (by omega) h1.size
  rw [← vpr_append] at r2
  obtain ⟨ad, cap', e, hpr⟩ := PrAt.of_owns r2
  exact ⟨v', w', r1, ⟨ad, cap', e, PrG.of hpr⟩, ⟨h1.grown r3 h1.size fun k hk => (owned_block h3 hk).1, Nat.le_trans h2 r3.size, r4⟩,
    fun b hb hne => r3.block b hb fun e => hne (by simp only [Value.ownBlock, Option.some.injEq] at e; exact e)⟩
theorem run_alloc_rel {o : Oper} {a : Act} (w : World) (ho : o.op = .alloc 53) : (execOp a.eval o).run Tryd.prog w = .ok (.value (.pointer (some ⟨w.heap.size, 0, none⟩))) (w.alloc (.cells (rcs 0 fun _ => 0#64) 53)) := by
  unfold execOp
  simp only [ho, Instr.alloc, newVar, Sem.run_bind, Sem.run_pure, Result.andThen_ok, run_zero_rel, Value.cells]
  rfl
theorem run_store_rel {o : Oper} {a : Act} {w : World} {b : Nat} {n m : Int} {f g : Nat → BitVec 64} (x y : Operand) (pv : Value) (ho : o.op = .store 53 x y) (hx' : a.eval x = pv) (he : pv = .pointer (some ⟨b, 0, none⟩)) (hy : a.eval y = .agg (rcs n f)) (hR : RelAt w b m g) :
    (execOp a.eval o).run Tryd.prog w = .ok .skip (w.setRow b (rcs n f)) := by
  have hx := hx'.trans he
  unfold execOp
  simp only [ho, hx, hy, Instr.storeAt, Instr.sureAddr, Sem.run_bind, Sem.run_pure, Result.andThen_ok, run_storeVar_row (P := Tryd.prog) w b 53 53 (rcs m g) (rcs n f) hR.heap (by rw [rcs_size]; kernel_rfl) (by rw [rcs_size, rcs_size]) (rcs_one n f)]
theorem p8_store {wA wB wc : World} {l : List (Nat × Nat)} {m c cap k : Nat} {A : Nat → BitVec 64} {a : Act} {o : Oper} {ops : Array Oper} {β : Tmp → Value} (hB : Below wA.heap.size wA wB) (hc : c < wB.heap.size) (hC : (p8 wA wB l m c cap k A).C wc) (hg : (p8 wA wB l m c cap k A).X 9 β wc)
    (ho : o.op = .store 53 (.tmp 9) (.tmp 54)) (hx : a.eval (.tmp 9) = β 9) (hy : a.eval (.tmp 54) = .agg (rcs k A))
    (h4 : stay (p8 wA wB l m c cap k A).E (p8 wA wB l m c cap k A).U .any ops 10 4 = false) (h9 : stay (p8 wA wB l m c cap k A).E (p8 wA wB l m c cap k A).U .any ops 10 9 = false) :
    sUpon (p8 wA wB l m c cap k A) Tryd.prog .any ops 10 none β wc ((execOp a.eval o).run Tryd.prog wc) := by
  obtain ⟨b, e1, e2, e3⟩ := hg
  rw [run_store_rel (b := b) (n := k) (f := A) (.tmp 9) (.tmp 54) (β 9) ho hx e1 hy e3]
  refine ⟨⟨b, e1, e2, ⟨setRow_heap wc b _ _ _ _ e3.heap⟩⟩, ⟨Below.setRow' hC.1 (Nat.le_trans hB.size e2), by simpa [World.setRow] using hC.2.1, owns_heap2 hC.2.2 (setRow_other wc b c _ (by omega))⟩, fun j hj hne hst _ => ?_⟩
  simp only [List.mem_cons, List.not_mem_nil, or_false] at hj
  rcases hj with rfl | rfl | rfl
  · rw [h4] at hst; cases hst
  · rw [h9] at hst; cases hst
  · exact absurd rfl hne
end Go.Proofs.YtgegmoedgegkcaaDoor
