/-
  seisinlaw02.RelWrong: the four walks, one for each way to spoil the relation.
-/
import Derived.Test.YtgegmoedgegkcaaDoorLRingC
import Derived.Test.YtgegmoedgegkcaaDoorPtr
namespace Go.Proofs.YtgegmoedgegkcaaDoor
open Go.RowKit

section
variable {n : Int} {f : Nat → BitVec 64} (h : right n f = false)
include h
theorem twoV_badL (m : Int) (g u : Nat → BitVec 64) : twoV n m f g u = .tuple #[.agg (rcs 0 fun _ => 0#64), .int .i64 2] := by
  unfold twoV twoOk; rw [h]; rfl
theorem twoV_badR (m : Int) (g u : Nat → BitVec 64) : twoV m n g f u = .tuple #[.agg (rcs 0 fun _ => 0#64), .int .i64 2] := by
  unfold twoV twoOk; rw [h, Bool.and_false]; rfl
theorem prs_bad : prsR n f = [] := by unfold prsR; rw [h]; rfl
theorem backN_bad : backN n f = 0 := by unfold backN; rw [h]; rfl
theorem plusR_bad : plusR n f = fun _ => 0#64 := by unfold plusR; rw [h]; rfl
theorem b_Right (w : World) : Calls Tryd.prog 83 #[.agg (rcs n f)] w fun e w' => e = .returned (.bool false) ∧ Below w.heap.size w w' := h ▸ c_Right n f w
theorem b_Union (m : Int) (g : Nat → BitVec 64) (w : World) : Calls Tryd.prog 67 #[.agg (rcs n f), .agg (rcs m g)] w fun e w' => e = .returned (.tuple #[.agg (rcs 0 fun _ => 0#64), .int .i64 2]) ∧ Below w.heap.size w w' := twoV_badL h m g _ ▸ c_Union n m f g w
theorem b_Then (m : Int) (g : Nat → BitVec 64) (w : World) (hT : Tab w) : Calls Tryd.prog 58 #[.agg (rcs m g), .agg (rcs n f)] w fun e w' => e = .returned (.tuple #[.agg (rcs 0 fun _ => 0#64), .int .i64 2]) ∧ Below w.heap.size w w' := twoV_badR h m g _ ▸ c_Then m n g f w hT
theorem b_Empty (w : World) (hT : Tab w) : Calls Tryd.prog 61 #[.agg (rcs n f)] w fun e w' => e = .returned (.bool false) ∧ Below w.heap.size w w' := by
  have := c_Empty n f w hT
  rw [show emptyR n f = false by unfold emptyR; rw [h]; rfl] at this; exact this
theorem b_Irr (w : World) (hT : Tab w) : Calls Tryd.prog 54 #[.agg (rcs n f)] w fun e w' => e = .returned (.bool false) ∧ Below w.heap.size w w' := by
  have := c_Irr n f w hT
  rw [show irrR n f = false by unfold irrR; rw [h]; rfl] at this; exact this
theorem top_bad : topR n f = none := by unfold topR; rw [h]; rfl
theorem b_Acy (w : World) (hT : Tab w) : Calls Tryd.prog 55 #[.agg (rcs n f)] w fun e w' => e = .returned (.bool false) ∧ Below w.heap.size w w' := by
  have := c_Acyclic n f w hT
  rw [top_bad h] at this; exact this
theorem b_Top (w : World) (hT : Tab w) : Calls Tryd.prog 49 #[.agg (rcs n f)] w fun e w' => (∃ ad cap, e = .returned (.tuple #[.slice ad 0 cap, .bool false])) ∧ Below w.heap.size w w' := by
  have := c_Top n f w hT
  rw [top_bad h] at this
  refine this.mono fun e w' ⟨v, he, ho, hb⟩ => ?_
  obtain ⟨ad, cap, rfl, hs⟩ := SlAt.of_owns ho
  exact ⟨⟨ad, cap, he⟩, hb⟩
theorem b_Pairs (w : World) (hT : Tab w) : Calls Tryd.prog 56 #[.agg (rcs n f)] w fun e w' => (∃ u, e = .returned u ∧ ∃ ad cap, u = .slice ad 0 cap) ∧ Below w.heap.size w w' :=
  (c_Pairs2 n f 0 (by rw [prs_bad h]; rfl) w hT).mono fun e w' ⟨ad, cap, he, _, hb⟩ => ⟨⟨_, he, ad, cap, rfl⟩, hb⟩
theorem b_Ring (w : World) (hT : Tab w) : Calls Tryd.prog 53 #[.agg (rcs n f)] w fun e w' => (∃ u, e = .returned u ∧ ∃ ad cap, u = .slice ad 0 cap) ∧ Below w.heap.size w w' := by
  have := c_Ring n f w hT
  rw [show ringL n f = [] by unfold ringL; rw [h]; rfl] at this
  refine this.mono fun e w' ⟨v, he, ho, hb⟩ => ?_
  obtain ⟨ad, cap, rfl, hs⟩ := SlAt.of_owns ho
  exact ⟨⟨_, he, ad, cap, rfl⟩, hb⟩
theorem b_Plus (w : World) (hT : Tab w) : Calls Tryd.prog 46 #[.agg (rcs n f)] w fun e w' => e = .returned (.agg (rcs 0 fun _ => 0#64)) ∧ Below w.heap.size w w' := by
  have := c_PlusR n f w hT
  rw [backN_bad h, plusR_bad h] at this; exact this
theorem b_Star (w : World) (hT : Tab w) : Calls Tryd.prog 84 #[.agg (rcs n f)] w fun e w' => e = .returned (.agg (rcs 0 fun _ => 0#64)) ∧ Below w.heap.size w w' := by
  have := c_Star n f w hT
  rw [backN_bad h, plusR_bad h, show wself (fun _ => 0#64) (0 : Int).toNat = fun _ => 0#64 from rfl] at this; exact this
theorem b_Back (w : World) (hT : Tab w) : Calls Tryd.prog 68 #[.agg (rcs n f)] w fun e w' => e = .returned (.agg (rcs 0 fun _ => 0#64)) ∧ Below w.heap.size w w' := by
  have := c_Back n f w hT
  rw [backN_bad h, prs_bad h] at this; exact this
theorem b_From (w : World) (hT : Tab w) : Calls Tryd.prog 72 #[.agg (rcs n f)] w fun e w' => e = .returned (.int .u64 (iv 0#64)) ∧ Below w.heap.size w w' := by
  have := c_From n f w hT
  rw [prs_bad h] at this; exact this
theorem b_Into (w : World) (hT : Tab w) : Calls Tryd.prog 73 #[.agg (rcs n f)] w fun e w' => e = .returned (.int .u64 (iv 0#64)) ∧ Below w.heap.size w w' := by
  have := c_Into n f w hT
  rw [backN_bad h, prs_bad h, show prsR 0 (bk []) = [] by unfold prsR; split <;> rfl] at this; exact this
theorem b_Has (a c : Int) (w : World) : Calls Tryd.prog 47 #[.agg (rcs n f), .int .i64 a, .int .i64 c] w fun e w' => e = .returned (.bool false) ∧ Below w.heap.size w w' := by
  have := c_Has n f a c w
  rw [show hasR n f a c = false by unfold hasR; rw [h]; rfl] at this; exact this
end
section
variable {ops : Array Oper} {w0 : World} {o : Oper} {a : Act} {K : Act → Prop}
theorem cb_build0 (ho : o.op = .build 53 #[]) (hgd : Region.wanted o (yielded ops a.tmps) = true) (h : K (a.put o.dst (.agg (rcs 0 fun _ => 0#64)))) :
    if Region.wanted o (yielded ops a.tmps) = true then CalmB Tryd.prog o a w0 K else K (a.put o.dst undef) := by
  rw [if_pos hgd]
  refine CalmB.of ⟨_, fun w hC => ?_, h⟩
  have hb : Tryd.prog.built 53 ((#[] : Array (Nat × Operand)).map fun (i, x) => (i, a.eval x)).toList = some (rcs 0 fun _ => 0#64) := by
    simp only [Array.map_empty]
    exact built_rel0
  unfold Oper.quietAt execOp
  simp only [ho, Sem.run_bind, run_build w 53 _ _ hb, Result.andThen_ok, Sem.run_pure, Oper.quietUpon, and_self]
end
section
variable {ops : Array Oper} {rest : List Oper} {o : Oper} {a : Act} {w0 w : World} {Q : Exit → Act → World → Prop} {L : List RlE} {K : List (Nat × Obj)}
theorem wpList_storeRK {b k : Nat} {m : Int} {g : Nat → BitVec 64} (i : Nat) (s : BitVec 64) (hkk : k < 48) (hS : Sk w0 w L K) (x y : Operand) (ho : o.op = .store 23 x y) (hx : a.eval x = .pointer (some ⟨b, 1 + k, none⟩)) (hi : L[i]? = some ⟨b, m, g⟩) (hy : a.eval y = .int .u64 (iv s))
    (hgd : Region.wanted o (yielded ops a.tmps) = true) (h : ∀ w', Sk w0 w' (L.set i ⟨b, m, upd g k s⟩) K → wpList Tryd.prog ops Q rest (a.put o.dst undef) w') : wpList Tryd.prog ops Q (o :: rest) a w :=
  wpList_step fun K' hK => by
    rw [if_pos hgd]
    have hR := hS.st.get hi
    have hc := hR.row hkk
    have hf := hR.unfrozen (1 + k)
    have hs : (sizeOf 23).run Tryd.prog w = .ok 1 w := by
      have hs : (Tryd.prog.info? 23).map (·.size) = some 1 := by kernel_rfl
      cases hq : Tryd.prog.info? 23 with
      | none => simp [hq] at hs
      | some i =>
        have hs : i.size = 1 := by simpa [hq] using hs
        simp [sizeOf, typeInfo, hq, hs]
    have hk := hK _ _ (h _ (hS.putRow hkk s hi))
    unfold Oper.wp execOp
    simp only [ho, hx, hy, Instr.storeAt, Instr.sureAddr, Sem.run_bind, Sem.run_pure, Result.andThen_ok, storeVar, Value.cells, hs]
    simp only [storeCells, Addr.add_lit, Nat.add_zero, List.size_toArray, List.length_cons, List.length_nil, Nat.zero_add, ne_eq, not_true, if_false, Sem.run_bind, Sem.run_pure]
    rw [run_store _ _ _ _ _ rfl]
    simp only [hc, hf, Bool.false_eq_true, if_false]
    exact hk
end
/-- A slice without elements. -/
def ZSl (u : Value) (_ : World) : Prop := ∃ ad cap, u = .slice ad 0 cap
theorem zsl_stays : Stays ZSl := fun _ _ _ h _ => h
end Go.Proofs.YtgegmoedgegkcaaDoor
