/-
  core.Value's callers: args; loads of a part of a block; the copy of a buffer.
-/
import Derived.Test.YtckcdpmfmfpmmaaFresh
namespace Go.Proofs.Ytckcdpmfmfpmmaa
open Go.RowKit

/-- A struct or an array that is a part of a block. -/
theorem run_load_part {P : Program} (w : World) (b o : Nat) (cs part : Array Value) (t ty : TypeId) (fr : Nat × Nat) (d : TypeDesc) (hg : w.heap[b]? = some (.cells cs t fr))
    (hu : P.underlying ty = some d) (hd : (match d with | .struct _ | .array _ _ => true | _ => false) = true) (hi : (P.info? ty).map (·.size) = some part.size) (hp : ∀ j v, part[j]? = some v → cs[o + j]? = some v) :
    (loadVar ty ⟨b, o, none⟩).run P w = .ok (.agg part) w := by
  have hl : (loadCells ⟨b, o, none⟩ part.toList.length).run P w = .ok part.toList.toArray w :=
    run_loadCells_list (P := P) w ⟨b, o, none⟩ part.toList (fun j v hv => by
      rw [Addr.add_lit, cell_of_row w b _ cs t fr hg]
      exact hp j v (by simpa using hv))
  cases hq : P.info? ty with
  | none => simp [hq] at hi
  | some i =>
    have hs : i.size = part.size := by simpa [hq] using hi
    have hagg : (isAgg ty).run P w = .ok true w := by
      unfold isAgg
      rw [Sem.run_bind, run_underlying hu w]
      cases d <;> simp_all
    simp only [Array.length_toList, Array.toArray_toList] at hl
    simp [loadVar, Sem.run_bind, hagg, sizeOf, typeInfo, hq, hs, hl]
theorem wp_load_part {P : Program} {o : Oper} {a : Act} {w : World} {K : Act → World → Prop} {Q : Exit → Act → World → Prop} {b off : Nat} {part : Array Value} (ty : TypeId) (x : Operand) (ho : o.op = .load ty x) (hx : a.eval x = .pointer (some ⟨b, off, none⟩))
    (hl : (loadVar ty ⟨b, off, none⟩).run P w = .ok (.agg part) w) (h : K (a.put o.dst (.agg part)) w) : o.wp P a w K Q := by
  unfold Oper.wp execOp
  simp only [ho, hx, Instr.loadAt, Instr.sureAddr, Sem.run_bind, Sem.run_pure, Result.andThen_ok, hl]
  exact h
theorem wpList_load_part {P : Program} {ops : Array Oper} {rest : List Oper} {o : Oper} {a : Act} {w : World} {Q : Exit → Act → World → Prop} {b off : Nat} {part : Array Value} (ty : TypeId) (x : Operand) (ho : o.op = .load ty x) (hx : a.eval x = .pointer (some ⟨b, off, none⟩))
    (hgd : Region.wanted o (yielded ops a.tmps) = true) (hl : (loadVar ty ⟨b, off, none⟩).run P w = .ok (.agg part) w) (h : wpList P ops Q rest (a.put o.dst (.agg part)) w) : wpList P ops Q (o :: rest) a w :=
  wpList_step fun K hK => by
    rw [if_pos hgd]
    exact wp_load_part ty x ho hx hl (hK _ _ h)
theorem cb_load_part {P : Program} {ops : Array Oper} {w0 : World} {o : Oper} {a : Act} {K : Act → Prop} {b off : Nat} {part : Array Value} (ty : TypeId) (x : Operand) (ho : o.op = .load ty x) (hx : a.eval x = .pointer (some ⟨b, off, none⟩))
    (hgd : Region.wanted o (yielded ops a.tmps) = true) (hl : ∀ w, Cls w0 w → (loadVar ty ⟨b, off, none⟩).run P w = .ok (.agg part) w) (h : K (a.put o.dst (.agg part))) :
    if Region.wanted o (yielded ops a.tmps) = true then CalmB P o a w0 K else K (a.put o.dst undef) := by
  rw [if_pos hgd]
  refine CalmB.of ⟨.agg part, fun w hC => ?_, h⟩
  unfold Oper.quietAt execOp
  simp only [ho, hx, Instr.loadAt, Instr.sureAddr, Sem.run_bind, Sem.run_pure, Result.andThen_ok, hl w hC, Oper.quietUpon, and_self]
theorem size27 : (Try.prog.info? 27).map (·.size) = some 12 := by kernel_rfl
theorem WkAt.load {w : World} {b : Nat} {k : Wk} (h : WkAt w b k) : (loadVar 27 ⟨b, 0, none⟩).run Try.prog w = .ok (.agg k.c.cells) w :=
  run_load_part w b 0 _ k.c.cells 71 27 (0, 0) _ h.heap Try.underlying27 rfl size27 (fun j v hv => by
    have hj : j < 12 := (Array.getElem?_eq_some_iff.1 hv).1
    rw [Nat.zero_add]
    have : j = 0 ∨ j = 1 ∨ j = 2 ∨ j = 3 ∨ j = 4 ∨ j = 5 ∨ j = 6 ∨ j = 7 ∨ j = 8 ∨ j = 9 ∨ j = 10 ∨ j = 11 := by omega
    rcases this with rfl | rfl | rfl | rfl | rfl | rfl | rfl | rfl | rfl | rfl | rfl | rfl <;> exact hv)
theorem CrAt.load {w : World} {b : Nat} {c : Cr} (h : CrAt w b c) : (loadVar 27 ⟨b, 0, none⟩).run Try.prog w = .ok (.agg c.cells) w :=
  run_load_part w b 0 _ c.cells 27 27 (0, 0) _ h.heap Try.underlying27 rfl size27 (fun j v hv => by rw [Nat.zero_add]; exact hv)
theorem WkAt.argA {w : World} {b : Nat} {k : Wk} (h : WkAt w b k) : (loadVar 23 ⟨b, 16, none⟩).run Try.prog w = .ok (.agg #[.bool k.x.ar, .int .u8 k.x.an]) w :=
  run_load_part w b 16 _ _ 71 23 (0, 0) _ h.heap Try.underlying23 rfl (by kernel_rfl) (fun j v hv => by
    match j with
    | 0 => exact hv
    | 1 => exact hv
    | j + 2 => simp at hv)
theorem WkAt.argB {w : World} {b : Nat} {k : Wk} (h : WkAt w b k) : (loadVar 23 ⟨b, 18, none⟩).run Try.prog w = .ok (.agg #[.bool k.x.br, .int .u8 k.x.bn]) w :=
  run_load_part w b 18 _ _ 71 23 (0, 0) _ h.heap Try.underlying23 rfl (by kernel_rfl) (fun j v hv => by
    match j with
    | 0 => exact hv
    | 1 => exact hv
    | j + 2 => simp at hv)
theorem ci_Value (c : Cr) (reg : Bool) (n : Int) (hn : 0 ≤ n) (w : World) : Calls Try.prog 12 #[.agg c.cells, .agg #[.bool reg, .int .u8 n]] w fun e w' => e = .returned (.int .u8 (argV c reg n)) ∧ Below w.heap.size w w' := by
  obtain ⟨m, rfl⟩ : ∃ m : Nat, n = m := ⟨n.toNat, (Int.toNat_of_nonneg hn).symm⟩
  exact c_Value c reg m w
set_option maxRecDepth 4000 in
theorem c_args (b : Nat) (k : Wk) (ha : 0 ≤ k.x.an) (hb : 0 ≤ k.x.bn) (w : World) (h : WkAt w b k) :
    Calls Try.prog 37 #[.pointer (some ⟨b, 0, none⟩)] w fun e w' => e = .returned (.tuple #[.int .u8 (argV k.c k.x.ar k.x.an), .int .u8 (argV k.c k.x.br k.x.bn)]) ∧ Below w.heap.size w w' := by
  have H := Lib.hid h
  clear h
  go_enter Try.func37, Try.ntmps37
  go_wp2
  (refine wp_region_only (by kernel_rfl) (by kernel_rfl) ?_; refine WpV.out ?_; (repeat (first | ((refine t_step (fun K hK => ?_)); (first | (refine cb_load_part 27 _ rfl rfl (by rfl) (fun w hC => (H.out.over hC).load) ?_) | (refine cb_load_part 23 _ rfl rfl (by rfl) (fun w hC => (H.out.over hC).argA) ?_) | (refine cb_load_part 23 _ rfl rfl (by rfl) (fun w hC => (H.out.over hC).argB) ?_)); refine hK _ ?_; clear hK K) | ((refine t_step (fun K hK => ?_)); go_simp; (first | (refine hK _ ?_; clear hK K) | (refine CalmB.of ?_; apply Exists.intro; refine ⟨fun wcalm hcalm => ?_, hK _ ?_⟩; (focus ((skip); go_simp; first | done | (first | (go_at_call 12; with_reducible exact ci_Value k.c k.x.ar k.x.an ha _) | (go_at_call 12; with_reducible exact ci_Value k.c k.x.br k.x.bn hb _)) | rfl)); clear hK K))))); refine v_nil ?_; intro wq hq)
  go_wp2
  go_ret2
  exact ⟨rfl, hq⟩
end Go.Proofs.Ytckcdpmfmfpmmaa
