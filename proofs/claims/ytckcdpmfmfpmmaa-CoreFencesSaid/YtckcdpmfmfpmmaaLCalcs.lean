/-
  seisinlaw30.CoreCalcs returns true for every three bytes, every argument and every eight registers.
-/
import Derived.Test.YtckcdpmfmfpmmaaAw
namespace Go.Proofs.Ytckcdpmfmfpmmaa
open Go.RowKit

/-- Eight registers. -/
def rg8 (r : Nat → Int) : Array Value := #[.int .u8 (r 0), .int .u8 (r 1), .int .u8 (r 2), .int .u8 (r 3), .int .u8 (r 4), .int .u8 (r 5), .int .u8 (r 6), .int .u8 (r 7)]
def crR (r : Nat → Int) : Cr := ⟨0, r, .slice none 0 0, false, false⟩
theorem built27 (r : Nat → Int) : Try.prog.built 27 [(1, .agg (rg8 r))] = some (crR r).cells := by kernel_rfl
theorem wpList_build27 {ops : Array Oper} {rest : List Oper} {o : Oper} {a : Act} {w : World} {Q : Exit → Act → World → Prop} {r : Nat → Int} (hgd : o.guard = none) (x : Operand) (ho : o.op = .build 27 #[(1, x)]) (hx : a.eval x = .agg (rg8 r))
    (h : wpList Try.prog ops Q rest (a.put o.dst (.agg (crR r).cells)) w) : wpList Try.prog ops Q (o :: rest) a w := by
  have hb : Try.prog.built 27 ((#[(1, x)] : Array (Nat × Operand)).map fun (i, x) => (i, a.eval x)).toList = some (crR r).cells := by
    simp only [List.map_toArray, List.map_cons, List.map_nil, hx]
    exact built27 r
  refine wpList_build hgd 27 #[(1, x)] ho (by rw [hb]; rfl) ?_
  rw [hb]
  exact h
theorem load24 {w : World} {b : Nat} {r : Nat → Int} (h : BlkAt w b (rg8 r) 24) : (loadVar 24 ⟨b, 0, none⟩).run Try.prog w = .ok (.agg (rg8 r)) w :=
  run_load_part w b 0 _ _ 24 24 (0, 0) _ h.heap Try.underlying24 rfl (by show _ = some 8; kernel_rfl) (fun j v hv => by rw [Nat.zero_add]; exact hv)
theorem load23 {w : World} {b : Nat} {reg : Bool} {n : Int} (h : BlkAt w b #[.bool reg, .int .u8 n] 23) : (loadVar 23 ⟨b, 0, none⟩).run Try.prog w = .ok (.agg #[.bool reg, .int .u8 n]) w :=
  run_load_part w b 0 _ _ 23 23 (0, 0) _ h.heap Try.underlying23 rfl (by show _ = some 2; kernel_rfl) (fun j v hv => by rw [Nat.zero_add]; exact hv)
theorem ri_Value (c : Cr) (reg : Bool) (n : Int) (hn : 0 ≤ n) (w : World) : Calls Try.prog 13 #[.agg c.cells, .agg #[.bool reg, .int .u8 n]] w fun e w' => e = .returned (.int .u8 (argV c reg n)) ∧ Below w.heap.size w w' := by
  obtain ⟨m, rfl⟩ : ∃ m : Nat, n = m := ⟨n.toNat, (Int.toNat_of_nonneg hn).symm⟩
  exact c_refValue c reg m w

theorem calm_s {P : Program} {w : World} {f : FuncId} {args : Array Value} {v : Value} (h : Calls P f args w fun e w' => e = .returned v ∧ w = w') : Calls P f args w fun e w' => e = .returned v ∧ Below w.heap.size w w' :=
  h.mono fun _ _ ⟨he, hb⟩ => ⟨he, hb ▸ Below.refl _ _⟩
set_option maxRecDepth 8000 in
set_option maxHeartbeats 4000000 in
theorem w_CoreCalcs (fn x y n : Int) (reg : Bool) (r : Nat → Int) (w : World) (hx : 0 ≤ x ∧ x ≤ 255) (hy : 0 ≤ y ∧ y ≤ 255) (hn : 0 ≤ n) :
    Calls Try.prog 3 #[.int .u8 fn, .int .u8 x, .int .u8 y, .agg #[.bool reg, .int .u8 n], .agg (rg8 r)] w fun e w' => e = .returned (.bool true) ∧ Below w.heap.size w w' := by
  have hb2 := ((Below.refl w.heap.size w).alloc (Nat.le_refl _) (.cells #[.bool reg, .int .u8 n] 23)).alloc (by simp) (.cells (rg8 r) 24)
  have HB := Lib.hid hb2
  have H8 := Lib.hid ((BlkAt.new w #[.bool reg, .int .u8 n] 23).over ((Below.refl _ _).alloc (Nat.le_refl _) (.cells (rg8 r) 24)))
  have H9 := Lib.hid (show BlkAt ((w.alloc (.cells #[.bool reg, .int .u8 n] 23)).alloc (.cells (rg8 r) 24)) (w.heap.size + 1) (rg8 r) 24 by
    have := BlkAt.new (w.alloc (.cells #[.bool reg, .int .u8 n] 23)) (rg8 r) 24
    rwa [World.size_alloc] at this)
  clear hb2
  go_enter Try.func3, Try.ntmps3
  go_upto_region 1 with (fail)
  generalize (w.alloc (.cells #[.bool reg, .int .u8 n] 23)).alloc (.cells (rg8 r) 24) = wb at *
  generalize w.heap.size + 1 = b9 at *
  obtain ⟨b8, hb8⟩ : ∃ b, w.heap.size = b := ⟨_, rfl⟩
  rw [hb8] at H8 ⊢
  clear hb8
  go_upto_region 2 with (first
    | (refine wpList_load_part 24 _ rfl rfl (by rfl) (load24 H9.out) ?_)
    | (refine wpList_build27 rfl _ rfl rfl ?_)
    | (refine wpList_store_new rfl _ _ rfl rfl rfl size27 rfl (core_one rfl) ?_))
  have hbn := (Below.refl wb.heap.size wb).alloc (Nat.le_refl _) (.cells (crR r).cells 27)
  have HB1 := Lib.hid (Below.chain HB.out hbn)
  have H81 := Lib.hid (H8.out.over hbn)
  have HC := Lib.hid (CrAt.new wb (crR r))
  clear HB H8 H9 hbn
  generalize wb.alloc (.cells (crR r).cells 27) = w1 at *
  generalize wb.heap.size = b11 at *
  go_wp2
  go_loop [12] (fun i => ∃ k : Nat, k ≤ 8 ∧ i = .int .u8 k) (fun i => 8 - (intOf i).toNat)
  case atStart => exact ⟨0, by omega, rfl⟩
  case round =>
    obtain ⟨k, hk, rfl⟩ := hrel
    by_cases hlt : k < 8
    · go_wp2_with (first
        | (go_at_call 8; (with_reducible refine (c_Calc _ _ _ hx hy _).mono ?_); rintro e w' ⟨rfl, rfl⟩)
        | (go_at_call 9; (with_reducible refine (c_refCalc _ _ _ hx hy _).mono ?_); rintro e w' ⟨rfl, rfl⟩)
        | (go_at_call 10; (with_reducible refine (c_Test _ _ _ _).mono ?_); rintro e w' ⟨rfl, rfl⟩)
        | (go_at_call 11; (with_reducible refine (c_refTest _ _ _ _).mono ?_); rintro e w' ⟨rfl, rfl⟩))
      go_round
      case rel => exact ⟨k + 1, by omega, by go_num⟩
      case measure => simp [intOf]; omega
    · obtain rfl : k = 8 := by omega
      go_upto_region 7 with (fail)
      (refine wp_region_only (by kernel_rfl) (by kernel_rfl) ?_; refine WpV.out ?_; (repeat (first | ((refine t_step (fun K hK => ?_)); (first | (refine cb_load_part 27 _ rfl rfl (by rfl) (fun w hC => (HC.out.over hC).load) ?_) | (refine cb_load_part 23 _ rfl rfl (by rfl) (fun w hC => load23 (H81.out.over hC)) ?_)); refine hK _ ?_; clear hK K) | ((refine t_step (fun K hK => ?_)); go_simp; (first | (refine hK _ ?_; clear hK K) | (refine CalmB.of ?_; apply Exists.intro; refine ⟨fun wcalm hcalm => ?_, hK _ ?_⟩; (focus ((skip); go_simp; first | done | (first | (go_at_call 8; with_reducible exact calm_s (c_Calc _ _ _ hx hy _)) | (go_at_call 9; with_reducible exact calm_s (c_refCalc _ _ _ hx hy _)) | (go_at_call 10; with_reducible exact calm_s (c_Test _ _ _ _)) | (go_at_call 11; with_reducible exact calm_s (c_refTest _ _ _ _)) | (go_at_call 12; with_reducible exact ci_Value (crR r) reg n hn _) | (go_at_call 13; with_reducible exact ri_Value (crR r) reg n hn _) | (go_at_call 14; with_reducible exact c_awake _)) | rfl)); clear hK K))))); refine v_nil ?_; intro wq hq)
      go_wp2
      go_ret
      exact ⟨rfl, Below.chain HB1.out hq⟩
end Go.Proofs.Ytckcdpmfmfpmmaa
