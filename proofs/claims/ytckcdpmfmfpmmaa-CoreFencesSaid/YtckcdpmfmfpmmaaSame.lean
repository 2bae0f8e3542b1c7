/-
  seisinkit.SameStores and SameCore, at the same stores and cores.
-/
import Derived.Test.YtckcdpmfmfpmmaaLCalcs
import Derived.Laws.StructEq
namespace Go.Proofs.Ytckcdpmfmfpmmaa
open Go.RowKit

theorem StAt.get {w : World} {N : Nat} {ad : Option Addr} {l : List (Nat × Nat)} (h : StAt w N ad l) {j : Nat} (hj : j < l.length) : ∃ c off, ad = some ⟨c, off, none⟩ ∧ c < N ∧ w.cell? ⟨c, off + j * 2, none⟩ = some (.int .u8 (l[j].1 : Int)) ∧ w.cell? ⟨c, off + j * 2 + 1, none⟩ = some (.int .u8 (l[j].2 : Int)) := h j _ (List.getElem?_eq_getElem hj)
set_option maxRecDepth 8000 in
set_option maxHeartbeats 1000000 in
theorem c_SameStores (l : List (Nat × Nat)) (n : Nat) (hn : l.length = n) (hm : n ≤ maxLen) (ad bd : Option Addr) (c1 c2 : Nat) (w : World) (h1 : StAt w w.heap.size ad l) (h2 : StAt w w.heap.size bd l) :
    Calls Try.prog 18 #[.slice ad n c1, .slice bd n c2] w fun e w' => e = .returned (.bool true) ∧ Below w.heap.size w w' := by
  have H1 := Lib.hid h1
  have H2 := Lib.hid h2
  have HN := Lib.hid hn
  unfold maxLen at hm
  clear h1 h2 hn
  go_enter Try.func18, Try.ntmps18
  go_wp2
  go_loopw [5] (fun i wr => ∃ j : Nat, j ≤ n ∧ i = .int .i64 j ∧ Below w.heap.size w wr) (fun i _ => n - (intOf i).toNat)
  case atStart => exact ⟨0, by omega, rfl, Below.refl _ _⟩
  case round =>
    obtain ⟨j, hj, rfl, hb⟩ := hrel
    have HB := Lib.hid hb
    clear hb
    by_cases hlt : j < n
    · have hjl : j < l.length := by have := HN.out; omega
      obtain ⟨b, off, rfl, hbl, a1, a2⟩ := (H1.out.below HB.out).get hjl
      obtain ⟨d, off2, rfl, hdl, a3, a4⟩ := (H2.out.below HB.out).get hjl
      obtain ⟨x, hx⟩ : ∃ x, x = l[j].1 := ⟨_, rfl⟩
      obtain ⟨y, hy⟩ : ∃ y, y = l[j].2 := ⟨_, rfl⟩
      rw [← hx] at a1 a3
      rw [← hy] at a2 a4
      clear hx hy
      have hji : (j : Int) < (n : Int) := by omega
      go_wp2
      go_quiet (fail)
      have HQ := Lib.hid (below_drewN' HB.out nq)
      go_wp2
      refine ⟨⟨j + 1, by omega, by go_num, HQ.out⟩, by simp [intOf]; omega⟩
    · go_wp2
      go_ret
      exact ⟨rfl, HB.out⟩

theorem CrAt.regs {w : World} {b : Nat} {c : Cr} (h : CrAt w b c) : (loadVar 24 ⟨b, 1, none⟩).run Try.prog w = .ok (.agg (rg8 c.r)) w :=
  run_load_part w b 1 _ _ 27 24 (0, 0) _ h.heap Try.underlying24 rfl (by show _ = some 8; kernel_rfl) (fun j v hv => by
    have hj : j < 8 := (Array.getElem?_eq_some_iff.1 hv).1
    have : j = 0 ∨ j = 1 ∨ j = 2 ∨ j = 3 ∨ j = 4 ∨ j = 5 ∨ j = 6 ∨ j = 7 := by omega
    rcases this with rfl | rfl | rfl | rfl | rfl | rfl | rfl | rfl <;> exact hv)
/-- Small numbers in a row. -/
def u8s (n : Nat) (r : Nat → Int) : Array Value := ((List.range n).map fun i => Value.int .u8 (r i)).toArray
theorem u8s_get {n i : Nat} (r : Nat → Int) (h : i < n) : (u8s n r)[i]? = some (.int .u8 (r i)) := by unfold u8s; simp [h]
theorem run_part5 {n i : Nat} (r : Nat → Int) (hi : i < n) (w : World) : (part 5 (u8s n r) i).run Try.prog w = .ok (.int .u8 (r i)) w := by
  simp [part, isAgg, run_underlying Try.underlying5 w, u8s_get r hi]
theorem run_eq_u8s (d n : Nat) (T : TypeId) (hu : Try.prog.underlying T = some (.array n 5)) (r s : Nat → Int) (w : World) : (Op.equalIn (d + 2) T (.agg (u8s n r)) (.agg (u8s n s))).run Try.prog w = .ok ((List.range' 0 n).all fun i => r i == s i) w := by
  have hs : (sizeOf 5).run Try.prog w = .ok 1 w := by
    have hs : (Try.prog.info? 5).map (·.size) = some 1 := by kernel_rfl
    cases hq : Try.prog.info? 5 with
    | none => simp [hq] at hs
    | some i =>
      have hs : i.size = 1 := by simpa [hq] using hs
      simp [sizeOf, typeInfo, hq, hs]
  rw [show d + 2 = (d + 1) + 1 from rfl, Op.equalIn]
  simp only [Sem.run_bind, run_underlying hu, Result.andThen_ok, hs, Std.Legacy.Range.forIn_eq_forIn_range', Std.Legacy.Range.size, Nat.sub_zero, Nat.add_sub_cancel, Nat.div_one, Nat.mul_one]
  have key : ∀ l : List Nat, (∀ i ∈ l, i < n) → (Sem.run Try.prog (forIn l ((none, ()) : Option Bool × Unit) fun i _ => do
            let a ← part 5 (u8s n r) i
            let b ← part 5 (u8s n s) i
            let r ← Op.equalIn (d + 1) 5 a b
            if (!r) = true then pure (ForInStep.done (some false, ())) else pure (ForInStep.yield (none, ()))) w) =
        .ok (if l.all (fun i => r i == s i) then (none, ()) else (some false, ())) w := by
    intro l
    induction l with
    | nil => intro _; simp
    | cons x l ih =>
      intro hl
      have hx := hl x (by simp)
      simp only [List.forIn_cons, Sem.run_bind, run_part5 _ hx, Result.andThen_ok, run_equalIn_int w d 5 .u8 .u8 _ _ Try.underlying5]
      cases hb : r x == s x with
      | true =>
        simp only [Bool.not_true, Bool.false_eq_true, if_false, Sem.run_pure, Result.andThen_ok]
        rw [ih fun i hi => hl i (by simp [hi])]
        simp [List.all_cons, hb]
      | false => simp [List.all_cons, hb]
  rw [key _ (fun i hi => by simpa using (List.mem_range'_1.1 hi).2)]
  cases (List.range' 0 n).all fun i => r i == s i <;> simp
theorem run_eql_u8s (n : Nat) (T : TypeId) (hu : Try.prog.underlying T = some (.array n 5)) (r : Nat → Int) (w : World) : (binOp .eql T (.agg (u8s n r)) (.agg (u8s n r))).run Try.prog w = .ok (.bool true) w := by
  rw [run_eql_struct, run_eq_u8s 9998 n T hu]
  simp [Result.andThen]
theorem rg8_u8s (r : Nat → Int) : rg8 r = u8s 8 r := rfl
theorem run_eql_rg8 (r : Nat → Int) (w : World) : (binOp .eql 24 (.agg (rg8 r)) (.agg (rg8 r))).run Try.prog w = .ok (.bool true) w := run_eql_u8s 8 24 Try.underlying24 r w
theorem wpList_eql24 {ops : Array Oper} {rest : List Oper} {o : Oper} {a : Act} {w : World} {Q : Exit → Act → World → Prop} {r : Nat → Int} (x y : Operand) (t : TypeId) (ho : o.op = .binOp .eql 24 x y t) (hx : a.eval x = .agg (rg8 r)) (hy : a.eval y = .agg (rg8 r))
    (hgd : Region.wanted o (yielded ops a.tmps) = true) (h : wpList Try.prog ops Q rest (a.put o.dst (.bool true)) w) : wpList Try.prog ops Q (o :: rest) a w :=
  wpList_step fun K' hK => by
    rw [if_pos hgd]
    have hg : (eqGuard .eql 24 x y (.agg (rg8 r)) (.agg (rg8 r))).run Try.prog w = .ok () w := by
      have : Try.prog.eqGuardType Try.prog.depth 24 = false := by kernel_rfl
      simp [eqGuard, this]
    have hk := hK _ _ h
    unfold Oper.wp execOp
    simp only [ho, hx, hy, Sem.run_bind, Sem.run_pure, Result.andThen_ok, hg, run_eql_rg8]
    exact hk
set_option maxRecDepth 8000 in
set_option maxHeartbeats 1000000 in
theorem c_SameCore (c : Cr) (v1 v2 : Value) (bl : List (Nat × Nat)) (w : World) (hl : bl.length ≤ 1000) (h1 : BufOk w v1 bl) (h2 : BufOk w v2 bl) :
    Calls Try.prog 17 #[.agg { c with buf := v1 }.cells, .agg { c with buf := v2 }.cells] w fun e w' => e = .returned (.bool true) ∧ Below w.heap.size w w' := by
  have hb2 := ((Below.refl w.heap.size w).alloc (Nat.le_refl _) (.cells { c with buf := v1 }.cells 27)).alloc (by simp) (.cells { c with buf := v2 }.cells 27)
  have HB := Lib.hid hb2
  have HC1 := Lib.hid ((CrAt.new w { c with buf := v1 }).over ((Below.refl _ _).alloc (Nat.le_refl _) (.cells { c with buf := v2 }.cells 27)))
  have HC2 := Lib.hid (show CrAt ((w.alloc (.cells { c with buf := v1 }.cells 27)).alloc (.cells { c with buf := v2 }.cells 27)) (w.heap.size + 1) { c with buf := v2 } by
    have := CrAt.new (w.alloc (.cells { c with buf := v1 }.cells 27)) { c with buf := v2 }
    rwa [World.size_alloc] at this)
  obtain ⟨ad, cap, rfl, _, hst1⟩ := h1.over hb2
  obtain ⟨bd, cbp, rfl, _, hst2⟩ := h2.over hb2
  have HSS := Lib.hid (c_SameStores bl bl.length rfl (by unfold maxLen; omega) ad bd cap cbp _ hst1 hst2)
  clear hb2 hst1 hst2 h1 h2
  go_enter Try.func17, Try.ntmps17
  go_upto_region 1 with (fail)
  generalize (w.alloc (.cells { c with buf := .slice ad bl.length cap }.cells 27)).alloc (.cells { c with buf := .slice bd bl.length cbp }.cells 27) = wb at *
  generalize w.heap.size + 1 = b3 at *
  have q0 := HC1.out.at_ 0
  have q9 := HC1.out.at_ 9
  have q10 := HC1.out.at_ 10
  have q11 := HC1.out.at_ 11
  have r0 := HC2.out.at_ 0
  have r9 := HC2.out.at_ 9
  have r10 := HC2.out.at_ 10
  have r11 := HC2.out.at_ 11
  simp only [show ∀ v, ({ c with buf := v } : Cr).cells[0]? = some (.int .u8 c.pc) from fun _ => rfl, show ∀ v, ({ c with buf := v } : Cr).cells[9]? = some v from fun _ => rfl, show ∀ v, ({ c with buf := v } : Cr).cells[10]? = some (.bool c.wt) from fun _ => rfl, show ∀ v, ({ c with buf := v } : Cr).cells[11]? = some (.bool c.dr) from fun _ => rfl] at q0 q9 q10 q11 r0 r9 r10 r11
  go_wp2_with (first
    | (refine wpList_load_part 24 _ rfl rfl (by rfl) HC1.out.regs ?_)
    | (refine wpList_load_part 24 _ rfl rfl (by rfl) HC2.out.regs ?_)
    | (refine wpList_eql24 _ _ _ rfl rfl rfl (by rfl) ?_)
    | (go_at_call 18; (with_reducible refine HSS.out.mono ?_); rintro e w1 ⟨rfl, hb1⟩; have s10 := (hb1.cell (p := ⟨w.heap.size, 10, none⟩) HC1.out.lt).trans q10; have s11 := (hb1.cell (p := ⟨w.heap.size, 11, none⟩) HC1.out.lt).trans q11; have t10 := (hb1.cell (p := ⟨b3, 10, none⟩) HC2.out.lt).trans r10; have t11 := (hb1.cell (p := ⟨b3, 11, none⟩) HC2.out.lt).trans r11))
  go_ret
  exact ⟨rfl, Below.chain HB.out hb1⟩
end Go.Proofs.Ytckcdpmfmfpmmaa
