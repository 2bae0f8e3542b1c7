/-
  marks.Pick returns the element of that number, for every int, if the library table is laid.
-/
import Derived.Test.YtgegmoedgegkcaaDoorIter
import Derived.Laws.EntriesVeiled
namespace Go.Proofs.YtgegmoedgegkcaaDoor
open Go.RowKit Go.Shelf
attribute [local go_sem] Oper.semAt_some

/-- marks.Pick's answer. -/
def mpick (s : BitVec 64) (k : Int) : Option Nat := if k < 0 then none else (Mk.elems s)[k.toNat]?

theorem wrap_pred (k : Int) (j : Nat) : wrap64 (wrap64 (k - j) - 1) = wrap64 (k - (j + 1 : Nat)) := by
  unfold wrap64; omega
theorem wrap_zero {k : Int} {j : Nat} (h0 : -9223372036854775808 ≤ k) (h1 : k ≤ 9223372036854775807) (hj : j < 64) : wrap64 (k - j) = 0 ↔ k = j := by
  unfold wrap64; omega

set_option maxRecDepth 4000 in
theorem c_Pick (s : BitVec 64) (k : Int) (w : World) (hT : Tab w) (hk0 : -9223372036854775808 ≤ k) (hk1 : k ≤ 9223372036854775807) : Calls Tryd.prog 38 #[.int .u64 (iv s), .int .i64 k] w fun e w' =>
    e = .returned (.tuple #[.int .i64 ((mpick s k).getD 0 : Nat), .bool (mpick s k).isSome]) ∧ Below w.heap.size w w' := by
  have HT := Lib.hid hT
  have HK0 := Lib.hid hk0
  have HK1 := Lib.hid hk1
  clear hT hk0 hk1
  refine (callsIn_wide (n := 0)).1 ?_
  refine callsIn_of_wp_marks Tryd.func38 rfl trivial ?_ rfl
  simp only [Tryd.ntmps38, List.size_toArray, List.length_cons, List.length_nil, Nat.reduceAdd, Nat.reduceSub, Array.replicate_succ, Array.replicate_zero, List.push_toArray, List.append_toArray, List.nil_append, List.cons_append]
  gi_wp2_with (first | (gi_at_call 98; refine (callsIn_wide.2 (c_numbers _ _)).mono ?_; rintro e w' ⟨rfl, rfl⟩))
  have hcK : ((((w.alloc (.cells #[.int .i64 k] 3)).alloc (.cells #[.int .i64 0] 3)).alloc (.cells #[.bool false] 4)).alloc (.cells #[.int .u64 (iv s)] 23)).cell? ⟨w.heap.size, 0, none⟩ = some (.int .i64 k) := by simp [go_sem]
  have hfK : ((((w.alloc (.cells #[.int .i64 k] 3)).alloc (.cells #[.int .i64 0] 3)).alloc (.cells #[.bool false] 4)).alloc (.cells #[.int .u64 (iv s)] 23)).frozen? ⟨w.heap.size, 0, none⟩ = false := by simp [go_sem]
  have hcN : ((((w.alloc (.cells #[.int .i64 k] 3)).alloc (.cells #[.int .i64 0] 3)).alloc (.cells #[.bool false] 4)).alloc (.cells #[.int .u64 (iv s)] 23)).cell? ⟨w.heap.size + 1, 0, none⟩ = some (.int .i64 0) := by simp [go_sem]
  have hfN : ((((w.alloc (.cells #[.int .i64 k] 3)).alloc (.cells #[.int .i64 0] 3)).alloc (.cells #[.bool false] 4)).alloc (.cells #[.int .u64 (iv s)] 23)).frozen? ⟨w.heap.size + 1, 0, none⟩ = false := by simp [go_sem]
  have hcC : ((((w.alloc (.cells #[.int .i64 k] 3)).alloc (.cells #[.int .i64 0] 3)).alloc (.cells #[.bool false] 4)).alloc (.cells #[.int .u64 (iv s)] 23)).cell? ⟨w.heap.size + 1 + 1, 0, none⟩ = some (.bool false) := by simp [go_sem]
  have hfC : ((((w.alloc (.cells #[.int .i64 k] 3)).alloc (.cells #[.int .i64 0] 3)).alloc (.cells #[.bool false] 4)).alloc (.cells #[.int .u64 (iv s)] 23)).frozen? ⟨w.heap.size + 1 + 1, 0, none⟩ = false := by simp [go_sem]
  have hcS : ((((w.alloc (.cells #[.int .i64 k] 3)).alloc (.cells #[.int .i64 0] 3)).alloc (.cells #[.bool false] 4)).alloc (.cells #[.int .u64 (iv s)] 23)).cell? ⟨w.heap.size + 1 + 1 + 1, 0, none⟩ = some (.int .u64 (iv s)) := by simp [go_sem]
  have hfS : ((((w.alloc (.cells #[.int .i64 k] 3)).alloc (.cells #[.int .i64 0] 3)).alloc (.cells #[.bool false] 4)).alloc (.cells #[.int .u64 (iv s)] 23)).frozen? ⟨w.heap.size + 1 + 1 + 1, 0, none⟩ = false := by simp [go_sem]
  have hBW : Below w.heap.size w ((((w.alloc (.cells #[.int .i64 k] 3)).alloc (.cells #[.int .i64 0] 3)).alloc (.cells #[.bool false] 4)).alloc (.cells #[.int .u64 (iv s)] 23)) := ((((Below.refl _ w).alloc (Nat.le_refl _) _).alloc (by simp) _).alloc (by simp; omega) _).alloc (by simp; omega) _
  have hsz : ((((w.alloc (.cells #[.int .i64 k] 3)).alloc (.cells #[.int .i64 0] 3)).alloc (.cells #[.bool false] 4)).alloc (.cells #[.int .u64 (iv s)] 23)).heap.size = w.heap.size + 4 := by simp
  have hTW := HT.out.below hBW
  generalize hW0 : ((((w.alloc (.cells #[.int .i64 k] 3)).alloc (.cells #[.int .i64 0] 3)).alloc (.cells #[.bool false] 4)).alloc (.cells #[.int .u64 (iv s)] 23)) = W0 at *
  clear hW0
  generalize hB : w.heap.size = B at *
  have HB := Lib.hid hB
  have Hsz := Lib.hid hsz
  have HT0 := Lib.hid hTW
  have hB0 : 0 < B + 1 + 1 + 1 := by omega
  have hlt0 : B + 1 + 1 + 1 < W0.heap.size := by omega
  have HBp := Lib.hid (show 0 < B by have := HT.out.1; omega)
  have hw0 : wrap64 k = k := IntWalk.wrap64_in k ⟨HK0.out, HK1.out⟩
  have HW0 := Lib.hid hw0
  clear hB hsz hTW hw0
  refine rf_numbers (s := s) (Bs := B + 1 + 1 + 1) rfl rfl HT0.out hB0 hlt0 hcS hfS
    (fun pre W => (0 ≤ k → pre.length ≤ k.toNat) ∧ W.cell? ⟨B, 0, none⟩ = some (.int .i64 (wrap64 (k - pre.length))) ∧ W.frozen? ⟨B, 0, none⟩ = false ∧ (W.cell? ⟨B + 1, 0, none⟩ = some (.int .i64 0) ∧ W.frozen? ⟨B + 1, 0, none⟩ = false) ∧ (W.cell? ⟨B + 1 + 1, 0, none⟩ = some (.bool false) ∧ W.frozen? ⟨B + 1 + 1, 0, none⟩ = false) ∧ Below B w W ∧ B + 4 ≤ W.heap.size)
    (fun c pre W => c = .ret ∧ ∃ x p, pre = p ++ [x] ∧ k = p.length ∧ W.cell? ⟨B + 1, 0, none⟩ = some (.int .i64 (x : Nat)) ∧ W.cell? ⟨B + 1 + 1, 0, none⟩ = some (.bool true) ∧ Below B w W ∧ B + 4 ≤ W.heap.size) ?hI ?hIx ⟨fun _ => by simp, by simp only [List.length_nil, Int.natCast_zero, Int.sub_zero, HW0.out]; exact hcK, hfK, ⟨hcN, hfN⟩, ⟨hcC, hfC⟩, hBW, by rw [Hsz.out]; omega⟩
    (fun x => { tmps := #[.int .u64 (iv s), .int .i64 k, undef, .pointer (some ⟨B, 0, none⟩), .pointer (some ⟨B + 1, 0, none⟩), .pointer (some ⟨B + 1 + 1, 0, none⟩), .int .i64 x, .int .u64 (iv s), .func (.func 128) #[] #[.pointer (some ⟨B + 1 + 1 + 1, 0, none⟩)], .int .i64 x, undef, undef, undef, undef, undef], defers := [] })
    ?assign ?body ?done ?stop
  case hI =>
    rintro pre A C hA hc ⟨h0, h1, h2, ⟨h3, h6⟩, ⟨h7, h8⟩, h4, h5⟩
    rw [Hsz.out] at hA hc
    exact ⟨h0, (hc.cell (p := ⟨B, 0, none⟩) (by simp only; omega) (by simp only; omega)).trans h1, (hc.frozen (p := ⟨B, 0, none⟩) (by simp only; omega) (by simp only; omega)).trans h2,
      ⟨(hc.cell (p := ⟨B + 1, 0, none⟩) (by simp only; omega) (by simp only; omega)).trans h3, (hc.frozen (p := ⟨B + 1, 0, none⟩) (by simp only; omega) (by simp only; omega)).trans h6⟩,
      ⟨(hc.cell (p := ⟨B + 1 + 1, 0, none⟩) (by simp only; omega) (by simp only; omega)).trans h7, (hc.frozen (p := ⟨B + 1 + 1, 0, none⟩) (by simp only; omega) (by simp only; omega)).trans h8⟩, h4.trans (hc.below (by omega) (by intro k hk; omega)), Nat.le_trans h5 hc.size⟩
  case hIx =>
    rintro c pre A C hA hc ⟨h0, x, p, h6, h7, h1, h3, h4, h5⟩
    rw [Hsz.out] at hA hc
    exact ⟨h0, x, p, h6, h7, (hc.cell (p := ⟨B + 1, 0, none⟩) (by simp only; omega) (by simp only; omega)).trans h1,
      (hc.cell (p := ⟨B + 1 + 1, 0, none⟩) (by simp only; omega) (by simp only; omega)).trans h3, h4.trans (hc.below (by omega) (by intro k hk; omega)), Nat.le_trans h5 hc.size⟩
  case assign =>
    intro l x W K hK
    gi_wp2
    simpa using hK
  case body =>
    rintro l pre x rest W he ⟨h0, h1, h2, ⟨h3, h6⟩, ⟨h7, h8⟩, h4, h5⟩ hsW
    rw [Hsz.out] at hsW
    have hlen : pre.length < 64 := by
      have := Mk.elems_length_le s
      rw [he] at this; simp at this; omega
    have hzero := wrap_zero HK0.out HK1.out hlen
    have hpred := wrap_pred k pre.length
    have HE := Lib.hid he
    have H0 := Lib.hid h0
    have HZ := Lib.hid hzero
    have HP := Lib.hid hpred
    clear he h0 hzero hpred
    obtain ⟨m, hm⟩ : ∃ m, m = wrap64 (k - (pre.length : Int)) := ⟨_, rfl⟩
    rw [← hm] at h1
    have HM := Lib.hid hm
    clear hm
    by_cases hm0 : m = 0
    · subst hm0
      have hkp : k = pre.length := HZ.out.1 HM.out.symm
      have HKP := Lib.hid hkp
      clear hkp
      gi_wp2
      have hBp := HBp.out
      have hch : Chg (fun k => k = B + 1 ∨ k = B + 1 + 1) W ((W.setCell ⟨B + 1, 0, none⟩ (.int .i64 (x : Int))).setCell ⟨B + 1 + 1, 0, none⟩ (.bool true)) :=
        ((Chg.refl (fun k => k = B + 1 ∨ k = B + 1 + 1) W).then_setCell (p := ⟨B + 1, 0, none⟩) (.inl (.inl rfl)) _).then_setCell (p := ⟨B + 1 + 1, 0, none⟩) (.inl (.inr rfl)) _
      rw [rfPost, Hsz.out]
      refine ⟨hch.mono fun k _ hk => ⟨by omega, by omega, by omega⟩, rfl, x, pre, rfl, HKP.out, ?_, ?_, h4.trans (hch.below (by omega) (by intro k hk; omega)), Nat.le_trans h5 hch.size⟩
      · rw [cell_set_ne (by omega)]; exact cell_set_eq h3
      · exact cell_set_eq ((cell_set_ne (by omega)).trans h7)
    · have hz : (m == 0) = false := by simpa using hm0
      have hkp : ¬ k = pre.length := fun e => hm0 (HM.out.trans (HZ.out.2 e))
      have HKP := Lib.hid hkp
      clear hkp hm0
      gi_wp2
      have hBp := HBp.out
      have hch : Chg (fun k => k = B) W (W.setCell ⟨B, 0, none⟩ (.int .i64 (wrap64 (m - 1)))) := (Chg.refl (fun k => k = B) W).then_setCell (p := ⟨B, 0, none⟩) (.inl rfl) _
      rw [rfPost, Hsz.out]
      refine ⟨hch.mono fun k _ hk => ⟨by omega, by omega, by omega⟩, ?_, ?_, by rw [World.frozen?_setCell]; exact h2, ⟨(cell_set_ne (by omega)).trans h3, by rw [World.frozen?_setCell]; exact h6⟩, ⟨(cell_set_ne (by omega)).trans h7, by rw [World.frozen?_setCell]; exact h8⟩, h4.trans (hch.below (by omega) (by intro k hk; omega)), Nat.le_trans h5 hch.size⟩
      · intro hk
        have := H0.out hk
        have := HKP.out
        rw [List.length_append]
        simp only [List.length_cons, List.length_nil]
        omega
      · rw [cell_set_eq h1, HM.out, HP.out, List.length_append]
        rfl
  case done =>
    rintro W ⟨h0, h1, h2, ⟨h3, h6⟩, ⟨h7, h8⟩, h4, h5⟩ hK
    have H0 := Lib.hid h0
    clear h0
    gi_wp2
    have hch : Chg (fun k => k = B + 1 ∨ k = B + 1 + 1) W ((W.setCell ⟨B + 1, 0, none⟩ (.int .i64 0)).setCell ⟨B + 1 + 1, 0, none⟩ (.bool false)) :=
      ((Chg.refl (fun k => k = B + 1 ∨ k = B + 1 + 1) W).then_setCell (p := ⟨B + 1, 0, none⟩) (.inl (.inl rfl)) _).then_setCell (p := ⟨B + 1 + 1, 0, none⟩) (.inl (.inr rfl)) _
    have hlK := (Array.getElem?_eq_some_iff.1 hK).1
    have hK2 := (hch.block _ hlK (by rw [Hsz.out]; omega)).trans hK
    have hc1 : ((W.setCell ⟨B + 1, 0, none⟩ (.int .i64 0)).setCell ⟨B + 1 + 1, 0, none⟩ (.bool false)).cell? ⟨B + 1, 0, none⟩ = some (.int .i64 0) := by rw [cell_set_ne (by omega)]; exact cell_set_eq h3
    have hc2 : ((W.setCell ⟨B + 1, 0, none⟩ (.int .i64 0)).setCell ⟨B + 1 + 1, 0, none⟩ (.bool false)).cell? ⟨B + 1 + 1, 0, none⟩ = some (.bool false) := cell_set_eq ((cell_set_ne (by omega)).trans h7)
    have hbel := h4.trans (hch.below (by omega) (by intro k hk; omega))
    have hsz2 := hch.size
    generalize ((W.setCell ⟨B + 1, 0, none⟩ (.int .i64 0)).setCell ⟨B + 1 + 1, 0, none⟩ (.bool false)) = W2 at *
    refine ⟨by simp, .inl ⟨_, _, rfl, run_takeDeferred hK2, ?_⟩⟩
    have hp : Chg (fun k => k = W0.heap.size) W2 (W2.putObj W0.heap.size (.deferred .none)) := (Chg.refl (fun k => k = W0.heap.size) W2).then_putObj (.inl rfl) _
    rw [Hsz.out] at hp ⊢
    have hc3 := (hp.cell (p := ⟨B + 1, 0, none⟩) (by simp only; omega) (by simp only; omega)).trans hc1
    have hc4 := (hp.cell (p := ⟨B + 1 + 1, 0, none⟩) (by simp only; omega) (by simp only; omega)).trans hc2
    have hnone : mpick s k = none := by
      unfold mpick
      split
      · rfl
      · exact List.getElem?_eq_none (H0.out (by omega))
    refine ⟨.tuple #[.int .i64 0, .bool false], by simp [results, Tryd.results38, go_sem, hc3, hc4], by rw [hnone]; rfl, ?_⟩
    rw [HB.out]
    exact hbel.trans (hp.below (by omega) (by intro k hk; omega))
  case stop =>
    rintro c pre rest W he ⟨rfl, x, p, rfl, hkp, h1, h3, h4, h5⟩ hK
    have HE := Lib.hid he
    have HKP := Lib.hid hkp
    clear he hkp
    gi_wp2
    refine ⟨by simp, .inl ⟨_, _, rfl, run_takeDeferred hK, ?_⟩⟩
    have hp : Chg (fun k => k = W0.heap.size) W (W.putObj W0.heap.size (.deferred .none)) := (Chg.refl (fun k => k = W0.heap.size) W).then_putObj (.inl rfl) _
    rw [Hsz.out] at hp ⊢
    have hc3 := (hp.cell (p := ⟨B + 1, 0, none⟩) (by simp only; omega) (by simp only; omega)).trans h1
    have hc4 := (hp.cell (p := ⟨B + 1 + 1, 0, none⟩) (by simp only; omega) (by simp only; omega)).trans h3
    have hsome : mpick s k = some x := by
      unfold mpick
      rw [HE.out, HKP.out, if_neg (by omega)]
      simp
    refine ⟨.tuple #[.int .i64 (x : Nat), .bool true], by simp [results, Tryd.results38, go_sem, hc3, hc4], by rw [hsome]; rfl, ?_⟩
    rw [HB.out]
    exact h4.trans (hp.below (by omega) (by intro k hk; omega))
end Go.Proofs.YtgegmoedgegkcaaDoor
