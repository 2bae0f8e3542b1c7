/-
  The iterator of marks.numbers hands over the elements of the set in rising order, if the library table is laid.
-/
import Derived.Test.YtgegmoedgegkcaaDoorRange
import Derived.Test.YtgegmoedgegkcaaDoorTz
import Derived.Shelf.Abstract
import Derived.Shelf.RegionOpen
import Derived.OwnWalkIn
import Derived.TacticsInMore
import Derived.LoopNIn
import Derived.LoopIn
import Derived.KernelRfl
namespace Go.Proofs.YtgegmoedgegkcaaDoor
open Go.RowKit Go.Shelf
attribute [local go_sem] Oper.semAt_some

@[go_sem] theorem wide_fn (k : Nat) : Fence.wide.fn k = True := rfl
@[go_sem] theorem wide_fn_round (l k : Nat) : (Fence.wide.inRound l).fn k = True := rfl
@[go_sem] theorem wide_depth : Fence.wide.depth = none := rfl
@[go_sem] theorem wide_depth_round (l : Nat) : (Fence.wide.inRound l).depth = none := rfl

theorem c_numbers (s : BitVec 64) (w : World) : Calls Tryd.prog 98 #[.int .u64 (iv s)] w fun e w' =>
    e = .returned (.func (.func 128) #[] #[.pointer (some ⟨w.heap.size, 0, none⟩)]) ∧ w.alloc (.cells #[.int .u64 (iv s)] 23) = w' := by
  go_enter Tryd.func98, Tryd.ntmps98
  go_wp2
  go_ret
  exact ⟨rfl, rfl⟩

/-- How much the iterator's own variable has left. -/
def leftAt (b : Nat) (w : World) : Nat := match w.cell? ⟨b, 0, none⟩ with | some (.int _ n) => (Mk.elems (BitVec.ofInt 64 n)).length | _ => 0
theorem leftAt_eq {b : Nat} {w : World} {s : BitVec 64} (h : w.cell? ⟨b, 0, none⟩ = some (.int .u64 (iv s))) : leftAt b w = (Mk.elems s).length := by
  unfold leftAt; rw [h]; simp only [ofInt_set]

theorem it_numbers (n Bs : Nat) (s : BitVec 64) (w : World) (hT : Tab w) (hB : 0 < Bs) (hlt : Bs < w.heap.size)
    (hc : w.cell? ⟨Bs, 0, none⟩ = some (.int .u64 (iv s))) (hf : w.frozen? ⟨Bs, 0, none⟩ = false) :
    ItStops n Tryd.prog 128 #[.pointer (some ⟨Bs, 0, none⟩)] (fun x : Nat => #[.int .i64 x]) (fun k => k = Bs) (fun k => k = Bs ∨ k = 0)
      (fun xs => xs = Mk.elems s) (fun pre => ∃ rest, Mk.elems s = pre ++ rest) (fun pre x => ∃ rest, Mk.elems s = pre ++ x :: rest) w := by
  intro l J Jx W hW hJ hJx hY h0
  have hTW : Tab W := hT.below (hW.below (Nat.le_refl _) (fun _ _ h => h))
  have hcW : W.cell? ⟨Bs, 0, none⟩ = some (.int .u64 (iv s)) := (hW.cell (p := ⟨Bs, 0, none⟩) hlt id).trans hc
  have hfW : W.frozen? ⟨Bs, 0, none⟩ = false := (hW.frozen (p := ⟨Bs, 0, none⟩) hlt id).trans hf
  have hsW := hW.size
  have HY := Lib.hid hY
  have HJ := Lib.hid hJ
  have HJx := Lib.hid hJx
  have HB := Lib.hid hB
  clear hY hJ hJx hW hT hc hf hB
  have H0 := Lib.hid h0
  have HT := Lib.hid hTW
  clear h0 hTW
  refine callsIn_of_wp Tryd.func128 rfl trivial ?_ rfl
  simp only [Tryd.ntmps128, List.size_toArray, List.length_cons, List.length_nil, Nat.reduceAdd, Nat.reduceSub, Array.replicate_succ, Array.replicate_zero, List.push_toArray, List.append_toArray, List.nil_append, List.cons_append]
  gi_wp2
  gi_loopw [3] (fun _ wr => ∃ (pre : List Nat) (t : BitVec 64), Mk.elems s = pre ++ Mk.elems t ∧ wr.cell? ⟨Bs, 0, none⟩ = some (.int .u64 (iv t)) ∧ wr.frozen? ⟨Bs, 0, none⟩ = false ∧ Tab wr ∧ w.heap.size ≤ wr.heap.size ∧ J pre wr)
    (fun _ wr => leftAt Bs wr)
  case atStart => exact ⟨[], s, rfl, hcW, hfW, HT.out, hsW, H0.out⟩
  case round =>
    obtain ⟨pre, t, he, hct, hft, hTt, hst, hJt⟩ := hrel
    have HE := Lib.hid he
    have HTt := Lib.hid hTt
    have HJt := Lib.hid hJt
    clear he hTt hJt
    by_cases h0 : t = 0#64
    · subst h0
      have hz : (0#64 != 0#64) = false := rfl
      gi_wp2
      go_end0
      exact ⟨⟨_, rfl⟩, .inl ⟨pre, by rw [HE.out, Mk.elems_zero, List.append_nil], HJt.out⟩⟩
    · have hz : (t != 0#64) = true := by simpa using h0
      have hstep := Mk.elems_step t h0
      obtain ⟨fn, tmps, assign, body, hy, hR⟩ := HY.out pre (Mk.low t) wr hst HJt.out ⟨_, by rw [HE.out, hstep]⟩
      have HS := Lib.hid hstep
      have H00 := Lib.hid h0
      clear hstep h0
      gi_wp2_with (gi_at_call 129; refine (callsIn_wide.2 (c_tz _ _ HTt.out H00.out)).mono ?_; rintro e w' ⟨rfl, rfl⟩)
      have hlw : Bs < wr.heap.size := by omega
      refine hR.mono ?_
      rintro e W2 (⟨rfl, hJ2, hk2⟩ | ⟨rfl, hJx2, hk2⟩)
      · have hc2 : W2.cell? ⟨Bs, 0, none⟩ = some (.int .u64 (iv t)) := (hk2.cell (p := ⟨Bs, 0, none⟩) hlw (fun h => h (.inl rfl))).trans hct
        have hf2 : W2.frozen? ⟨Bs, 0, none⟩ = false := (hk2.frozen (p := ⟨Bs, 0, none⟩) hlw (fun h => h (.inl rfl))).trans hft
        have hsz := hk2.size
        have hT2 : Tab W2 := ⟨by have := HTt.out.1; omega, fun j hj => (hk2.cell (p := ⟨0, j, none⟩) HTt.out.1 (fun h => h (.inr rfl))).trans (HTt.out.2 j hj)⟩
        have HJ2 := Lib.hid hJ2
        have HT2 := Lib.hid hT2
        have Hk2 := Lib.hid hk2
        have Hct := Lib.hid hct
        have Hft := Lib.hid hft
        clear hJ2 hT2 hk2 hct hft
        gi_wp2
        have hW3 : Chg (fun k => k = Bs) W2 (W2.setCell ⟨Bs, 0, none⟩ (.int .u64 (iv (t &&& (t - 1#64))))) := (Chg.refl (fun k => k = Bs) W2).then_setCell (p := ⟨Bs, 0, none⟩) (.inl rfl) _
        go_roundw
        case rel =>
          refine ⟨pre ++ [Mk.low t], t &&& (t - 1#64), by rw [HE.out, HS.out]; simp, World.cell?_setCell_same' _ _ _ (by rw [hc2]; rfl), by rw [World.frozen?_setCell]; exact hf2, ?_, by simp; omega, HJ.out _ W2 _ (by omega) hW3 HJ2.out⟩
          exact ⟨by simp; omega, fun j hj => (hW3.cell (p := ⟨0, j, none⟩) (by have := HT2.out.1; exact this) (fun h => by have := HB.out; simp only at h; omega)).trans (HT2.out.2 j hj)⟩
        case measure => rw [leftAt_eq (World.cell?_setCell_same' _ _ _ (by rw [hc2]; rfl)), leftAt_eq Hct.out, HS.out]; simp
      · gi_wp2
        refine bodyPost_ret (results_none rfl _ _ _) rfl ?_
        exact ⟨⟨_, rfl⟩, .inr ⟨pre ++ [Mk.low t], ⟨_, by rw [HE.out, HS.out, List.append_assoc]; rfl⟩, hJx2⟩⟩

theorem enters128 : ∀ args w, (callFunc 128 args).run Tryd.prog w = .ok (.enter 128 args) w := enters_of Tryd.func128 (by kernel_rfl) rfl

/-- A range over marks.numbers. -/
theorem rf_numbers {g : Operand} {ps : Array Tmp} {assign body : Code} {Q : Exit → Act → World → Prop} {a : Act} {W0 : World} {n Bs : Nat} {s : BitVec 64}
    (hg : a.eval g = .func (.func 128) #[] #[.pointer (some ⟨Bs, 0, none⟩)]) (hps : ps.size = 1) (hT : Tab W0) (hB : 0 < Bs) (hlt : Bs < W0.heap.size)
    (hc : W0.cell? ⟨Bs, 0, none⟩ = some (.int .u64 (iv s))) (hf : W0.frozen? ⟨Bs, 0, none⟩ = false)
    (I : List Nat → World → Prop) (Ix : Code → List Nat → World → Prop)
    (hI : ∀ pre A B, W0.heap.size ≤ A.heap.size → Chg (fun k => k = Bs ∨ k = W0.heap.size ∨ k = W0.heap.size + 1) A B → I pre A → I pre B)
    (hIx : ∀ c pre A B, W0.heap.size ≤ A.heap.size → Chg (fun k => k = Bs ∨ k = W0.heap.size ∨ k = W0.heap.size + 1) A B → Ix c pre A → Ix c pre B)
    (h0 : I [] W0) (a₁ : Nat → Act)
    (hassign : ∀ (l x : Nat) (W : World) (K : Act → World → Prop), K (a₁ x) W →
      assign.wpIn (Fence.wide.inRound l) (n - 1 - 1) Tryd.prog (Exit.then K (fun _ _ _ => False)) { tmps := (ps.zip #[.int .i64 x]).foldl (fun t (p, v) => t.setIfInBounds p v) a.tmps, defers := [] } W)
    (hbody : ∀ (l : Nat) (pre : List Nat) (x : Nat) (rest : List Nat) (W : World), Mk.elems s = pre ++ x :: rest → I pre W → W0.heap.size + 2 ≤ W.heap.size →
      body.wpIn (Fence.wide.inRound l) (n - 1 - 1) Tryd.prog (rfPost W0.heap.size (fun k => k = Bs ∨ k = 0) I Ix (pre ++ [x]) W) (a₁ x) W)
    (hdone : ∀ (W : World), I (Mk.elems s) W → W.heap[W0.heap.size]? = some (.deferred (some [])) → Q .normal { a with defers := { target := .collected W0.heap.size, args := #[] } :: a.defers } W)
    (hstop : ∀ (c : Code) (pre rest : List Nat) (W : World), Mk.elems s = pre ++ rest → Ix c pre W → W.heap[W0.heap.size]? = some (.deferred (some [])) → c.wpIn Fence.wide n Tryd.prog Q { a with defers := { target := .collected W0.heap.size, args := #[] } :: a.defers } W) :
    (Code.rangeFunc g ps assign body).wpIn Fence.wide n Tryd.prog Q a W0 :=
  rf_gen (encs := fun x : Nat => #[.int .i64 x]) hg enters128 (fun _ => hps.symm) (it_numbers (n - 1) Bs s W0 hT hB hlt hc hf) (fun k hk => by subst hk; exact hlt) (fun k hk => by rcases hk with rfl | rfl <;> omega)
    I Ix hI hIx h0 a₁ hassign (fun l pre x W hi hp hs => by obtain ⟨rest, he⟩ := hp; exact hbody l pre x rest W he hi hs)
    (fun xs W hS hi hk => by subst hS; exact hdone W hi hk) (fun c pre W hS hi hk => by obtain ⟨rest, he⟩ := hS; exact hstop c pre rest W he hi hk)
end Go.Proofs.YtgegmoedgegkcaaDoor
