/-
  A law for a range over a function whose iterator keeps state of its own in cells. It asks what the iterator promises and what the body keeps.
-/
import Derived.Test.YtgegmoedgegkcaaDoorBase
import Derived.RangeFuncNested
import Derived.RangeFuncBound
import Derived.RangeFuncCalls
import Derived.RangeFuncLeaves
import Derived.WalkSmall
namespace Go.Proofs.YtgegmoedgegkcaaDoor
open Go.RowKit

theorem World.lt_of_cell {w : World} {a : Addr} {v : Value} (h : w.cell? a = some v) : a.block < w.heap.size := by
  rcases Nat.lt_or_ge a.block w.heap.size with h' | h'
  · exact h'
  · simp [World.cell?, Array.getElem?_eq_none h'] at h

/-- At most the blocks of M have turned, and new ones have come. -/
structure Chg (M : Nat → Prop) (w w' : World) : Prop where
  os : w'.os = w.os
  tape : w'.tape = w.tape
  output : w'.output = w.output
  size : w.heap.size ≤ w'.heap.size
  block : ∀ k, k < w.heap.size → ¬ M k → w'.heap[k]? = w.heap[k]?

namespace Chg
variable {M M' : Nat → Prop} {a b c : World}
theorem refl (M : Nat → Prop) (w : World) : Chg M w w := ⟨rfl, rfl, rfl, Nat.le_refl _, fun _ _ _ => rfl⟩
theorem trans (h : Chg M a b) (k : Chg M b c) : Chg M a c :=
  ⟨k.os.trans h.os, k.tape.trans h.tape, k.output.trans h.output, Nat.le_trans h.size k.size, fun i hi hm => (k.block i (Nat.lt_of_lt_of_le hi h.size) hm).trans (h.block i hi hm)⟩
theorem mono (h : Chg M a b) (hm : ∀ k, k < a.heap.size → M k → M' k) : Chg M' a b :=
  ⟨h.os, h.tape, h.output, h.size, fun k hk hn => h.block k hk (fun hmk => hn (hm k hk hmk))⟩
theorem then_alloc (h : Chg M a b) (o : Obj) : Chg M a (b.alloc o) :=
  h.trans ⟨rfl, rfl, rfl, by simp, fun k hk _ => Below.heap_alloc b o k hk⟩
theorem then_setCell (h : Chg M a b) {p : Addr} (hp : M p.block ∨ a.heap.size ≤ p.block) (u : Value) : Chg M a (b.setCell p u) := by
  refine ⟨?_, ?_, ?_, ?_, fun k hk hn => ?_⟩
  · exact h.os
  · exact h.tape
  · exact h.output
  · simpa using h.size
  · exact (Below.heap_setCell b p u k (by rintro rfl; rcases hp with hp | hp; exact hn hp; omega)).trans (h.block k hk hn)
theorem then_drewN (h : Chg M a b) (n : Nat) : Chg M a (b.drewN n) := h.trans ⟨rfl, rfl, rfl, Nat.le_refl _, fun _ _ _ => rfl⟩
theorem then_drew (h : Chg M a b) : Chg M a b.drew := h.trans ⟨rfl, rfl, rfl, Nat.le_refl _, fun _ _ _ => rfl⟩
theorem then_grown (h : Chg M a b) {row : Option Nat} (hg : b.grownBy c row) (hr : ∀ k, row = some k → M k ∨ a.heap.size ≤ k) : Chg M a c := by
  refine ⟨hg.os.trans h.os, hg.tape.trans h.tape, hg.output.trans h.output, Nat.le_trans h.size hg.size, fun k hk hn => ?_⟩
  refine (hg.block k (Nat.lt_of_lt_of_le hk h.size) ?_).trans (h.block k hk hn)
  intro e
  rcases hr k e.symm with hm | hm
  · exact hn hm
  · omega
theorem then_putObj (h : Chg M a b) {r : Nat} (hr : M r ∨ a.heap.size ≤ r) (o : Obj) : Chg M a (b.putObj r o) := by
  refine ⟨h.os, h.tape, h.output, by simpa using h.size, fun k hk hn => (World.putObj_heap_other ?_).trans (h.block k hk hn)⟩
  rintro rfl
  rcases hr with hr | hr
  · exact hn hr
  · omega
theorem of_below (h : Below a.heap.size a b) : Chg M a b := ⟨h.os, h.tape, h.output, h.size, fun k hk _ => h.block k hk⟩
theorem then_below (h : Chg M a b) (k : Below b.heap.size b c) : Chg M a c := h.trans (of_below k)
theorem cell (h : Chg M a b) {p : Addr} (hp : p.block < a.heap.size) (hm : ¬ M p.block) : b.cell? p = a.cell? p := World.cell?_of_block (h.block _ hp hm)
theorem frozen (h : Chg M a b) {p : Addr} (hp : p.block < a.heap.size) (hm : ¬ M p.block) : b.frozen? p = a.frozen? p := World.frozen?_of_block (h.block _ hp hm)
theorem below (h : Chg M a b) {B : Nat} (hB : B ≤ a.heap.size) (hm : ∀ k, k < B → ¬ M k) : Below B a b :=
  ⟨h.os, h.tape, h.output, h.size, fun k hk => h.block k (Nat.lt_of_lt_of_le hk hB) (hm k hk)⟩
theorem owns (h : Chg M a b) {base e size n : Nat} {v : Value} {xs : List Value} (ho : a.ownsRow base e size v n xs) (hm : ∀ k, base ≤ k → ¬ M k) : b.ownsRow base e size v n xs := by
  obtain ⟨hl, h1 | ⟨g, cap, cur, rfl, hb, hg, r⟩⟩ := ho
  · exact ⟨hl, .inl h1⟩
  · exact ⟨hl, .inr ⟨g, cap, cur, rfl, hb, (h.block g (Array.getElem?_eq_some_iff.1 hg).1 (hm g hb)).trans hg, r⟩⟩
end Chg

theorem ownsRow_base {w : World} {base base' e size n : Nat} {v : Value} {xs : List Value} (ho : w.ownsRow base e size v n xs) (h : base' ≤ base) : w.ownsRow base' e size v n xs := by
  obtain ⟨hl, h1 | ⟨g, cap, cur, rfl, hb, hg, r⟩⟩ := ho
  · exact ⟨hl, .inl h1⟩
  · exact ⟨hl, .inr ⟨g, cap, cur, rfl, Nat.le_trans h hb, hg, r⟩⟩

theorem app_chg {W w1 : World} {base e size n : Nat} {v : Value} {xs : List Value} {o : Obj} (h : W.ownsRow base e size v n xs) (hg : (W.alloc o).grownBy w1 v.ownBlock) : Chg (fun k => base ≤ k) W w1 :=
  ((Chg.refl _ W).then_alloc o).then_grown hg (fun k e => .inl (h.lt k e).1)
theorem app_cell {W w1 : World} {base e size n : Nat} {v : Value} {xs : List Value} {o : Obj} (h : W.ownsRow base e size v n xs) (hg : (W.alloc o).grownBy w1 v.ownBlock)
    {B k : Nat} (hB : B < base) {x : Value} (hc : W.cell? ⟨B, k, none⟩ = some x) : w1.cell? ⟨B, k, none⟩ = some x :=
  ((app_chg h hg).cell (p := ⟨B, k, none⟩) (World.lt_of_cell hc) (by simp only; omega)).trans hc
theorem app_frozen {W w1 : World} {base e size n : Nat} {v : Value} {xs : List Value} {o : Obj} (h : W.ownsRow base e size v n xs) (hg : (W.alloc o).grownBy w1 v.ownBlock)
    {B k : Nat} (hB : B < base) {x : Value} (hc : W.cell? ⟨B, k, none⟩ = some x) (hf : W.frozen? ⟨B, k, none⟩ = false) : w1.frozen? ⟨B, k, none⟩ = false :=
  ((app_chg h hg).frozen (p := ⟨B, k, none⟩) (World.lt_of_cell hc) (by simp only; omega)).trans hf

/-- HOW THE BODY OF A ROUND MAY BE LEFT. -/
def rfPost {α : Type} (D : Nat) (Mr : Nat → Prop) (I : List α → World → Prop) (Ix : Code → List α → World → Prop) (xs : List α) (W : World) : Exit → Act → World → Prop
  | .normal, _, W' => Chg (fun k => ¬ Mr k ∧ k ≠ D ∧ k ≠ D + 1) W W' ∧ I xs W'
  | .ret, _, W' => Chg (fun k => ¬ Mr k ∧ k ≠ D ∧ k ≠ D + 1) W W' ∧ Ix .ret xs W'
  | .exit id, _, W' => Chg (fun k => ¬ Mr k ∧ k ≠ D ∧ k ≠ D + 1) W W' ∧ Ix (.exit id) xs W'
  | .goto t, _, W' => Chg (fun k => ¬ Mr k ∧ k ≠ D ∧ k ≠ D + 1) W W' ∧ Ix (.goto t) xs W'
  | .panic _, _, _ => False
  | .outgrown, _, _ => False

/-- THE CONTRACT OF AN ITERATOR THAT KEEPS STATE OF ITS OWN IN CELLS: it writes the blocks of Mw alone (and new ones); a round leaves those of Mr as they are. -/
def ItStops {α : Type} (n : Nat) (P : Program) (gf : Nat) (lb : Array Value) (encs : α → Array Value) (Mw Mr : Nat → Prop) (S Sp : List α → Prop) (Pre : List α → α → Prop) (w : World) : Prop :=
  ∀ (l : Nat) (J Jx : List α → World → Prop) (W : World), Chg (fun _ => False) w W →
    (∀ pre A B, w.heap.size ≤ A.heap.size → Chg Mw A B → J pre A → J pre B) → (∀ pre A B, w.heap.size ≤ A.heap.size → Chg Mw A B → Jx pre A → Jx pre B) →
    (∀ pre x W1, w.heap.size ≤ W1.heap.size → J pre W1 → Pre pre x → YieldAt Fence.wide (n - 1) P l (encs x) W1 fun e W' =>
      (e = .returned (.bool true) ∧ J (pre ++ [x]) W' ∧ Chg (fun k => ¬ Mr k) W1 W') ∨ (e = .returned (.bool false) ∧ Jx (pre ++ [x]) W' ∧ Chg (fun k => ¬ Mr k) W1 W')) →
    J [] W →
    CallsIn Fence.wide n P gf (#[.func (.yield l) #[] #[]] ++ lb) W fun e W' => (∃ v, e = .returned v) ∧ ((∃ xs, S xs ∧ J xs W') ∨ (∃ pre, Sp pre ∧ Jx pre W'))

/-- **THE LAW OF THE CALLER.** -/
theorem rf_gen {α : Type} {P : Program} {g : Operand} {ps : Array Tmp} {assign body : Code} {Q : Exit → Act → World → Prop} {a : Act} {w : World} {n : Nat} {gf : Nat} {lb : Array Value}
    {encs : α → Array Value} {Mw Mr : Nat → Prop} {S Sp : List α → Prop} {Pre : List α → α → Prop}
    (hg : a.eval g = .func (.func gf) #[] lb) (eg : ∀ args w, (callFunc gf args).run P w = .ok (.enter gf args) w) (hps : ∀ x, (encs x).size = ps.size)
    (hit : ItStops (n - 1) P gf lb encs Mw Mr S Sp Pre w) (hMw : ∀ k, Mw k → k < w.heap.size) (hMr : ∀ k, Mr k → k < w.heap.size)
    (I : List α → World → Prop) (Ix : Code → List α → World → Prop)
    (hI : ∀ pre A B, w.heap.size ≤ A.heap.size → Chg (fun k => Mw k ∨ k = w.heap.size ∨ k = w.heap.size + 1) A B → I pre A → I pre B)
    (hIx : ∀ c pre A B, w.heap.size ≤ A.heap.size → Chg (fun k => Mw k ∨ k = w.heap.size ∨ k = w.heap.size + 1) A B → Ix c pre A → Ix c pre B)
    (h0 : I [] w) (a₁ : α → Act)
    (hassign : ∀ (l : Nat) (x : α) (W : World) (K : Act → World → Prop), K (a₁ x) W →
      assign.wpIn (Fence.wide.inRound l) (n - 1 - 1) P (Exit.then K (fun _ _ _ => False)) { tmps := (ps.zip (encs x)).foldl (fun t (p, v) => t.setIfInBounds p v) a.tmps, defers := [] } W)
    (hbody : ∀ (l : Nat) (pre : List α) (x : α) (W : World), I pre W → Pre pre x → w.heap.size + 2 ≤ W.heap.size → body.wpIn (Fence.wide.inRound l) (n - 1 - 1) P (rfPost w.heap.size Mr I Ix (pre ++ [x]) W) (a₁ x) W)
    (hdone : ∀ (xs : List α) (W : World), S xs → I xs W → W.heap[w.heap.size]? = some (.deferred (some [])) → Q .normal { a with defers := { target := .collected w.heap.size, args := #[] } :: a.defers } W)
    (hstop : ∀ (c : Code) (pre : List α) (W : World), Sp pre → Ix c pre W → W.heap[w.heap.size]? = some (.deferred (some [])) → c.wpIn Fence.wide n P Q { a with defers := { target := .collected w.heap.size, args := #[] } :: a.defers } W) :
    (Code.rangeFunc g ps assign body).wpIn Fence.wide n P Q a w := by
  refine wpIn_rangeFunc ?_
  intro fn _
  obtain ⟨rec, hrec⟩ : ∃ rec : LoopState → Option Code → Loop, rec = fun st pe => { state := st, pending := pe, fn, tmps := a.tmps, params := ps, assign, body, defers := w.heap.size } := ⟨_, rfl⟩
  obtain ⟨W1, hW1⟩ : ∃ W1, (w.alloc (.deferred (some []))).alloc (.loop (rec .ready none)) = W1 := ⟨_, rfl⟩
  have hL1 : W1.heap[w.heap.size + 1]? = some (.loop (rec .ready none)) := by
    rw [← hW1]; have := World.alloc_heap_new (w.alloc (.deferred (some []))) (.loop (rec .ready none)); rwa [World.size_alloc] at this
  have hK1 : W1.heap[w.heap.size]? = some (.deferred (some [])) := by
    rw [← hW1]; exact (Below.heap_alloc _ _ _ (by simp)).trans (World.alloc_heap_new w _)
  have hC1 : ∀ M, Chg M w W1 := fun M => by rw [← hW1]; exact ((Chg.refl M w).then_alloc _).then_alloc _
  have hI1 : I [] W1 := hI _ w _ (Nat.le_refl _) (hC1 _) h0
  refine ⟨w.heap.size + 1, [{ target := .collected w.heap.size, args := #[] }], W1, { target := .fn (.func gf) lb, args := #[.func (.yield (w.heap.size + 1)) #[] #[]] }, W1, gf,
    #[.func (.yield (w.heap.size + 1)) #[] #[]] ++ lb, W1, ?_, ?_, ?_, ?_, fun h => (by cases h), ?_⟩
  · rw [← hW1, hrec]; exact run_enterLoop_outer _ _ _ _ _
  · simp only [resolve, hg]
    simp [go_sem]
  · intro f' _; trivial
  · simp [invoke, go_sem, eg]
  · have hD : ∀ {A B : World}, Chg Mw A B → Chg (fun k => Mw k ∨ k = w.heap.size ∨ k = w.heap.size + 1) A B := fun h => h.mono fun _ _ hm => .inl hm
    have hkeep : ∀ {A B : World} {o : Obj} {k : Nat}, k = w.heap.size ∨ k = w.heap.size + 1 → Chg Mw A B → A.heap[k]? = some o → B.heap[k]? = some o := fun {A B o k} hk h ho =>
      (h.block k (Array.getElem?_eq_some_iff.1 ho).1 (fun hm => by have := hMw k hm; omega)).trans ho
    refine (hit (w.heap.size + 1)
      (fun pre W => I pre W ∧ W.heap[w.heap.size + 1]? = some (.loop (rec .ready none)) ∧ W.heap[w.heap.size]? = some (.deferred (some [])))
      (fun pre W => ∃ c, Ix c pre W ∧ W.heap[w.heap.size + 1]? = some (.loop (rec .done (some c))) ∧ W.heap[w.heap.size]? = some (.deferred (some [])))
      W1 (hC1 _)
      (fun pre A B hA h s => ⟨hI pre A B hA (hD h) s.1, hkeep (.inr rfl) h s.2.1, hkeep (.inl rfl) h s.2.2⟩)
      (fun pre A B hA h s => by obtain ⟨c, hc, hl, hk⟩ := s; exact ⟨c, hIx c pre A B hA (hD h) hc, hkeep (.inr rfl) h hl, hkeep (.inl rfl) h hk⟩)
      ?_ ⟨hI1, hL1, hK1⟩).mono ?_
    · rintro pre x W _ ⟨hi, hl, hk⟩ hpre
      have hlt : w.heap.size + 1 < W.heap.size := (Array.getElem?_eq_some_iff.1 hl).1
      have hy := run_yield (P := P) (args := encs x) hl (by rw [hrec]; exact hps x)
      rw [hrec] at hy
      refine ⟨fn, _, assign, body, hy, roundIn_of_wpIn trivial (hassign _ x W _ ⟨_, run_beginRound hl (by rw [hrec]), ?_⟩)⟩
      have hl2 : (W.putObj (w.heap.size + 1) (.loop { rec .ready none with state := .busy })).heap[w.heap.size + 1]? = some (.loop { rec .ready none with state := .busy }) := World.putObj_heap_same hlt
      have hk2 : (W.putObj (w.heap.size + 1) (.loop { rec .ready none with state := .busy })).heap[w.heap.size]? = some (.deferred (some [])) := (World.putObj_heap_other (by omega)).trans hk
      have hI2 : I pre (W.putObj (w.heap.size + 1) (.loop { rec .ready none with state := .busy })) := hI pre W _ (by omega) ((Chg.refl _ W).then_putObj (.inl (.inr (.inr rfl))) _) hi
      refine wpIn_mono (hbody _ pre x _ hI2 hpre (by simp; omega)) ?_
      have fin : ∀ (jump : Option Code) (W3 : World), Chg (fun k => ¬ Mr k ∧ k ≠ w.heap.size ∧ k ≠ w.heap.size + 1) (W.putObj (w.heap.size + 1) (.loop { rec .ready none with state := .busy })) W3 →
          (Instr.endRound (w.heap.size + 1) jump).run P W3 = .ok (.bool jump.isNone) (W3.putObj (w.heap.size + 1) (.loop (rec (if jump.isNone then .ready else .done) jump))) ∧
          (W3.putObj (w.heap.size + 1) (.loop (rec (if jump.isNone then .ready else .done) jump))).heap[w.heap.size + 1]? = some (.loop (rec (if jump.isNone then .ready else .done) jump)) ∧
          (W3.putObj (w.heap.size + 1) (.loop (rec (if jump.isNone then .ready else .done) jump))).heap[w.heap.size]? = some (.deferred (some [])) ∧
          Chg (fun k => ¬ Mr k) W (W3.putObj (w.heap.size + 1) (.loop (rec (if jump.isNone then .ready else .done) jump))) := fun jump W3 hc => by
        have hl3 : W3.heap[w.heap.size + 1]? = some (.loop { rec .ready none with state := .busy }) := (hc.block _ (by simp; omega) (fun h => h.2.2 rfl)).trans hl2
        have hk3 : W3.heap[w.heap.size]? = some (.deferred (some [])) := (hc.block _ (by simp; omega) (fun h => h.2.1 rfl)).trans hk2
        have := run_endRound (P := P) jump hl3
        rw [hrec] at this ⊢
        have hnr : ¬ Mr (w.heap.size + 1) := fun h => by have := hMr _ h; omega
        refine ⟨this, World.putObj_heap_same (Array.getElem?_eq_some_iff.1 hl3).1, (World.putObj_heap_other (by omega)).trans hk3, ?_⟩
        exact (((Chg.refl _ W).then_putObj (.inl hnr) _).trans (hc.mono fun _ _ h => h.1)).then_putObj (.inl hnr) _
      rintro e a3 W3 hp
      have hsz : Chg (fun k => ¬ Mr k ∧ k ≠ w.heap.size ∧ k ≠ w.heap.size + 1) (W.putObj (w.heap.size + 1) (.loop { rec .ready none with state := .busy })) W3 → w.heap.size ≤ W3.heap.size := fun h => by
        have := h.size; simp at this; omega
      have hput : ∀ o, w.heap.size ≤ W3.heap.size → Chg (fun k => Mw k ∨ k = w.heap.size ∨ k = w.heap.size + 1) W3 (W3.putObj (w.heap.size + 1) o) := fun o _ => (Chg.refl _ W3).then_putObj (.inl (.inr (.inr rfl))) o
      cases e with
      | normal =>
        obtain ⟨hk3, hi3⟩ := hp
        obtain ⟨hr, hl4, hk4, hc4⟩ := fin none W3 hk3
        exact ⟨_, _, hr, .inl ⟨rfl, ⟨hI _ W3 _ (hsz hk3) (hput _ (hsz hk3)) hi3, hl4, hk4⟩, hc4⟩⟩
      | ret =>
        obtain ⟨hk3, hi3⟩ := hp
        obtain ⟨hr, hl4, hk4, hc4⟩ := fin (some .ret) W3 hk3
        exact ⟨_, _, hr, .inr ⟨rfl, ⟨.ret, hIx _ _ W3 _ (hsz hk3) (hput _ (hsz hk3)) hi3, hl4, hk4⟩, hc4⟩⟩
      | exit id =>
        obtain ⟨hk3, hi3⟩ := hp
        obtain ⟨hr, hl4, hk4, hc4⟩ := fin (some (.exit id)) W3 hk3
        exact ⟨_, _, hr, .inr ⟨rfl, ⟨.exit id, hIx _ _ W3 _ (hsz hk3) (hput _ (hsz hk3)) hi3, hl4, hk4⟩, hc4⟩⟩
      | goto t =>
        obtain ⟨hk3, hi3⟩ := hp
        obtain ⟨hr, hl4, hk4, hc4⟩ := fin (some (.goto t)) W3 hk3
        exact ⟨_, _, hr, .inr ⟨rfl, ⟨.goto t, hIx _ _ W3 _ (hsz hk3) (hput _ (hsz hk3)) hi3, hl4, hk4⟩, hc4⟩⟩
      | panic ch => exact hp.elim
      | outgrown => exact hp.elim
    · rintro e W2 ⟨⟨v, rfl⟩, (⟨xs, hS, hi, hl, hk⟩ | ⟨pre, hSp, c, hi, hl, hk⟩)⟩
      · have hlt : w.heap.size + 1 < W2.heap.size := (Array.getElem?_eq_some_iff.1 hl).1
        exact ⟨none, _, by have := run_endLoop (P := P) hl (by rw [hrec]; simp); rw [hrec] at this; exact this,
          hdone xs _ hS (hI _ W2 _ (by omega) ((Chg.refl _ W2).then_putObj (.inl (.inr (.inr rfl))) _) hi) ((World.putObj_heap_other (by omega)).trans hk)⟩
      · have hlt : w.heap.size + 1 < W2.heap.size := (Array.getElem?_eq_some_iff.1 hl).1
        exact ⟨some c, _, by have := run_endLoop (P := P) hl (by rw [hrec]; simp); rw [hrec] at this; exact this,
          hstop c pre _ hSp (hIx c _ W2 _ (by omega) ((Chg.refl _ W2).then_putObj (.inl (.inr (.inr rfl))) _) hi) ((World.putObj_heap_other (by omega)).trans hk)⟩

end Go.Proofs.YtgegmoedgegkcaaDoor
