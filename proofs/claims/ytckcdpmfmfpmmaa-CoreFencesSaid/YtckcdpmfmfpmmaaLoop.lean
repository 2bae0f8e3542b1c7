/-
  The region of a law's loop that asks alone for a step.
-/
import Derived.Test.YtckcdpmfmfpmmaaAlone
namespace Go.Proofs.Ytckcdpmfmfpmmaa
open Go.RowKit

/-- The step, with a flag. -/
def stepR (l : List In) (most : Int) (d : Bool) (c : Cr) (bl : List (Nat × Nat)) (M : Nat → Int) : Cr × List (Nat × Nat) × (Nat → Int) × Bool :=
  match stepA l most d c bl M with
  | some (c', bl', M') => (c', bl', M', true)
  | none => (c, bl, M, false)
def RPost (w : World) (bm : Nat) (c' : Cr) (bl' : List (Nat × Nat)) (M' : Nat → Int) (did : Bool) (e : Ending) (w' : World) : Prop :=
  ∃ u, e = .returned (.tuple #[.agg { c' with buf := u }.cells, .bool did]) ∧ BufOk w' u bl' ∧ Row59 w' u ∧ MemAt w' bm M' ∧ Ups w w' bm
theorem AIn.ups {w w' : World} {bm : Nat} {c : Cr} {bl : List (Nat × Nat)} {v : Value} {l : List In} {M : Nat → Int} (h : AIn w bm c bl v l M) (hu : Ups w w' bm) (hm : MemAt w' bm M) : AIn w' bm c bl v l M :=
  have hne := h.row.ne h.mem.heap (by decide)
  ⟨h.cin.ups hu h.sep hne, hm, h.mok, h.bok, h.sep, h.row.same fun ad n cap e => by
    obtain ⟨cs, hc⟩ := h.row ad n cap e
    exact hu.block _ (Array.getElem?_eq_some_iff.1 hc).1 (fun e2 => hne ad n cap e (by cases e2; rfl)), h.wt, h.dr⟩
theorem c_aloneR {c c' : Cr} {bl bl' : List (Nat × Nat)} {v : Value} {l : List In} {M M' : Nat → Int} {bm : Nat} {did : Bool} (r1 r2 r3 most : Int) (ev d : Bool) (w : World) (h : AIn w bm c bl v l M) (hst : stepR l most d c bl M = (c', bl', M', did)) :
    Calls Try.prog 22 #[v, .agg (rls r1 r2 r3 most ev), .agg c.cells, .pointer (some ⟨bm, 0, none⟩), .bool d] w fun e w' => RPost w bm c' bl' M' did e w' := by
  refine (c_alone r1 r2 r3 most ev d w h).mono fun e w' hp => ?_
  unfold AP at hp
  unfold stepR at hst
  cases hs : stepA l most d c bl M with
  | some q =>
    obtain ⟨c1, bl1, M1⟩ := q
    rw [hs] at hp hst
    simp only [Prod.mk.injEq] at hst
    obtain ⟨rfl, rfl, rfl, rfl⟩ := hst
    exact hp
  | none =>
    rw [hs] at hp hst
    simp only [Prod.mk.injEq] at hst
    obtain ⟨rfl, rfl, rfl, rfl⟩ := hst
    obtain ⟨he, hm, hu⟩ := hp
    have h2 := h.ups hu hm
    obtain ⟨ab, cab, hb, hn, hs⟩ := h2.cin.core.buf
    exact ⟨c.buf, he, ⟨ab, cab, hb, hn, hs⟩, h2.row, hm, hu⟩

/-- The plan. -/
@[reducible] def pF (t1 t2 t3 t4 : Tmp) (wS : World) (bm : Nat) (c' : Cr) (bl' : List (Nat × Nat)) (M M' : Nat → Int) (did : Bool) : Pl where
  T := [t1, t2, t3, t4]
  S := [13, 14, 15, 17, 18]
  U := fun i => match i with | 14 => [13] | 15 => [14] | 16 => [14] | 18 => [15, 17] | _ => []
  E := [18]
  C := fun w => Ups wS w bm
  X := fun i β w => match i with
    | 13 => ∃ u, β t1 = .tuple #[.agg { c' with buf := u }.cells, .bool did] ∧ BufOk w u bl' ∧ Row59 w u ∧ MemAt w bm M'
    | 14 => ∃ u, β t2 = .tuple #[.agg { c' with buf := u }.cells, .bool did] ∧ BufOk w u bl' ∧ Row59 w u ∧ MemAt w bm M'
    | 15 => ∃ u, β t3 = .agg { c' with buf := u }.cells ∧ BufOk w u bl' ∧ Row59 w u ∧ MemAt w bm M'
    | 17 => ∃ b, β t4 = .pointer (some ⟨b, 0, none⟩) ∧ wS.heap.size ≤ b ∧ CrAt w b Cr.zero
    | 18 => ∃ b, β t4 = .pointer (some ⟨b, 0, none⟩) ∧ wS.heap.size ≤ b ∧ ∃ u, CrAt w b { c' with buf := u } ∧ BufOk w u bl' ∧ Row59 w u ∧ MemAt w bm M'
    | _ => True
  z := 13
  Z := fun w => MemAt w bm M
section
variable {t1 t2 t3 t4 : Tmp} {wS : World} {bm : Nat} {c c' : Cr} {bl bl' : List (Nat × Nat)} {M M' : Nat → Int} {v : Value} {l : List In} {w w' : World} {did d : Bool} {ops : Array Oper} {β : Tmp → Value}
theorem pF_C {w w' : World} (h : Ups wS w bm) (hb : Below w.heap.size w w') : Ups wS w' bm := h.trans (Ups.of bm hb)
theorem pF_X : ∀ i β w w', (pF t1 t2 t3 t4 wS bm c' bl' M M' did).X i β w → Below w.heap.size w w' → (pF t1 t2 t3 t4 wS bm c' bl' M M' did).X i β w' := by
  intro i β w w' h hb
  match i with
  | 13 | 14 | 15 => obtain ⟨u, h1, h2, h3, h4⟩ := h; exact ⟨u, h1, h2.over hb, h3.over hb, h4.over hb⟩
  | 17 => obtain ⟨b, h1, h2, h3⟩ := h; exact ⟨b, h1, h2, h3.over hb⟩
  | 18 => obtain ⟨b, h1, h2, u, h3, h4, h5, h6⟩ := h; exact ⟨b, h1, h2, u, h3.over hb, h4.over hb, h5.over hb, h6.over hb⟩
  | 0 | 1 | 2 | 3 | 4 | 5 | 6 | 7 | 8 | 9 | 10 | 11 | 12 | 16 => trivial
  | n + 19 => trivial
abbrev stF (t1 t2 t3 t4 : Tmp) (wS : World) (bm : Nat) (c' : Cr) (bl' : List (Nat × Nat)) (M M' : Nat → Int) (did : Bool) (ops : Array Oper) (i j : Nat) : Prop := stay (pF t1 t2 t3 t4 wS bm c' bl' M M' did).E (pF t1 t2 t3 t4 wS bm c' bl' M M' did).U .any ops i j = false
theorem pF_call {most r1 r2 r3 : Int} {ev : Bool} (hA : AIn wS bm c bl v l M) (hst : stepR l most d c bl M = (c', bl', M', did)) (hC : Ups wS w bm) (hz : MemAt w bm M) (hbm : bm < wS.heap.size)
    (k14 : stF t1 t2 t3 t4 wS bm c' bl' M M' did ops 13 14) (k15 : stF t1 t2 t3 t4 wS bm c' bl' M M' did ops 13 15) (k18 : stF t1 t2 t3 t4 wS bm c' bl' M M' did ops 13 18) (h4 : t4 ≠ t1) :
    sUpon (pF t1 t2 t3 t4 wS bm c' bl' M M' did) Try.prog .any ops 13 (some t1) β w (.ok (.enter 22 #[v, .agg (rls r1 r2 r3 most ev), .agg c.cells, .pointer (some ⟨bm, 0, none⟩), .bool d]) w) := by
  refine ⟨rfl, (c_aloneR r1 r2 r3 most ev d w (hA.ups hC hz) hst).mono fun e w'' h => ?_⟩
  obtain ⟨u, rfl, hb, hr, hm, hu⟩ := h
  refine ⟨_, rfl, ⟨u, by simp [bset], hb, hr, hm⟩, hC.trans hu, fun j hj hne hs hx => ?_, fun h => absurd rfl h⟩
  simp only [List.mem_cons, List.not_mem_nil, or_false] at hj
  rcases hj with rfl | rfl | rfl | rfl | rfl
  · exact absurd rfl hne
  · exact absurd (k14.symm.trans hs) (by simp)
  · exact absurd (k15.symm.trans hs) (by simp)
  · obtain ⟨b, h1, h2, h3⟩ := hx
    exact ⟨b, by simp only [bset, if_neg h4]; exact h1, h2, ⟨(hu.block b h3.lt (fun e => by cases e; omega)).trans h3.heap⟩⟩
  · exact absurd (k18.symm.trans hs) (by simp)
theorem pF_move (hC : Ups wS w bm) (hx13 : (pF t1 t2 t3 t4 wS bm c' bl' M M' did).X 13 β w) {x : Value} (hx : x = β t1)
    (k15 : stF t1 t2 t3 t4 wS bm c' bl' M M' did ops 14 15) (k18 : stF t1 t2 t3 t4 wS bm c' bl' M M' did ops 14 18) (h1 : t1 ≠ t2) (h4 : t4 ≠ t2) :
    sUpon (pF t1 t2 t3 t4 wS bm c' bl' M M' did) Try.prog .any ops 14 (some t2) β w (.ok (.value x) w) := by
  subst hx
  obtain ⟨u, e1, e2, e3, e4⟩ := hx13
  refine ⟨⟨u, by simp [bset, e1], e2, e3, e4⟩, hC, fun j hj hne hs hx => ?_, fun _ _ h => h⟩
  simp only [List.mem_cons, List.not_mem_nil, or_false] at hj
  rcases hj with rfl | rfl | rfl | rfl | rfl
  · obtain ⟨u, f1, f2⟩ := hx; exact ⟨u, by simp only [bset, if_neg h1]; exact f1, f2⟩
  · exact absurd rfl hne
  · exact absurd (k15.symm.trans hs) (by simp)
  · obtain ⟨b, f1, f2⟩ := hx; exact ⟨b, by simp only [bset, if_neg h4]; exact f1, f2⟩
  · exact absurd (k18.symm.trans hs) (by simp)
theorem pF_ext {u : Value} (hC : Ups wS w bm) (e2 : BufOk w u bl') (e3 : Row59 w u) (e4 : MemAt w bm M')
    (k18 : stF t1 t2 t3 t4 wS bm c' bl' M M' did ops 15 18) (h1 : t1 ≠ t3) (h2 : t2 ≠ t3) (h4 : t4 ≠ t3) :
    sUpon (pF t1 t2 t3 t4 wS bm c' bl' M M' did) Try.prog .any ops 15 (some t3) β w (.ok (.value (.agg { c' with buf := u }.cells)) w) := by
  refine ⟨⟨u, by simp [bset], e2, e3, e4⟩, hC, fun j hj hne hs hx => ?_, fun _ _ h => h⟩
  simp only [List.mem_cons, List.not_mem_nil, or_false] at hj
  rcases hj with rfl | rfl | rfl | rfl | rfl
  · obtain ⟨u, f1, f2⟩ := hx; exact ⟨u, by simp only [bset, if_neg h1]; exact f1, f2⟩
  · obtain ⟨u, f1, f2⟩ := hx; exact ⟨u, by simp only [bset, if_neg h2]; exact f1, f2⟩
  · exact absurd rfl hne
  · obtain ⟨b, f1, f2⟩ := hx; exact ⟨b, by simp only [bset, if_neg h4]; exact f1, f2⟩
  · exact absurd (k18.symm.trans hs) (by simp)
theorem run_zero_core (w : World) : (zeroValue 27).run Try.prog w = .ok (.agg Cr.zero.cells) w := by kernel_rfl
theorem run_alloc_core {o : Oper} {a : Act} (w : World) (ho : o.op = .alloc 27) : (execOp a.eval o).run Try.prog w = .ok (.value (.pointer (some ⟨w.heap.size, 0, none⟩))) (w.alloc (.cells Cr.zero.cells 27)) := by
  unfold execOp
  simp only [ho, Instr.alloc, newVar, Sem.run_bind, Sem.run_pure, Result.andThen_ok, run_zero_core, Value.cells]
  rfl
theorem pF_alloc {o : Oper} {a : Act} (ho : o.op = .alloc 27) (hC : Ups wS w bm) (k18 : stF t1 t2 t3 t4 wS bm c' bl' M M' did ops 17 18) (h1 : t1 ≠ t4) (h2 : t2 ≠ t4) (h3 : t3 ≠ t4) :
    sUpon (pF t1 t2 t3 t4 wS bm c' bl' M M' did) Try.prog .any ops 17 (some t4) β w ((execOp a.eval o).run Try.prog w) := by
  rw [run_alloc_core w ho]
  have hb : Below w.heap.size w (w.alloc (.cells Cr.zero.cells 27)) := (Below.refl _ _).alloc (Nat.le_refl _) _
  refine ⟨⟨w.heap.size, by simp [bset], hC.size, CrAt.new w Cr.zero⟩, pF_C hC hb, fun j hj hne hs hx => ?_, fun _ _ h => h.over hb⟩
  simp only [List.mem_cons, List.not_mem_nil, or_false] at hj
  rcases hj with rfl | rfl | rfl | rfl | rfl
  · obtain ⟨u, f1, f2, f3, f4⟩ := hx; exact ⟨u, by simp only [bset, if_neg h1]; exact f1, f2.over hb, f3.over hb, f4.over hb⟩
  · obtain ⟨u, f1, f2, f3, f4⟩ := hx; exact ⟨u, by simp only [bset, if_neg h2]; exact f1, f2.over hb, f3.over hb, f4.over hb⟩
  · obtain ⟨u, f1, f2, f3, f4⟩ := hx; exact ⟨u, by simp only [bset, if_neg h3]; exact f1, f2.over hb, f3.over hb, f4.over hb⟩
  · exact absurd rfl hne
  · exact absurd (k18.symm.trans hs) (by simp)
theorem pF_store {o : Oper} {a : Act} (hC : Ups wS w bm) (h15 : (pF t1 t2 t3 t4 wS bm c' bl' M M' did).X 15 β w) (h17 : (pF t1 t2 t3 t4 wS bm c' bl' M M' did).X 17 β w) (hbm : bm < wS.heap.size)
    (ho : o.op = .store 27 (.tmp t4) (.tmp t3)) (hx : a.eval (.tmp t4) = β t4) (hy : a.eval (.tmp t3) = β t3)
    (k13 : stF t1 t2 t3 t4 wS bm c' bl' M M' did ops 18 13) (k15 : stF t1 t2 t3 t4 wS bm c' bl' M M' did ops 18 15) (k17 : stF t1 t2 t3 t4 wS bm c' bl' M M' did ops 18 17) (kw : Region.waitsFor .any ops 18 13 = true) :
    sUpon (pF t1 t2 t3 t4 wS bm c' bl' M M' did) Try.prog .any ops 18 none β w ((execOp a.eval o).run Try.prog w) := by
  obtain ⟨u, e1, e2, e3, e4⟩ := h15
  obtain ⟨b, f1, f2, f3⟩ := h17
  have hne3 := e3.ne f3.heap (by decide)
  have e2' := e2
  obtain ⟨ad, cap, hu, hnil, hst⟩ := e2
  have hrun : (execOp a.eval o).run Try.prog w = .ok .skip (w.setRow b { c' with buf := u }.cells) := by
    unfold execOp
    simp only [ho, hx, hy, e1, f1, Instr.storeAt, Instr.sureAddr, Sem.run_bind, Sem.run_pure, Result.andThen_ok, run_storeVar_row (P := Try.prog) w b 27 27 Cr.zero.cells { c' with buf := u }.cells f3.heap (by rw [core_size]; kernel_rfl) (by rw [core_size, core_size]) (core_one (c := { c' with buf := u }) hu)]
  rw [hrun]
  have hoth : ∀ k, k ≠ b → (w.setRow b { c' with buf := u }.cells).heap[k]? = w.heap[k]? := fun k hk => setRow_other w b k _ hk
  have hup : Ups wS (w.setRow b { c' with buf := u }.cells) bm := by
    obtain ⟨g1, g2, g3, g4, g5⟩ := hC
    exact ⟨g1, g2, g3, by simpa [World.setRow] using g4, fun k hk hne => (hoth k (by omega)).trans (g5 k hk hne)⟩
  refine ⟨⟨b, f1, f2, u, ⟨setRow_heap w b _ _ _ _ f3.heap⟩, e2'.same (fun k _ hk => hoth k hk) (by simp [World.setRow]) hne3, e3.same fun ad n cap e => hoth _ (hne3 ad n cap e), ⟨(hoth bm (by omega)).trans e4.heap⟩⟩, hup, fun j hj hne hs hx => ?_, fun _ h => (by rw [kw] at h; cases h)⟩
  simp only [List.mem_cons, List.not_mem_nil, or_false] at hj
  rcases hj with rfl | rfl | rfl | rfl | rfl
  · exact absurd (k13.symm.trans hs) (by simp)
  · obtain ⟨u2, g1, g2, g3, g4⟩ := hx
    have hne2 := g3.ne f3.heap (by decide)
    exact ⟨u2, g1, g2.same (fun k _ hk => hoth k hk) (by simp [World.setRow]) hne2, g3.same fun ad n cap e => hoth _ (hne2 ad n cap e), ⟨(hoth bm (by omega)).trans g4.heap⟩⟩
  · exact absurd (k15.symm.trans hs) (by simp)
  · exact absurd (k17.symm.trans hs) (by simp)
  · exact absurd rfl hne
end
end Go.Proofs.Ytckcdpmfmfpmmaa
