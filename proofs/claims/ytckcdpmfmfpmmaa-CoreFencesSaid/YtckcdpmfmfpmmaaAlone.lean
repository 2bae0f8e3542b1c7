/-
  seisinlaw30.alone: one step of a core that is connected to a memory.
-/
import Derived.Test.YtckcdpmfmfpmmaaBackN
import Derived.Test.YtckcdpmfmfpmmaaPtrS
namespace Go.Proofs.Ytckcdpmfmfpmmaa
open Go.RowKit

/-! The step, as a function. -/
def memQ (M : Nat → Int) (q : Rq) : Nat → Int := updR M (locI q) (newM (M (locI q)) q)
def aDrn (c : Cr) (bl : List (Nat × Nat)) (l : List In) (most : Int) (d : Bool) : Bool := drnIs c bl && (d || (nextV c l bl most == 4))
/-- What one step makes of a core, its buffer and the memory; none: no step. -/
def stepA (l : List In) (most : Int) (d : Bool) (c : Cr) (bl : List (Nat × Nat)) (M : Nat → Int) : Option (Cr × List (Nat × Nat) × (Nat → Int)) :=
  if aDrn c bl l most d then some (bckC { c with dr := true } l (M (locI (drnQ c bl))), bckBl { c with dr := true } bl, memQ M (drnQ c bl))
  else if nextV c l bl most = 2 then some (locC c l bl most, locB c l bl most, M)
  else if nextV c l bl most = 3 then some (bckC { c with wt := true } l (M (locI (askQ c l))), bckBl { c with wt := true } bl, memQ M (askQ c l))
  else none
/-- A core is handed back by alone. -/
def APost (w : World) (bm : Nat) (c : Cr) (bl : List (Nat × Nat)) (M : Nat → Int) (e : Ending) (w' : World) : Prop :=
  ∃ v, e = .returned (.tuple #[.agg { c with buf := v }.cells, .bool true]) ∧ BufOk w' v bl ∧ Row59 w' v ∧ MemAt w' bm M ∧ Ups w w' bm
def ANone (w : World) (bm : Nat) (c : Cr) (M : Nat → Int) (e : Ending) (w' : World) : Prop := e = .returned (.tuple #[.agg c.cells, .bool false]) ∧ MemAt w' bm M ∧ Ups w w' bm
def AP (w : World) (bm : Nat) (l : List In) (most : Int) (d : Bool) (c : Cr) (bl : List (Nat × Nat)) (M : Nat → Int) (e : Ending) (w' : World) : Prop :=
  match stepA l most d c bl M with
  | some (c', bl', M') => APost w bm c' bl' M' e w'
  | none => ANone w bm c M e w'
/-- The numbers of a buffer. -/
def BlOk (bl : List (Nat × Nat)) : Prop := ∀ p ∈ bl, p.1 ≤ 255 ∧ p.2 ≤ 255
theorem drnQ_ok {c : Cr} {bl : List (Nat × Nat)} (h : BlOk bl) : QOk (drnQ c bl) := by
  unfold drnQ
  split
  · have : ((bl.headD (0, 0)).1 ≤ 255 ∧ (bl.headD (0, 0)).2 ≤ 255) := by
      cases bl with
      | nil => simp
      | cons p bl => exact h p List.mem_cons_self
    exact ⟨⟨by show (0 : Int) ≤ 2; decide, by show (2 : Int) ≤ 255; decide⟩, ⟨Int.natCast_nonneg _, by show ((bl.headD (0, 0)).1 : Int) ≤ 255; omega⟩, ⟨Int.natCast_nonneg _, by show ((bl.headD (0, 0)).2 : Int) ≤ 255; omega⟩, ⟨Int.le_refl 0, by show (0 : Int) ≤ 255; decide⟩⟩
  · exact ⟨⟨Int.le_refl 0, by show (0 : Int) ≤ 255; decide⟩, ⟨Int.le_refl 0, by show (0 : Int) ≤ 255; decide⟩, ⟨Int.le_refl 0, by show (0 : Int) ≤ 255; decide⟩, ⟨Int.le_refl 0, by show (0 : Int) ≤ 255; decide⟩⟩
theorem argV_ok {c : Cr} {reg : Bool} {n : Int} (h : RgOk c) (hn : 0 ≤ n ∧ n ≤ 255) : 0 ≤ argV c reg n ∧ argV c reg n ≤ 255 := by
  unfold argV
  split
  · split
    · exact ⟨h.r0 _, h.r1 _⟩
    · omega
  · exact hn
theorem askQ_ok {c : Cr} {l : List In} (hx : ∀ x ∈ l, XOk x) (hr : RgOk c) : QOk (askQ c l) := by
  have hX := xOf_ok (c := c) hx
  have ha : 0 ≤ aOf c l ∧ aOf c l ≤ 255 := argV_ok hr hX.an
  have hb : 0 ≤ bOf c l ∧ bOf c l ≤ 255 := argV_ok hr hX.bn
  have h0 : (0 : Int) ≤ 0 ∧ (0 : Int) ≤ 255 := by decide
  unfold askQ
  repeat' split
  · exact ⟨hX.op, hX.loc, h0, h0⟩
  · exact ⟨hX.op, hX.loc, ha, h0⟩
  · exact ⟨hX.op, hX.loc, ha, hb⟩
  · exact ⟨h0, h0, h0, h0⟩

/-- The facts at the entry. -/
structure AIn (w : World) (bm : Nat) (c : Cr) (bl : List (Nat × Nat)) (v : Value) (l : List In) (M : Nat → Int) : Prop where
  cin : CIn w c bl v l
  mem : MemAt w bm M
  mok : MOk M
  bok : BlOk bl
  sep : ∀ ad n cap, v = .slice (some ad) n cap → ad.block ≠ bm
  row : Row59 w c.buf
  wt : c.wt = false
  dr : c.dr = false

theorem CIn.ups {w w' : World} {bm : Nat} {c : Cr} {bl : List (Nat × Nat)} {v : Value} {l : List In} (h : CIn w c bl v l) (hu : Ups w w' bm) (h1 : ∀ ad n cap, v = .slice (some ad) n cap → ad.block ≠ bm) (h2 : ∀ ad n cap, c.buf = .slice (some ad) n cap → ad.block ≠ bm) : CIn w' c bl v l := by
  obtain ⟨⟨pc0, pc1, ⟨ab, cab, hb, hn, hs⟩, len⟩, ⟨⟨ad, cap, hv, hi⟩, il, ix⟩, hx, hr⟩ := h
  refine ⟨⟨pc0, pc1, ⟨ab, cab, hb, hn, fun j p hp => ?_⟩, len⟩, ⟨⟨ad, cap, hv, fun j x hj => ?_⟩, il, ix⟩, hx, hr⟩
  · obtain ⟨g, off, e, hlt, c1, c2⟩ := hs j p hp
    have hne := h2 _ _ _ (by rw [hb, e])
    have hh := hu.block g hlt (fun e => hne (by cases e; rfl))
    exact ⟨g, off, e, Nat.lt_of_lt_of_le hlt hu.size, (World.cell?_of_block (a := ⟨g, _, none⟩) hh).trans c1, (World.cell?_of_block (a := ⟨g, _, none⟩) hh).trans c2⟩
  · obtain ⟨g, off, e, hlt, hc⟩ := hi j x hj
    have hne := h1 _ _ _ (by rw [hv, e])
    have hh := hu.block g hlt (fun e => hne (by cases e; rfl))
    exact ⟨g, off, e, Nat.lt_of_lt_of_le hlt hu.size, fun i u hiu => (World.cell?_of_block (a := ⟨g, _, none⟩) hh).trans (hc i u hiu)⟩
theorem CIn.dr {w : World} {c : Cr} {bl : List (Nat × Nat)} {v : Value} {l : List In} (h : CIn w c bl v l) (b : Bool) : CIn w { c with dr := b } bl v l := ⟨⟨h.core.pc0, h.core.pc1, h.core.buf, h.core.len⟩, h.ins, h.x, ⟨h.r.r0, h.r.r1⟩⟩
theorem CIn.wt {w : World} {c : Cr} {bl : List (Nat × Nat)} {v : Value} {l : List In} (h : CIn w c bl v l) (b : Bool) : CIn w { c with wt := b } bl v l := ⟨⟨h.core.pc0, h.core.pc1, h.core.buf, h.core.len⟩, h.ins, h.x, ⟨h.r.r0, h.r.r1⟩⟩
theorem CrAt.setDr {w : World} {b : Nat} {c : Cr} (h : CrAt w b c) (v : Bool) : CrAt (w.setCell ⟨b, 11, none⟩ (.bool v)) b { c with dr := v } := by
  constructor
  rw [setCell_eq_setRow w b _ _ _ _ _ h.heap]
  exact setRow_heap w b _ _ _ _ h.heap
theorem CrAt.setWt {w : World} {b : Nat} {c : Cr} (h : CrAt w b c) (v : Bool) : CrAt (w.setCell ⟨b, 10, none⟩ (.bool v)) b { c with wt := v } := by
  constructor
  rw [setCell_eq_setRow w b _ _ _ _ _ h.heap]
  exact setRow_heap w b _ _ _ _ h.heap
theorem BufOk.same {w w' : World} {v : Value} {bl : List (Nat × Nat)} {b : Nat} (h : BufOk w v bl) (hh : ∀ k, k < w.heap.size → k ≠ b → w'.heap[k]? = w.heap[k]?) (hs : w.heap.size ≤ w'.heap.size) (hb : ∀ ad n cap, v = .slice (some ad) n cap → ad.block ≠ b) : BufOk w' v bl := by
  obtain ⟨ad, cap, hv, hn, hst⟩ := h
  refine ⟨ad, cap, hv, hn, fun j p hp => ?_⟩
  obtain ⟨g, off, e, hlt, c1, c2⟩ := hst j p hp
  have hne := hb _ _ _ (by rw [hv, e])
  have hk := hh g hlt hne
  exact ⟨g, off, e, Nat.lt_of_lt_of_le hlt hs, (World.cell?_of_block (a := ⟨g, _, none⟩) hk).trans c1, (World.cell?_of_block (a := ⟨g, _, none⟩) hk).trans c2⟩
theorem ret_core2 {fn : Func} {p q : Tmp} {R : Ending → World → Prop} {a : Act} {w : World} {b : Nat} {c : Cr} {v : Value} (hf : fn.results = #[.cell p 27, .tmp q]) (hp : a.tmps.getD p undef = .pointer (some ⟨b, 0, none⟩)) (hR : CrAt w b c)
    (hq : a.tmps.getD q undef = v) (hd : a.defers = []) (h : R (.returned (.tuple #[.agg c.cells, v])) w) : bodyPost Try.prog fn R .ret a w := by
  refine bodyPost_ret ?_ hd h
  have hp' : a.tmps[p]?.getD undef = .pointer (some ⟨b, 0, none⟩) := by simpa using hp
  have hq' : a.tmps[q]?.getD undef = v := by simpa using hq
  simp [results, hf, hp', hq', asAddr, hR.load]

/-- What holds while the operation is carried out: w0 is the world at the entry. -/
structure AC (w0 : World) (bm b7 b10 b13 : Nat) (c : Cr) (q : Rq) (w : World) : Prop where
  up : Ups w0 w bm
  cr : CrAt w b7 c
  rq : RqAt w b13 q
  rz : ∃ d, CrAt w b10 d
/-- The plan. -/
@[reducible] def pA (s1 s2 : Tmp) (w0 : World) (bm b7 b10 b13 : Nat) (c c' : Cr) (bl' : List (Nat × Nat)) (q : Rq) (M : Nat → Int) : Pl where
  T := [s1, s2]
  S := [4, 5, 6]
  U := fun i => match i with | 5 => [4] | 6 => [5] | _ => []
  E := [4, 6]
  C := AC w0 bm b7 b10 b13 c q
  X := fun i β w => match i with
    | 4 => β s1 = .agg (prfQ q (M (locI q)) (newM (M (locI q)) q)) ∧ MemAt w bm (memQ M q)
    | 5 => ∃ u, β s2 = .agg { c' with buf := u }.cells ∧ BufOk w u bl' ∧ Row59 w u
    | 6 => ∃ u, CrAt w b10 { c' with buf := u } ∧ BufOk w u bl' ∧ Row59 w u
    | _ => True
  z := 4
  Z := fun w => MemAt w bm M
section
variable {s1 s2 : Tmp} {w0 : World} {bm b7 b10 b13 : Nat} {c c' : Cr} {bl bl' : List (Nat × Nat)} {q : Rq} {M : Nat → Int} {v : Value} {l : List In} {w w' : World}
theorem AC.over (h : AC w0 bm b7 b10 b13 c q w) (hb : Below w.heap.size w w') : AC w0 bm b7 b10 b13 c q w' :=
  ⟨h.up.trans (Ups.of bm hb), h.cr.over hb, h.rq.over hb, let ⟨d, hd⟩ := h.rz; ⟨d, hd.over hb⟩⟩
theorem pA_X : ∀ i β w w', (pA s1 s2 w0 bm b7 b10 b13 c c' bl' q M).X i β w → Below w.heap.size w w' → (pA s1 s2 w0 bm b7 b10 b13 c c' bl' q M).X i β w' := by
  intro i β w w' h hb
  match i with
  | 4 => exact ⟨h.1, h.2.over hb⟩
  | 5 => obtain ⟨u, h1, h2, h3⟩ := h; exact ⟨u, h1, h2.over hb, h3.over hb⟩
  | 6 => obtain ⟨u, h1, h2, h3⟩ := h; exact ⟨u, h1.over hb, h2.over hb, h3.over hb⟩
  | 0 | 1 | 2 | 3 => trivial
  | n + 7 => trivial
theorem pA_done {ops : Array Oper} {β : Tmp → Value} (hM : MOk M) (hq : QOk q) (hC : AC w0 bm b7 b10 b13 c q w) (hz : MemAt w bm M) (h7 : b7 ≠ bm) (h10 : b10 ≠ bm) (h13 : b13 ≠ bm)
    (k5 : stay (pA s1 s2 w0 bm b7 b10 b13 c c' bl' q M).E (pA s1 s2 w0 bm b7 b10 b13 c c' bl' q M).U .any ops 4 5 = false) (k6 : stay (pA s1 s2 w0 bm b7 b10 b13 c c' bl' q M).E (pA s1 s2 w0 bm b7 b10 b13 c c' bl' q M).U .any ops 4 6 = false) :
    sUpon (pA s1 s2 w0 bm b7 b10 b13 c c' bl' q M) Try.prog .any ops 4 (some s1) β w (.ok (.enter 36 #[.pointer (some ⟨bm, 0, none⟩), .agg q.cells]) w) := by
  refine ⟨rfl, (c_done M q hM hq bm w hz).mono fun e w'' h => ?_⟩
  obtain ⟨rfl, hm, hu⟩ := h
  refine ⟨_, rfl, ⟨by simp [bset], hm⟩, ⟨hC.up.trans hu, ⟨(hu.block b7 hC.cr.lt (fun e => h7 (by cases e; rfl))).trans hC.cr.heap⟩, ⟨(hu.block b13 hC.rq.lt (fun e => h13 (by cases e; rfl))).trans hC.rq.heap⟩, ?_⟩, fun j hj hne hst hx => ?_, fun h => absurd rfl h⟩
  · obtain ⟨d, hd⟩ := hC.rz
    exact ⟨d, ⟨(hu.block b10 hd.lt (fun e => h10 (by cases e; rfl))).trans hd.heap⟩⟩
  · simp only [List.mem_cons, List.not_mem_nil, or_false] at hj
    rcases hj with rfl | rfl | rfl
    · exact absurd rfl hne
    · rw [k5] at hst; cases hst
    · rw [k6] at hst; cases hst
theorem pA_back {ops : Array Oper} {β : Tmp → Value} (hss : s1 ≠ s2) (hin : CIn w c bl v l) (hC : AC w0 bm b7 b10 b13 c q w) (hc' : c' = bckC c l (M (locI q))) (hbl : bl' = bckBl c bl)
    (k6 : stay (pA s1 s2 w0 bm b7 b10 b13 c c' bl' q M).E (pA s1 s2 w0 bm b7 b10 b13 c c' bl' q M).U .any ops 5 6 = false) (kw : Region.waitsFor .any ops 5 4 = true) :
    sUpon (pA s1 s2 w0 bm b7 b10 b13 c c' bl' q M) Try.prog .any ops 5 (some s2) β w (.ok (.enter 35 #[v, .agg c.cells, .agg (prfQ q (M (locI q)) (newM (M (locI q)) q))]) w) := by
  refine ⟨rfl, (c_BackN _ _ _ _ _ _ _ hin).mono fun e w'' h => ?_⟩
  obtain ⟨u, rfl, hb, hbe, _, hn⟩ := h
  refine ⟨_, rfl, ⟨u, by simp [bset, hc'], by rw [hbl]; exact hb, hn⟩, hC.over hbe, fun j hj hne hst hx => ?_, fun _ h => (by rw [kw] at h; cases h)⟩
  simp only [List.mem_cons, List.not_mem_nil, or_false] at hj
  rcases hj with rfl | rfl | rfl
  · exact ⟨by simp only [bset, if_neg hss]; exact hx.1, hx.2.over hbe⟩
  · exact absurd rfl hne
  · rw [k6] at hst; cases hst
theorem pA_store {ops : Array Oper} {a : Act} {o : Oper} {β : Tmp → Value} (hC : AC w0 bm b7 b10 b13 c q w) (hg : (pA s1 s2 w0 bm b7 b10 b13 c c' bl' q M).X 5 β w) (h7 : b7 ≠ b10) (h13 : b13 ≠ b10) (hm : bm ≠ b10) (hge : w0.heap.size ≤ b10)
    (ho : o.op = .store 27 (.tmp 10) (.tmp s2)) (hx : a.eval (.tmp 10) = .pointer (some ⟨b10, 0, none⟩)) (hy : a.eval (.tmp s2) = β s2)
    (k5 : stay (pA s1 s2 w0 bm b7 b10 b13 c c' bl' q M).E (pA s1 s2 w0 bm b7 b10 b13 c c' bl' q M).U .any ops 6 5 = false) (kw : Region.waitsFor .any ops 6 4 = true) :
    sUpon (pA s1 s2 w0 bm b7 b10 b13 c c' bl' q M) Try.prog .any ops 6 none β w ((execOp a.eval o).run Try.prog w) := by
  obtain ⟨u, e1, e2, e3⟩ := hg
  obtain ⟨d, hd⟩ := hC.rz
  obtain ⟨ad, cap, hu, hnil, hst⟩ := e2
  have hrun : (execOp a.eval o).run Try.prog w = .ok .skip (w.setRow b10 { c' with buf := u }.cells) := by
    unfold execOp
    simp only [ho, hx, hy, e1, Instr.storeAt, Instr.sureAddr, Sem.run_bind, Sem.run_pure, Result.andThen_ok, run_storeVar_row (P := Try.prog) w b10 27 27 d.cells { c' with buf := u }.cells hd.heap (by rw [core_size]; kernel_rfl) (by rw [core_size, core_size]) (core_one (c := { c' with buf := u }) hu)]
  rw [hrun]
  have hne3 := e3.ne hd.heap (by decide)
  have hoth : ∀ k, k ≠ b10 → (w.setRow b10 { c' with buf := u }.cells).heap[k]? = w.heap[k]? := fun k hk => setRow_other w b10 k _ hk
  have hup : Ups w0 (w.setRow b10 { c' with buf := u }.cells) bm := by
    obtain ⟨g1, g2, g3, g4, g5⟩ := hC.up
    exact ⟨g1, g2, g3, by simpa [World.setRow] using g4, fun k hk hne => (hoth k (by omega)).trans (g5 k hk hne)⟩
  refine ⟨⟨u, ⟨setRow_heap w b10 _ _ _ _ hd.heap⟩, BufOk.same ⟨ad, cap, hu, hnil, hst⟩ (fun k _ hk => hoth k hk) (by simp [World.setRow]) hne3, e3.same fun ad n cap e => hoth _ (hne3 ad n cap e)⟩, ⟨hup, ⟨(hoth b7 h7).trans hC.cr.heap⟩, ⟨(hoth b13 h13).trans hC.rq.heap⟩, ⟨_, ⟨setRow_heap w b10 _ _ _ _ hd.heap⟩⟩⟩, fun j hj hne hst hx => ?_, fun _ h => (by rw [kw] at h; cases h)⟩
  · simp only [List.mem_cons, List.not_mem_nil, or_false] at hj
    rcases hj with rfl | rfl | rfl
    · exact ⟨hx.1, ⟨(hoth bm hm).trans hx.2.heap⟩⟩
    · rw [k5] at hst; cases hst
    · exact absurd rfl hne
end
theorem cs_load_part {P : Program} {p : Pl} {k : Nat} {E : List Tmp} {o : Oper} {a : Act} {K : Act → Prop} {b off : Nat} {part : Array Value} (ty : TypeId) (x : Operand) (ho : o.op = .load ty x) (hx : ∀ β, (ovl a β E).eval x = .pointer (some ⟨b, off, none⟩))
    (hl : ∀ w, p.C w → (loadVar ty ⟨b, off, none⟩).run P w = .ok (.agg part) w) (h : K (a.put o.dst (.agg part))) : CalmS p P k E o a K := by
  refine CalmS.of ⟨.agg part, fun β w hC _ => ?_, h⟩
  unfold Oper.quietAt execOp
  simp only [ho, hx β, Instr.loadAt, Instr.sureAddr, Sem.run_bind, Sem.run_pure, Result.andThen_ok, hl w hC, Oper.quietUpon, and_self]
theorem RqAt.load55 {w : World} {b : Nat} {q : Rq} (h : RqAt w b q) : (loadVar 55 ⟨b, 0, none⟩).run Try.prog w = .ok (.agg q.cells) w := h.load

theorem boxA (w : World) (rs : Array Value) (c : Cr) : BlkAt (((w.alloc (.cells rs 35)).alloc (.cells c.cells 27)).alloc (.cells Cr.zero.cells 27)) w.heap.size rs 35 ∧ CrAt (((w.alloc (.cells rs 35)).alloc (.cells c.cells 27)).alloc (.cells Cr.zero.cells 27)) (w.heap.size + 1) c ∧
    CrAt (((w.alloc (.cells rs 35)).alloc (.cells c.cells 27)).alloc (.cells Cr.zero.cells 27)) (w.heap.size + 1 + 1) Cr.zero ∧ Below w.heap.size w (((w.alloc (.cells rs 35)).alloc (.cells c.cells 27)).alloc (.cells Cr.zero.cells 27)) := by
  have hb1 := (Below.refl w.heap.size w).alloc (Nat.le_refl _) (.cells rs 35)
  have hb2 := hb1.alloc (by simp) (.cells c.cells 27)
  have hb3 := hb2.alloc (by simp; omega) (.cells Cr.zero.cells 27)
  refine ⟨?_, ?_, ?_, hb3⟩
  · exact ((BlkAt.new w rs 35).over ((Below.refl _ _).alloc (Nat.le_refl _) _)).over ((Below.refl _ _).alloc (Nat.le_refl _) _)
  · have := CrAt.new (w.alloc (.cells rs 35)) c
    rw [World.size_alloc] at this
    exact this.over ((Below.refl _ _).alloc (Nat.le_refl _) _)
  · have := CrAt.new ((w.alloc (.cells rs 35)).alloc (.cells c.cells 27)) Cr.zero
    rwa [World.size_alloc, World.size_alloc] at this
theorem WpV.gen {Y : Nat → Oper → Value → Act → Prop} {Fin : Act → Prop} {k : Nat} {l : List Oper} {a : Act} (h : ∀ F : Act → Prop, (∀ a, Fin a → F a) → WpV Y F k l a) : WpV Y Fin k l a := h Fin fun _ h => h
theorem AC.cls {w0 : World} {bm b7 b10 b13 : Nat} {c : Cr} {q : Rq} {w : World} (h : AC w0 bm b7 b10 b13 c q w) : Cls { w0 with heap := #[] } w :=
  ⟨h.up.os, h.up.tape, h.up.output, Nat.zero_le _, fun k hk => absurd hk (Nat.not_lt_zero k)⟩
theorem NewV.mono {N M : Nat} {v : Value} (h : NewV N v) (hm : M ≤ N) : NewV M v := fun ad n cap e => Nat.le_trans hm (h ad n cap e)
theorem alone_endL {w w8 : World} {bm b10 : Nat} {c' : Cr} {bl' : List (Nat × Nat)} {M : Nat → Int} {u : Value} (hb : Below w.heap.size w w8) (hbu : BufOk w8 u bl') (hn : Row59 w8 u) (hne : ∀ ad n cap, u = .slice (some ad) n cap → ad.block ≠ b10) (hm : MemAt w8 bm M) (hmb : bm ≠ b10) (hge : w.heap.size ≤ b10) :
    APost w bm c' bl' M (.returned (.tuple #[.agg { c' with buf := u }.cells, .bool true])) (w8.setRow b10 { c' with buf := u }.cells) :=
  ⟨u, rfl, hbu.same (fun k _ hk => setRow_other w8 b10 k _ hk) (by simp [World.setRow]) hne, hn.same (fun ad n cap e => setRow_other w8 b10 _ _ (hne ad n cap e)), ⟨(setRow_other w8 b10 bm _ hmb).trans hm.heap⟩, Ups.of bm (Below.setRow' hb hge)⟩

set_option maxRecDepth 8000 in
set_option maxHeartbeats 4000000 in
theorem c_alone {c : Cr} {bl : List (Nat × Nat)} {v : Value} {l : List In} {M : Nat → Int} {bm : Nat} (r1 r2 r3 most : Int) (ev d : Bool) (w : World) (h : AIn w bm c bl v l M) :
    Calls Try.prog 22 #[v, .agg (rls r1 r2 r3 most ev), .agg c.cells, .pointer (some ⟨bm, 0, none⟩), .bool d] w fun e w' => AP w bm l most d c bl M e w' := by
  obtain ⟨hR, hC, hZ, hB⟩ := boxA w (rls r1 r2 r3 most ev) c
  have HR := Lib.hid hR
  have HC := Lib.hid hC
  have HZ := Lib.hid hZ
  have HB := Lib.hid hB
  have HIn := Lib.hid h.cin
  have HMem := Lib.hid h.mem
  have HMo := Lib.hid h.mok
  have HSep := Lib.hid h.sep
  have HBSep := Lib.hid (h.row.ne h.mem.heap (by decide))
  have hbm := h.mem.lt
  have HWt := Lib.hid h.wt
  have HDr := Lib.hid h.dr
  have HBl := Lib.hid h.bok
  have HAq := Lib.hid (askQ_ok (c := c) h.cin.x h.cin.r)
  obtain ⟨n, hn⟩ : ∃ n, nextV c l bl most = n := ⟨_, rfl⟩
  have HN := Lib.hid hn
  have HCN := Lib.hid (show ∀ w', CIn w' c bl v l → Calls Try.prog 15 #[v, .agg (rls r1 r2 r3 most ev), .agg c.cells] w' fun e w'' => e = .returned (.int .u8 n) ∧ Below w'.heap.size w' w'' from fun w' h => hn ▸ c_Next c bl _ l r1 r2 r3 most ev w' h.core h.ins)
  obtain ⟨q, hqe⟩ : ∃ q, drnQ c bl = q := ⟨_, rfl⟩
  obtain ⟨isv, hise⟩ : ∃ b, drnIs c bl = b := ⟨_, rfl⟩
  have HQE := Lib.hid hqe
  have HISE := Lib.hid hise
  have HCD := Lib.hid (show ∀ w', CIn w' c bl v l → Calls Try.prog 24 #[.agg c.cells] w' fun e w'' => e = .returned (.tuple #[.agg q.cells, .bool isv]) ∧ Below w'.heap.size w' w'' from fun w' h => by rw [← hqe, ← hise]; exact c_Drain c bl w' h.core)
  rw [show Cr.zero.cells = #[.int .u8 0, .int .u8 0, .int .u8 0, .int .u8 0, .int .u8 0, .int .u8 0, .int .u8 0, .int .u8 0, .int .u8 0, .slice none 0 0, .bool false, .bool false] from rfl] at *
  clear hR hC hZ hB h hn hqe hise
  go_enter Try.func22, Try.ntmps22
  go_upto_region 1 with (fail)
  generalize ((w.alloc (.cells (rls r1 r2 r3 most ev) 35)).alloc (.cells c.cells 27)).alloc (.cells #[.int .u8 0, .int .u8 0, .int .u8 0, .int .u8 0, .int .u8 0, .int .u8 0, .int .u8 0, .int .u8 0, .int .u8 0, .slice none 0 0, .bool false, .bool false] 27) = w1 at *
  obtain ⟨b10, hb10⟩ : ∃ b, w.heap.size + 1 + 1 = b := ⟨_, rfl⟩
  obtain ⟨b7, hb7⟩ : ∃ b, w.heap.size + 1 = b := ⟨_, rfl⟩
  obtain ⟨b6, hb6⟩ : ∃ b, w.heap.size = b := ⟨_, rfl⟩
  rw [hb10] at HZ ⊢
  rw [hb7] at HC ⊢
  rw [hb6] at HR ⊢
  have h7 : b7 ≠ b10 := by omega
  have h7m : b7 ≠ bm := by omega
  have h10m : b10 ≠ bm := by omega
  have h10g : w.heap.size ≤ b10 := by omega
  have h7g : w.heap.size ≤ b7 := by omega
  clear hb10 hb7 hb6
  go_upto_region 3 with (first
    | (refine wpList_load_part 35 _ rfl rfl (by rfl) (load35 HR.out) ?_)
    | (refine wpList_load_part 27 _ rfl rfl (by rfl) HC.out.load ?_)
    | (go_at_call 15; (with_reducible refine (HCN.out _ (HIn.out.over HB.out)).mono ?_); rintro e w2 ⟨rfl, hb⟩; have HR2 := Lib.hid (HR.out.over hb); have HC2 := Lib.hid (HC.out.over hb); have HZ2 := Lib.hid (HZ.out.over hb); have HB2 := Lib.hid (Below.chain HB.out hb); clear hb HR HC HZ HB; have HR := HR2; have HC := HC2; have HZ := HZ2; have HB := HB2; clear HR2 HC2 HZ2 HB2)
    | (go_at_call 24; (with_reducible refine (HCD.out _ (HIn.out.over HB.out)).mono ?_); rintro e w3 ⟨rfl, hb⟩; have HR2 := Lib.hid (HR.out.over hb); have HC2 := Lib.hid (HC.out.over hb); have HZ2 := Lib.hid (HZ.out.over hb); have HB2 := Lib.hid (Below.chain HB.out hb); clear hb HR HC HZ HB; have HR := HR2; have HC := HC2; have HZ := HZ2; have HB := HB2; clear HR2 HC2 HZ2 HB2)
    | (refine wpList_store_new rfl _ _ rfl rfl rfl RqAt.size55 rfl (rq_one _) ?_))
  have hbn := (Below.refl w3.heap.size w3).alloc (Nat.le_refl _) (.cells q.cells 55)
  have HR2 := Lib.hid (HR.out.over hbn)
  have HC2 := Lib.hid (HC.out.over hbn)
  have HZ2 := Lib.hid (HZ.out.over hbn)
  have HB2 := Lib.hid (Below.chain HB.out hbn)
  have HQ2 := Lib.hid (RqAt.new w3 q)
  have h13 : w3.heap.size ≠ b10 := Nat.ne_of_gt HZ.out.lt
  have h137 : b7 ≠ w3.heap.size := Nat.ne_of_lt HC.out.lt
  have h10l : b10 < w3.heap.size + 1 := by have := HZ.out.lt; omega
  have h13g : w.heap.size ≤ w3.heap.size := HB.out.size
  clear HR HC HZ HB hbn
  generalize w3.alloc (.cells q.cells 55) = w4 at *
  generalize w3.heap.size = b13 at *
  have h13m : b13 ≠ bm := by omega
  obtain ⟨dv, hdv⟩ : ∃ b, aDrn c bl l most d = b := ⟨_, rfl⟩
  have HDV := Lib.hid hdv
  refine wp_forget [24, 25, 26, 27, 28, 29, 30] 31 (.bool dv) ?_ (fun β => ?_)
  · unfold aDrn at hdv
    rw [HISE.out, HN.out] at hdv
    cases isv with
    | false =>
      obtain rfl : dv = false := by rw [← hdv]; rfl
      clear hdv
      go_wp2
      refine Forgot.mk ?_; simp only [ovl]; go_simp
    | true =>
      cases d with
      | true =>
        obtain rfl : dv = true := by rw [← hdv]; rfl
        clear hdv
        go_wp2
        refine Forgot.mk ?_; simp only [ovl]; go_simp
      | false =>
        obtain rfl : dv = (n == 4) := by rw [← hdv]; simp
        clear hdv
        go_wp2
        refine Forgot.mk ?_; simp only [ovl]; go_simp
  simp only [ovl]
  go_simp
  clear hdv
  cases dv with
  | true =>
    have HQo := Lib.hid (HQE.out ▸ drnQ_ok (c := c) HBl.out : QOk q)
    obtain ⟨c1, hc1⟩ : ∃ x, ({ c with dr := true } : Cr) = x := ⟨_, rfl⟩
    obtain ⟨c2, hc2⟩ : ∃ x, bckC c1 l (M (locI q)) = x := ⟨_, rfl⟩
    obtain ⟨bl2, hbl2⟩ : ∃ x, bckBl c1 bl = x := ⟨_, rfl⟩
    have HST := Lib.hid (show stepA l most d c bl M = some (c2, bl2, memQ M q) by unfold stepA; rw [HDV.out, if_pos rfl, HQE.out, ← hc2, ← hbl2, ← hc1])
    have HC2E := Lib.hid hc2.symm
    have HBL2 := Lib.hid hbl2.symm
    have HIn1 := Lib.hid (show CIn w c1 bl v l from hc1 ▸ HIn.out.dr true)
    have HBS := Lib.hid (show ∀ ad n cap, c1.buf = .slice (some ad) n cap → ad.block ≠ bm from hc1 ▸ HBSep.out)
    have HCr1 := Lib.hid (show CrAt (w4.setCell ⟨b7, 11, none⟩ (.bool true)) b7 c1 from hc1 ▸ HC2.out.setDr true)
    clear hc1 hc2 hbl2
    have q11 := HC2.out.at_ 11
    have f11 := HC2.out.unfrozen 11
    rw [show c.cells[11]? = some (.bool c.dr) from rfl] at q11
    go_upto_region 5 with (fail)
    have hAC : AC w bm b7 b10 b13 c1 q (w4.setCell ⟨b7, 11, none⟩ (.bool true)) :=
      ⟨Ups.of bm (HB2.out.setCell (p := ⟨b7, 11, none⟩) h7g _), HCr1.out, HQ2.out.other (p := ⟨b7, 11, none⟩) h137.symm, _, ⟨(Below.heap_setCell w4 ⟨b7, 11, none⟩ _ b10 h7.symm).trans HZ2.out.heap⟩⟩
    have hMZ : MemAt (w4.setCell ⟨b7, 11, none⟩ (.bool true)) bm M := (HMem.out.over HB2.out).other h7m.symm
    have hcls := fun w' (h : AC w bm b7 b10 b13 c1 q w') => h.cls
    clear q11 f11
    generalize w4.setCell ⟨b7, 11, none⟩ (.bool true) = w5 at *
    (refine wp_region_s (pA 37 38 w bm b7 b10 b13 c1 c2 bl2 q M) (by kernel_rfl) (by kernel_rfl) (hAC.over (below_drewN (Below.refl _ _) 1)) (fun _ _ h hb => h.over hb) (pA_X) (hMZ.over (below_drewN (Below.refl _ _) 1)) (fun _ _ h hb => h.over hb) ?_; refine WpV.out ?_; refine WpV.gen (fun FF hFF => ?_); have HFF := Lib.hid hFF; clear hFF; (try go_simp); ((apply s_step (fun _ h => hcls _ h); (focus (dsimp only [pA]; decide +kernel)); intro K hK); go_simp; (first | (refine hK _ ?_; clear hK K) | (refine CalmB.of ?_; apply Exists.intro; refine ⟨fun wcalm hcalm => ?_, hK _ ?_⟩; (focus ((skip); go_simp; first | done | (fail) | rfl)); clear hK K))); (try go_simp); (apply s_stepL []; (focus (dsimp only [pA]; decide +kernel)); (focus rfl); (focus rfl); (focus rfl); intro K hK; refine cs_load_part 27 _ rfl (fun _ => rfl) (fun w hC => hC.cr.load) ?_; refine hK _ ?_; clear hK K); (try go_simp); ((apply s_step (fun _ h => hcls _ h); (focus (dsimp only [pA]; decide +kernel)); intro K hK); go_simp; (first | (refine hK _ ?_; clear hK K) | (refine CalmB.of ?_; apply Exists.intro; refine ⟨fun wcalm hcalm => ?_, hK _ ?_⟩; (focus ((skip); go_simp; first | done | (fail) | rfl)); clear hK K))); (try go_simp); (apply s_stepL []; (focus (dsimp only [pA]; decide +kernel)); (focus rfl); (focus rfl); (focus rfl); intro K hK; refine cs_load_part 55 _ rfl (fun _ => rfl) (fun w hC => hC.rq.load) ?_; refine hK _ ?_; clear hK K); (try go_simp); (apply s_spec []; (focus (dsimp only [pA]; decide +kernel)); (focus rfl); (focus rfl); (focus rfl); focus (intro bP wc hC hgood; simp only [ovl]; go_simp; exact pA_done HMo.out HQo.out hC (hgood.2 rfl) h7m h10m h13m (by dsimp only [pA]; decide +kernel) (by dsimp only [pA]; decide +kernel))); (try go_simp); (apply s_spec [37]; (focus (dsimp only [pA]; decide +kernel)); (focus rfl); (focus rfl); (focus rfl); focus (intro bP wc hC hgood; have hv := (hgood.1 4 (show 4 ∈ [4] from List.mem_singleton.2 rfl)).1; simp only [ovl]; go_simp; refine pA_back (s1 := 37) (s2 := 38) (c' := c2) (bl' := bl2) (M := M) ?_ ?_ hC HC2E.out HBL2.out ?_ ?_; decide; exact HIn1.out.ups hC.up HSep.out HBS.out; (dsimp only [pA]; decide +kernel); decide +kernel)); (try go_simp); (apply s_spec [37, 38]; (focus (dsimp only [pA]; decide +kernel)); (focus rfl); (focus rfl); (focus rfl); focus (intro bP wc hC hgood; refine pA_store (s1 := 37) (s2 := 38) (c' := c2) (bl' := bl2) (M := M) hC (hgood.1 5 (show 5 ∈ [5] from List.mem_singleton.2 rfl)) h7 h13 h10m.symm h10g ?_ ?_ ?_ ?_ ?_; exact rfl; exact rfl; exact rfl; (dsimp only [pA]; decide +kernel); decide +kernel)); (try go_simp); ((apply s_step (fun _ h => hcls _ h); (focus (dsimp only [pA]; decide +kernel)); intro K hK); go_simp; (first | (refine hK _ ?_; clear hK K) | (refine CalmB.of ?_; apply Exists.intro; refine ⟨fun wcalm hcalm => ?_, hK _ ?_⟩; (focus ((skip); go_simp; first | done | (fail) | rfl)); clear hK K))); refine v_nil ?_; refine HFF.out _ ?_; intro bP wq hq hX; simp only [ovl]; try go_simp)
    obtain ⟨u, hcr, hbu, hnw⟩ := hX 6 (show 6 ∈ [4, 6] by simp)
    have hmem := (hX 4 (show 4 ∈ [4, 6] by simp)).2
    have hup := hq.up
    clear hX hq
    go_wp2
    refine ret_core2 rfl rfl hcr rfl rfl ?_
    unfold AP
    rw [HST.out]
    exact ⟨u, rfl, hbu, hnw, hmem, hup⟩
  | false =>
    have hnd : ¬ (false = true) := by simp
    by_cases h2 : n = 2
    · have HST := Lib.hid (show stepA l most d c bl M = some (locC c l bl most, locB c l bl most, M) by unfold stepA; rw [HDV.out, if_neg hnd, HN.out, if_pos h2])
      obtain ⟨c2, hc2⟩ : ∃ x, locC c l bl most = x := ⟨_, rfl⟩
      obtain ⟨bl2, hbl2⟩ : ∃ x, locB c l bl most = x := ⟨_, rfl⟩
      have HLo := Lib.hid (show ∀ w', CIn w' c bl v l → Calls Try.prog 16 #[v, .agg (rls r1 r2 r3 most ev), .agg c.cells] w' fun e w'' => BPostN w' c2 bl2 e w'' from fun w' h => by rw [← hc2, ← hbl2]; exact (c_Local r1 r2 r3 most ev h).mono fun e w'' h => h.bn)
      rw [hc2, hbl2] at HST
      clear hc2 hbl2 hnd
      subst h2
      go_wp2_with (first
        | (refine wpList_load_part 35 _ rfl rfl (by rfl) (load35 HR2.out) ?_)
        | (refine wpList_load_part 27 _ rfl rfl (by rfl) HC2.out.load ?_)
        | (go_at_call 16; (with_reducible refine (HLo.out _ (HIn.out.over HB2.out)).mono ?_); rintro e w8 ⟨u, rfl, hbu, hb8, -, hnu⟩; have HBU := Lib.hid hbu; obtain ⟨adu, capu, rfl, -, -⟩ := hbu; have HB8 := Lib.hid hb8; have HNU := Lib.hid hnu; clear hb8 hnu)
        | (refine wpList_store_core (c := { c2 with buf := .slice adu bl2.length capu }) rfl _ _ rfl rfl rfl rfl (HZ2.out.over HB8.out) ?_; intro hR))
      refine ret_core2 rfl rfl hR rfl rfl ?_
      unfold AP
      rw [HST.out]
      exact alone_endL (Below.chain HB2.out HB8.out) HBU.out HNU.out (HNU.out.ne (HZ2.out.over HB8.out).heap (by decide)) ((HMem.out.over HB2.out).over HB8.out) h10m.symm h10g
    have hn2 := ne_beq h2
    by_cases h3 : n = 3
    · obtain ⟨q2, hq2⟩ : ∃ x, askQ c l = x := ⟨_, rfl⟩
      have HCA := Lib.hid (show ∀ w', CIn w' c bl v l → Calls Try.prog 26 #[v, .agg c.cells] w' fun e w'' => e = .returned (.agg q2.cells) ∧ Below w'.heap.size w' w'' from fun w' h => hq2 ▸ c_Ask h)
      have HQo := Lib.hid (hq2 ▸ HAq.out : QOk q2)
      obtain ⟨c1, hc1⟩ : ∃ x, ({ c with wt := true } : Cr) = x := ⟨_, rfl⟩
      obtain ⟨c2, hc2⟩ : ∃ x, bckC c1 l (M (locI q2)) = x := ⟨_, rfl⟩
      obtain ⟨bl2, hbl2⟩ : ∃ x, bckBl c1 bl = x := ⟨_, rfl⟩
      have HST := Lib.hid (show stepA l most d c bl M = some (c2, bl2, memQ M q2) by unfold stepA; rw [HDV.out, if_neg hnd, HN.out, if_neg h2, if_pos h3, hq2, ← hc2, ← hbl2, ← hc1])
      have HC2E := Lib.hid hc2.symm
      have HBL2 := Lib.hid hbl2.symm
      have HIn1 := Lib.hid (show CIn w c1 bl v l from hc1 ▸ HIn.out.wt true)
      have HBS := Lib.hid (show ∀ ad n cap, c1.buf = .slice (some ad) n cap → ad.block ≠ bm from hc1 ▸ HBSep.out)
      have HCr1 := Lib.hid (show ∀ w', CrAt w' b7 c → CrAt (w'.setCell ⟨b7, 10, none⟩ (.bool true)) b7 c1 from fun w' h => hc1 ▸ h.setWt true)
      clear hc1 hc2 hbl2 hq2 h2 hnd
      subst h3
      go_upto_region 11 with (first
        | (refine wpList_load_part 27 _ rfl rfl (by rfl) HC2.out.load ?_)
        | (go_at_call 26; (with_reducible refine (HCA.out _ (HIn.out.over HB2.out)).mono ?_); rintro e w8 ⟨rfl, hb⟩; have HC3 := Lib.hid (HC2.out.over hb); have HZ3 := Lib.hid (HZ2.out.over hb); have HB3 := Lib.hid (Below.chain HB2.out hb); have HQ3 := Lib.hid (HQ2.out.over hb); clear hb)
        | (refine wpList_store_rq rfl _ _ rfl rfl rfl HQ3.out ?_; intro hR13))
      have HQ4 := Lib.hid hR13
      have HC4 := Lib.hid (show CrAt (w8.setRow b13 q2.cells) b7 c from ⟨(setRow_other w8 b13 b7 _ h137).trans HC3.out.heap⟩)
      have HZ4 := Lib.hid (show CrAt (w8.setRow b13 q2.cells) b10 Cr.zero from ⟨(setRow_other w8 b13 b10 _ h13.symm).trans HZ3.out.heap⟩)
      have HB4 := Lib.hid (Below.setRow' HB3.out h13g (cs := q2.cells))
      clear hR13
      generalize w8.setRow b13 q2.cells = w9 at *
      have q10 := HC4.out.at_ 10
      have f10 := HC4.out.unfrozen 10
      rw [show c.cells[10]? = some (.bool c.wt) from rfl] at q10
      go_upto_region 12 with (fail)
      have hAC : AC w bm b7 b10 b13 c1 q2 (w9.setCell ⟨b7, 10, none⟩ (.bool true)) :=
        ⟨Ups.of bm (HB4.out.setCell (p := ⟨b7, 10, none⟩) h7g _), HCr1.out _ HC4.out, HQ4.out.other (p := ⟨b7, 10, none⟩) h137.symm, _, ⟨(Below.heap_setCell w9 ⟨b7, 10, none⟩ _ b10 h7.symm).trans HZ4.out.heap⟩⟩
      have hMZ : MemAt (w9.setCell ⟨b7, 10, none⟩ (.bool true)) bm M := (HMem.out.over HB4.out).other h7m.symm
      have hcls := fun w' (h : AC w bm b7 b10 b13 c1 q2 w') => h.cls
      clear q10 f10
      generalize w9.setCell ⟨b7, 10, none⟩ (.bool true) = w5 at *
      (refine wp_region_s (pA 56 57 w bm b7 b10 b13 c1 c2 bl2 q2 M) (by kernel_rfl) (by kernel_rfl) (hAC.over (below_drewN (Below.refl _ _) 1)) (fun _ _ h hb => h.over hb) (pA_X) (hMZ.over (below_drewN (Below.refl _ _) 1)) (fun _ _ h hb => h.over hb) ?_; refine WpV.out ?_; refine WpV.gen (fun FF hFF => ?_); have HFF := Lib.hid hFF; clear hFF; (try go_simp); ((apply s_step (fun _ h => hcls _ h); (focus (dsimp only [pA]; decide +kernel)); intro K hK); go_simp; (first | (refine hK _ ?_; clear hK K) | (refine CalmB.of ?_; apply Exists.intro; refine ⟨fun wcalm hcalm => ?_, hK _ ?_⟩; (focus ((skip); go_simp; first | done | (fail) | rfl)); clear hK K))); (try go_simp); (apply s_stepL []; (focus (dsimp only [pA]; decide +kernel)); (focus rfl); (focus rfl); (focus rfl); intro K hK; refine cs_load_part 27 _ rfl (fun _ => rfl) (fun w hC => hC.cr.load) ?_; refine hK _ ?_; clear hK K); (try go_simp); ((apply s_step (fun _ h => hcls _ h); (focus (dsimp only [pA]; decide +kernel)); intro K hK); go_simp; (first | (refine hK _ ?_; clear hK K) | (refine CalmB.of ?_; apply Exists.intro; refine ⟨fun wcalm hcalm => ?_, hK _ ?_⟩; (focus ((skip); go_simp; first | done | (fail) | rfl)); clear hK K))); (try go_simp); (apply s_stepL []; (focus (dsimp only [pA]; decide +kernel)); (focus rfl); (focus rfl); (focus rfl); intro K hK; refine cs_load_part 55 _ rfl (fun _ => rfl) (fun w hC => hC.rq.load) ?_; refine hK _ ?_; clear hK K); (try go_simp); (apply s_spec []; (focus (dsimp only [pA]; decide +kernel)); (focus rfl); (focus rfl); (focus rfl); focus (intro bP wc hC hgood; simp only [ovl]; go_simp; exact pA_done HMo.out HQo.out hC (hgood.2 rfl) h7m h10m h13m (by dsimp only [pA]; decide +kernel) (by dsimp only [pA]; decide +kernel))); (try go_simp); (apply s_spec [56]; (focus (dsimp only [pA]; decide +kernel)); (focus rfl); (focus rfl); (focus rfl); focus (intro bP wc hC hgood; have hv := (hgood.1 4 (show 4 ∈ [4] from List.mem_singleton.2 rfl)).1; simp only [ovl]; go_simp; refine pA_back (s1 := 56) (s2 := 57) (c' := c2) (bl' := bl2) (M := M) ?_ ?_ hC HC2E.out HBL2.out ?_ ?_; decide; exact HIn1.out.ups hC.up HSep.out HBS.out; (dsimp only [pA]; decide +kernel); decide +kernel)); (try go_simp); (apply s_spec [56, 57]; (focus (dsimp only [pA]; decide +kernel)); (focus rfl); (focus rfl); (focus rfl); focus (intro bP wc hC hgood; refine pA_store (s1 := 56) (s2 := 57) (c' := c2) (bl' := bl2) (M := M) hC (hgood.1 5 (show 5 ∈ [5] from List.mem_singleton.2 rfl)) h7 h13 h10m.symm h10g ?_ ?_ ?_ ?_ ?_; exact rfl; exact rfl; exact rfl; (dsimp only [pA]; decide +kernel); decide +kernel)); (try go_simp); ((apply s_step (fun _ h => hcls _ h); (focus (dsimp only [pA]; decide +kernel)); intro K hK); go_simp; (first | (refine hK _ ?_; clear hK K) | (refine CalmB.of ?_; apply Exists.intro; refine ⟨fun wcalm hcalm => ?_, hK _ ?_⟩; (focus ((skip); go_simp; first | done | (fail) | rfl)); clear hK K))); refine v_nil ?_; refine HFF.out _ ?_; intro bP wq hq hX; simp only [ovl]; try go_simp)
      obtain ⟨u, hcr, hbu, hnw⟩ := hX 6 (show 6 ∈ [4, 6] by simp)
      have hmem := (hX 4 (show 4 ∈ [4, 6] by simp)).2
      have hup := hq.up
      clear hX hq
      go_wp2
      refine ret_core2 rfl rfl hcr rfl rfl ?_
      unfold AP
      rw [HST.out]
      exact ⟨u, rfl, hbu, hnw, hmem, hup⟩
    · have hn3 := ne_beq h3
      have HST := Lib.hid (show stepA l most d c bl M = none by unfold stepA; rw [HDV.out, if_neg hnd, HN.out, if_neg h2, if_neg h3])
      obtain ⟨ab, cab, hbuf, -, -⟩ := HIn.out.core.buf
      have HBuf := Lib.hid hbuf
      clear h2 h3 hbuf hnd
      go_wp2_with (first
        | (refine wpList_load_part 27 _ rfl rfl (by rfl) HC2.out.load ?_)
        | (refine wpList_store_core (c := c) rfl _ _ rfl rfl rfl HBuf.out HZ2.out ?_; intro hR))
      refine ret_core2 rfl rfl hR rfl rfl ?_
      unfold AP
      rw [HST.out]
      exact ⟨rfl, ⟨(setRow_other w4 b10 bm _ h10m.symm).trans (HMem.out.over HB2.out).heap⟩, Ups.of bm (Below.setRow' HB2.out h10g)⟩
end Go.Proofs.Ytckcdpmfmfpmmaa
