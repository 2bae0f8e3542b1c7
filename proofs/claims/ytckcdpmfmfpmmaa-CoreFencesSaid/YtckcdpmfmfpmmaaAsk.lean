/-
  core.Ask, Drain, New.
-/
import Derived.Test.YtckcdpmfmfpmmaaLocal
namespace Go.Proofs.Ytckcdpmfmfpmmaa
open Go.RowKit

/-- A request. -/
structure Rq where
  kind : Int
  loc : Int
  a : Int
  b : Int
def Rq.cells (q : Rq) : Array Value := #[.int .u8 q.kind, .int .u8 q.loc, .int .u8 q.a, .int .u8 q.b]
def askQ (c : Cr) (l : List In) : Rq :=
  if (xOf c l).op = 1 then ⟨(xOf c l).op, (xOf c l).loc, 0, 0⟩
  else if (xOf c l).op = 2 ∨ (xOf c l).op = 4 ∨ (xOf c l).op = 5 then ⟨(xOf c l).op, (xOf c l).loc, aOf c l, 0⟩
  else if (xOf c l).op = 6 then ⟨(xOf c l).op, (xOf c l).loc, aOf c l, bOf c l⟩
  else ⟨0, 0, 0, 0⟩

structure RqAt (w : World) (b : Nat) (q : Rq) : Prop where
  heap : w.heap[b]? = some (.cells q.cells 55 (0, 0))
namespace RqAt
variable {w w' : World} {b : Nat} {q : Rq}
theorem lt (h : RqAt w b q) : b < w.heap.size := (Array.getElem?_eq_some_iff.1 h.heap).1
theorem over (h : RqAt w b q) (hb : Below w.heap.size w w') : RqAt w' b q := ⟨(hb.block b h.lt).trans h.heap⟩
theorem new (w : World) (q : Rq) : RqAt (w.alloc (.cells q.cells 55)) w.heap.size q := ⟨heap_alloc_new w _⟩
theorem at_ (h : RqAt w b q) (i : Nat) : w.cell? ⟨b, i, none⟩ = q.cells[i]? := cell_of_row w b i _ _ _ h.heap
theorem unfrozen (h : RqAt w b q) (j : Nat) : w.frozen? ⟨b, j, none⟩ = false := by simp [World.frozen?, h.heap]
theorem set2 (h : RqAt w b q) (v : Int) : RqAt (w.setCell ⟨b, 2, none⟩ (.int .u8 v)) b { q with a := v } := by
  constructor
  rw [setCell_eq_setRow w b _ _ _ _ _ h.heap]
  exact setRow_heap w b _ _ _ _ h.heap
theorem set0 (h : RqAt w b q) (v : Int) : RqAt (w.setCell ⟨b, 0, none⟩ (.int .u8 v)) b { q with kind := v } := by
  constructor
  rw [setCell_eq_setRow w b _ _ _ _ _ h.heap]
  exact setRow_heap w b _ _ _ _ h.heap
theorem set1 (h : RqAt w b q) (v : Int) : RqAt (w.setCell ⟨b, 1, none⟩ (.int .u8 v)) b { q with loc := v } := by
  constructor
  rw [setCell_eq_setRow w b _ _ _ _ _ h.heap]
  exact setRow_heap w b _ _ _ _ h.heap
theorem drew (h : RqAt w b q) : RqAt w.drew b q := ⟨h.heap⟩
theorem set3 (h : RqAt w b q) (v : Int) : RqAt (w.setCell ⟨b, 3, none⟩ (.int .u8 v)) b { q with b := v } := by
  constructor
  rw [setCell_eq_setRow w b _ _ _ _ _ h.heap]
  exact setRow_heap w b _ _ _ _ h.heap
theorem other {p : Addr} {v : Value} (h : RqAt w b q) (hp : b ≠ p.block) : RqAt (w.setCell p v) b q := ⟨(Below.heap_setCell w p v b hp).trans h.heap⟩
theorem size55 : (Try.prog.info? 55).map (·.size) = some 4 := by kernel_rfl
theorem load (h : RqAt w b q) : (loadVar 55 ⟨b, 0, none⟩).run Try.prog w = .ok (.agg q.cells) w :=
  run_load_part w b 0 _ q.cells 55 55 (0, 0) _ h.heap Try.underlying55 rfl size55 (fun j v hv => by rw [Nat.zero_add]; exact hv)
end RqAt
theorem rq_one (q : Rq) : q.cells.all (·.oneCell') = true := by unfold Rq.cells; simp [Value.oneCell']
theorem wpList_store_rq {ops : Array Oper} {rest : List Oper} {o : Oper} {a : Act} {w : World} {Q : Exit → Act → World → Prop} {b : Nat} {c d : Rq} (hgd : o.guard = none) (x y : Operand) (ho : o.op = .store 55 x y)
    (hx : a.eval x = .pointer (some ⟨b, 0, none⟩)) (hy : a.eval y = .agg c.cells) (hR : RqAt w b d)
    (h : RqAt (w.setRow b c.cells) b c → wpList Try.prog ops Q rest (a.put o.dst undef) (w.setRow b c.cells)) : wpList Try.prog ops Q (o :: rest) a w :=
  wpList_store_row hgd 55 x y ho b c.cells hx hy 55 d.cells hR.heap RqAt.size55 rfl (rq_one c) (h ⟨setRow_heap w b _ _ _ _ hR.heap⟩)
theorem ret_rq {fn : Func} {p : Tmp} {R : Ending → World → Prop} {a : Act} {w : World} {b : Nat} {c : Rq} (hf : fn.results = #[.cell p 55]) (hp : a.tmps.getD p undef = .pointer (some ⟨b, 0, none⟩)) (hR : RqAt w b c)
    (hd : a.defers = []) (h : R (.returned (.agg c.cells)) w) : bodyPost Try.prog fn R .ret a w :=
  bodyPost_ret (results_cell_row hf a.tmps w b 55 c.cells (0, 0) _ hp hR.heap Try.underlying55 rfl RqAt.size55) hd h

set_option maxRecDepth 8000 in
set_option maxHeartbeats 4000000 in
theorem c_Ask {c : Cr} {bl : List (Nat × Nat)} {v : Value} {l : List In} {w : World} (h : CIn w c bl v l) :
    Calls Try.prog 26 #[v, .agg c.cells] w fun e w' => e = .returned (.agg (askQ c l).cells) ∧ Below w.heap.size w w' := by
  have hb1 := (Below.refl w.heap.size w).alloc (Nat.le_refl _) (.cells c.cells 27)
  have hb2 := hb1.alloc (by simp) (.cells #[.int .u8 0, .int .u8 0, .int .u8 0, .int .u8 0] 55)
  have HB := Lib.hid hb2
  have HC := Lib.hid ((CrAt.new w c).over ((Below.refl _ _).alloc (Nat.le_refl _) (.cells #[.int .u8 0, .int .u8 0, .int .u8 0, .int .u8 0] 55)))
  have HI := Lib.hid (h.over hb2)
  have HOp := Lib.hid (show ∀ vb ins, (mkW c vb ins l).x = xOf c l from fun _ _ => rfl)
  have HA := Lib.hid (show ∀ vb ins, (mkW c vb ins l).a = aOf c l from fun _ _ => rfl)
  have HBb := Lib.hid (show ∀ vb ins, (mkW c vb ins l).b = bOf c l from fun _ _ => rfl)
  clear hb1 hb2 h
  go_enter Try.func26, Try.ntmps26
  go_upto_region 1 with (fail)
  generalize hgw : (w.alloc (.cells c.cells 27)).alloc (.cells #[.int .u8 0, .int .u8 0, .int .u8 0, .int .u8 0] 55) = wb at *
  have hz : wb.heap[w.heap.size + 1]? = some (.cells #[.int .u8 0, .int .u8 0, .int .u8 0, .int .u8 0] 55) := by
    rw [← hgw]
    have := heap_alloc_new (w.alloc (.cells c.cells 27)) (.cells #[.int .u8 0, .int .u8 0, .int .u8 0, .int .u8 0] 55)
    rwa [World.size_alloc] at this
  clear hgw
  have HZ := Lib.hid hz
  clear hz
  have hge4 : w.heap.size ≤ w.heap.size + 1 := Nat.le_succ _
  generalize w.heap.size + 1 = b4 at *
  go_upto_region 3 with (first
    | (refine wpList_load_part 27 _ rfl rfl (by rfl) HC.out.load ?_)
    | (go_at_call 27; (with_reducible refine (co_ofS _ HI.out.core HI.out.ins).mono ?_); rintro e w1 ⟨b, vb, rfl, hW, hbe⟩; have HW := Lib.hid hW; have HE := Lib.hid hbe; clear hW hbe)
    | (go_at_call 37; (with_reducible refine (co_args (mkW_ok HI.out.x HI.out.r HI.out.core) HW.out).mono ?_); rintro e w2 ⟨rfl, hb2⟩; have HW2 := Lib.hid (HW.out.over hb2); have HB2 := Lib.hid hb2; clear hb2))
  rw [HA.out, HBb.out]
  have hop := HW2.out.at_.op
  have hloc := HW2.out.at_.loc
  have hblt := HW2.out.at_.lt
  rw [HOp.out] at hop hloc
  apply wp_share
  · intro hR
    go_region
    all_goals exact hR.out
  have H8 := Lib.hid (show RqAt ((w2.alloc (.cells #[.int .u8 (xOf c l).op, .int .u8 (xOf c l).loc, .int .u8 0, .int .u8 0] 55)).drew) w2.heap.size ⟨(xOf c l).op, (xOf c l).loc, 0, 0⟩ from ⟨heap_alloc_new w2 _⟩)
  have hbA : Below w2.heap.size w2 ((w2.alloc (.cells #[.int .u8 (xOf c l).op, .int .u8 (xOf c l).loc, .int .u8 0, .int .u8 0] 55)).drew) := below_drewN' ((Below.refl _ w2).alloc (Nat.le_refl _) _) 1
  have HB3 := Lib.hid (HB.out.trans ((HE.out.trans ((HB2.out.mono HE.out.size).trans (hbA.mono (Nat.le_trans HE.out.size HB2.out.size)))).mono HB.out.size))
  have HW3 := Lib.hid (HW2.out.over hbA)
  have H4 := Lib.hid (show RqAt ((w2.alloc (.cells #[.int .u8 (xOf c l).op, .int .u8 (xOf c l).loc, .int .u8 0, .int .u8 0] 55)).drew) b4 ⟨0, 0, 0, 0⟩ from ((((⟨HZ.out⟩ : RqAt wb b4 ⟨0, 0, 0, 0⟩).over HE.out).over HB2.out).over hbA))
  have hge : w.heap.size ≤ w2.heap.size := Nat.le_trans HB.out.size (Nat.le_trans HE.out.size HB2.out.size)
  have hlt4 : b4 < w2.heap.size := ((((⟨HZ.out⟩ : RqAt wb b4 ⟨0, 0, 0, 0⟩).over HE.out).over HB2.out)).lt
  clear hop hloc hblt hbA
  generalize (w2.alloc (.cells #[.int .u8 (xOf c l).op, .int .u8 (xOf c l).loc, .int .u8 0, .int .u8 0] 55)).drew = w3 at *
  obtain ⟨b8, hb8⟩ : ∃ b8, w2.heap.size = b8 := ⟨_, rfl⟩
  rw [hb8] at H8 hge hlt4 ⊢
  clear hb8
  have hop := HW3.out.at_.op
  rw [HOp.out] at hop
  have c2 := H8.out.at_ 2
  have c3 := H8.out.at_ 3
  have f2 := H8.out.unfrozen 2
  have f3 := H8.out.unfrozen 3
  simp only [Rq.cells, List.getElem?_toArray, List.getElem?_cons_zero, List.getElem?_cons_succ] at c2 c3
  obtain ⟨op, hope⟩ : ∃ op, (xOf c l).op = op := ⟨_, rfl⟩
  have HQ := Lib.hid (show askQ c l = if op = 1 then ⟨op, (xOf c l).loc, 0, 0⟩ else if op = 2 ∨ op = 4 ∨ op = 5 then ⟨op, (xOf c l).loc, aOf c l, 0⟩ else if op = 6 then ⟨op, (xOf c l).loc, aOf c l, bOf c l⟩ else ⟨0, 0, 0, 0⟩ by unfold askQ; rw [hope])
  rw [hope] at hop H8 ⊢
  generalize (xOf c l).loc = lc at *
  clear hope
  by_cases h1 : op = 1
  · subst h1
    go_wp2_with (first
      | (refine wpList_load_part 55 _ rfl rfl (by rfl) H8.out.load ?_)
      | (refine wpList_store_rq rfl _ _ rfl rfl rfl H4.out ?_; intro hR))
    refine ret_rq rfl rfl hR rfl ?_
    exact ⟨by rw [HQ.out]; rfl, Below.setRow' HB3.out hge4⟩
  have q1 := ne_beq h1
  by_cases h2 : op = 2
  · subst h2
    go_wp2_with (first
      | (refine wpList_load_part 55 _ rfl rfl (by rfl) (H8.out.set2 _).load ?_)
      | (refine wpList_store_rq rfl _ _ rfl rfl rfl (H4.out.other (Nat.ne_of_lt hlt4)) ?_; intro hR))
    refine ret_rq rfl rfl hR rfl ?_
    exact ⟨by rw [HQ.out]; rfl, Below.setRow' (HB3.out.setCell hge _) hge4⟩
  have q2 := ne_beq h2
  by_cases h4 : op = 4
  · subst h4
    go_wp2_with (first
      | (refine wpList_load_part 55 _ rfl rfl (by rfl) (H8.out.set2 _).load ?_)
      | (refine wpList_store_rq rfl _ _ rfl rfl rfl (H4.out.other (Nat.ne_of_lt hlt4)) ?_; intro hR))
    refine ret_rq rfl rfl hR rfl ?_
    exact ⟨by rw [HQ.out]; rfl, Below.setRow' (HB3.out.setCell hge _) hge4⟩
  have q4 := ne_beq h4
  by_cases h5 : op = 5
  · subst h5
    go_wp2_with (first
      | (refine wpList_load_part 55 _ rfl rfl (by rfl) (H8.out.set2 _).load ?_)
      | (refine wpList_store_rq rfl _ _ rfl rfl rfl (H4.out.other (Nat.ne_of_lt hlt4)) ?_; intro hR))
    refine ret_rq rfl rfl hR rfl ?_
    exact ⟨by rw [HQ.out]; rfl, Below.setRow' (HB3.out.setCell hge _) hge4⟩
  have q5 := ne_beq h5
  by_cases h6 : op = 6
  · subst h6
    go_wp2_with (first
      | (refine wpList_load_part 55 _ rfl rfl (by rfl) ((H8.out.set2 _).set3 _).load ?_)
      | (refine wpList_store_rq rfl _ _ rfl rfl rfl ((H4.out.other (Nat.ne_of_lt hlt4)).other (Nat.ne_of_lt hlt4)) ?_; intro hR))
    refine ret_rq rfl rfl hR rfl ?_
    exact ⟨by rw [HQ.out]; rfl, Below.setRow' ((HB3.out.setCell hge _).setCell hge _) hge4⟩
  have q6 := ne_beq h6
  go_wp2_with (refine wpList_store_rq (c := ⟨0, 0, 0, 0⟩) rfl _ _ rfl rfl rfl H4.out ?_; intro hR)
  refine ret_rq rfl rfl hR rfl ?_
  exact ⟨by rw [HQ.out, if_neg h1, if_neg (by omega), if_neg h6], Below.setRow' HB3.out hge4⟩
end Go.Proofs.Ytckcdpmfmfpmmaa
