/-
  seisinlaw30.done: an operation performed on a memory.
-/
import Derived.Test.YtckcdpmfmfpmmaaTame
namespace Go.Proofs.Ytckcdpmfmfpmmaa
open Go.RowKit

/-- A memory of four cells. -/
def mcs (M : Nat → Int) : Array Value := #[.int .u8 (M 0), .int .u8 (M 1), .int .u8 (M 2), .int .u8 (M 3)]
structure MemAt (w : World) (b : Nat) (M : Nat → Int) : Prop where
  heap : w.heap[b]? = some (.cells (mcs M) 43 (0, 0))
structure MOk (M : Nat → Int) : Prop where
  m0 : ∀ i, 0 ≤ M i
  m1 : ∀ i, M i ≤ 255
namespace MemAt
variable {w w' : World} {b : Nat} {M : Nat → Int}
theorem lt (h : MemAt w b M) : b < w.heap.size := (Array.getElem?_eq_some_iff.1 h.heap).1
theorem over (h : MemAt w b M) (hb : Below w.heap.size w w') : MemAt w' b M := ⟨(hb.block b h.lt).trans h.heap⟩
theorem cell (h : MemAt w b M) {i : Nat} (hi : i < 4) : w.cell? ⟨b, i, none⟩ = some (.int .u8 (M i)) := by
  rw [cell_of_row w b i _ _ _ h.heap]
  have : i = 0 ∨ i = 1 ∨ i = 2 ∨ i = 3 := by omega
  rcases this with rfl | rfl | rfl | rfl <;> rfl
theorem unfrozen (h : MemAt w b M) (j : Nat) : w.frozen? ⟨b, j, none⟩ = false := by simp [World.frozen?, h.heap]
theorem set (h : MemAt w b M) {i : Nat} (hi : i < 4) (v : Int) : MemAt (w.setCell ⟨b, i, none⟩ (.int .u8 v)) b (updR M i v) := by
  constructor
  rw [setCell_eq_setRow w b _ _ _ _ _ h.heap]
  have he : (mcs M).setIfInBounds i (.int .u8 v) = mcs (updR M i v) := by
    have : i = 0 ∨ i = 1 ∨ i = 2 ∨ i = 3 := by omega
    rcases this with rfl | rfl | rfl | rfl <;> rfl
  rw [he]
  exact setRow_heap w b _ _ _ _ h.heap
end MemAt
/-- What stands in the cell afterwards. -/
def newM (old : Int) (q : Rq) : Int :=
  if q.kind = 2 ∨ q.kind = 4 then q.a
  else if q.kind = 5 then (old + q.a) % 256
  else if q.kind = 6 then if old = q.a then q.b else old
  else old
def locI (q : Rq) : Nat := (q.loc % 4).toNat
def prfQ (q : Rq) (old new : Int) : Array Value := prf 0 q.kind q.loc q.a q.b old new
theorem zero74 (w : World) : (zeroValue 74).run Try.prog w = .ok (.agg (prf 0 0 0 0 0 0 0)) w := by kernel_rfl
theorem size74 : (Try.prog.info? 74).map (·.size) = some 7 := by kernel_rfl
theorem built74 (q : Rq) (old new : Int) : Try.prog.built 74 [(1, .agg q.cells), (2, .int .u8 old), (3, .int .u8 new)] = some (prfQ q old new) := by kernel_rfl
theorem prf_one (k0 k1 k2 k3 k4 k5 k6 : Int) : (prf k0 k1 k2 k3 k4 k5 k6).all (·.oneCell') = true := by unfold prf; simp [Value.oneCell']
theorem load74 {w : World} {b : Nat} {k0 k1 k2 k3 k4 k5 k6 : Int} (h : BlkAt w b (prf k0 k1 k2 k3 k4 k5 k6) 74) : (loadVar 74 ⟨b, 0, none⟩).run Try.prog w = .ok (.agg (prf k0 k1 k2 k3 k4 k5 k6)) w :=
  run_load_part w b 0 _ _ 74 74 (0, 0) _ h.heap Try.underlying74 rfl (by show _ = some 7; kernel_rfl) (fun j v hv => by rw [Nat.zero_add]; exact hv)
/-- Blocks are left, but for one. -/
abbrev Ups (w w' : World) (b : Nat) : Prop := w.grownBy w' (some b)
theorem Ups.of {w w' : World} (b : Nat) (h : Below w.heap.size w w') : Ups w w' b := by
  obtain ⟨h1, h2, h3, h4, h5⟩ := h
  exact ⟨h1, h2, h3, h4, fun k hk _ => h5 k hk⟩
theorem Ups.trans {w w' w'' : World} {b : Nat} (h : Ups w w' b) (k : Ups w' w'' b) : Ups w w'' b :=
  ⟨k.os.trans h.os, k.tape.trans h.tape, k.output.trans h.output, Nat.le_trans h.size k.size, fun i hi hne => (k.block i (Nat.lt_of_lt_of_le hi h.size) hne).trans (h.block i hi hne)⟩
theorem Ups.setCell (w : World) (b i : Nat) (v : Value) : Ups w (w.setCell ⟨b, i, none⟩ v) b :=
  ⟨rfl, rfl, rfl, by simp [World.setCell], fun k _ hne => Below.heap_setCell w _ _ k (fun e => hne (by rw [e]))⟩
theorem Ups.below {w w' : World} {b N : Nat} (h : Ups w w' b) (hN : N ≤ b) (hle : b ≤ w.heap.size) : Below N w w' :=
  ⟨h.os, h.tape, h.output, h.size, fun k hk => h.block k (by omega) (fun e => by cases e; omega)⟩
theorem build74 (q : Rq) (a b : Int) (w : World) : (Instr.build 74 #[(1, .agg q.cells), (2, .int .u8 a), (3, .int .u8 b)]).run Try.prog w = .ok (.agg (prfQ q a b)) w := run_build w 74 _ _ (built74 q a b)
theorem BlkAt.setNew {w : World} {b : Nat} {k0 k1 k2 k3 k4 k5 k6 : Int} (h : BlkAt w b (prf k0 k1 k2 k3 k4 k5 k6) 74) (v : Int) : BlkAt (w.setCell ⟨b, 6, none⟩ (.int .u8 v)) b (prf k0 k1 k2 k3 k4 k5 v) 74 := by
  constructor
  rw [setCell_eq_setRow w b _ _ _ _ _ h.heap]
  exact setRow_heap w b _ _ _ _ h.heap
theorem BlkAt.new6 {w : World} {b : Nat} {k0 k1 k2 k3 k4 k5 k6 : Int} (h : BlkAt w b (prf k0 k1 k2 k3 k4 k5 k6) 74) : w.cell? ⟨b, 6, none⟩ = some (.int .u8 k6) := by rw [cell_of_row w b 6 _ _ _ h.heap]; rfl
theorem BlkAt.old5 {w : World} {b : Nat} {k0 k1 k2 k3 k4 k5 k6 : Int} (h : BlkAt w b (prf k0 k1 k2 k3 k4 k5 k6) 74) : w.cell? ⟨b, 5, none⟩ = some (.int .u8 k5) := by rw [cell_of_row w b 5 _ _ _ h.heap]; rfl
theorem BlkAt.unfr {w : World} {b : Nat} {cs : Array Value} {T : TypeId} (h : BlkAt w b cs T) (j : Nat) : w.frozen? ⟨b, j, none⟩ = false := by simp [World.frozen?, h.heap]
theorem BlkAt.other {w : World} {b : Nat} {cs : Array Value} {T : TypeId} {p : Addr} {v : Value} (h : BlkAt w b cs T) (hp : b ≠ p.block) : BlkAt (w.setCell p v) b cs T := ⟨(Below.heap_setCell w p v b hp).trans h.heap⟩
theorem MemAt.other {w : World} {b : Nat} {M : Nat → Int} {p : Addr} {v : Value} (h : MemAt w b M) (hp : b ≠ p.block) : MemAt (w.setCell p v) b M := ⟨(Below.heap_setCell w p v b hp).trans h.heap⟩
theorem MemAt.ups {w w' : World} {b c : Nat} {M : Nat → Int} (h : MemAt w b M) (hu : Ups w w' c) (hne : b ≠ c) : MemAt w' b M := ⟨(hu.block b h.lt (fun e => hne (by cases e; rfl))).trans h.heap⟩
theorem boxD (w : World) (q : Rq) : RqAt ((w.alloc (.cells q.cells 55)).alloc (.cells (prf 0 0 0 0 0 0 0) 74)) w.heap.size q ∧ BlkAt ((w.alloc (.cells q.cells 55)).alloc (.cells (prf 0 0 0 0 0 0 0) 74)) (w.heap.size + 1) (prf 0 0 0 0 0 0 0) 74 ∧ Below w.heap.size w ((w.alloc (.cells q.cells 55)).alloc (.cells (prf 0 0 0 0 0 0 0) 74)) := by
  refine ⟨(RqAt.new w q).over ((Below.refl _ _).alloc (Nat.le_refl _) _), ?_, ((Below.refl w.heap.size w).alloc (Nat.le_refl _) _).alloc (by simp) _⟩
  have := BlkAt.new (w.alloc (.cells q.cells 55)) (prf 0 0 0 0 0 0 0) 74
  rwa [World.size_alloc] at this
/-- A request's numbers. -/
structure QOk (q : Rq) : Prop where
  kind : 0 ≤ q.kind ∧ q.kind ≤ 255
  loc : 0 ≤ q.loc ∧ q.loc ≤ 255
  a : 0 ≤ q.a ∧ q.a ≤ 255
  b : 0 ≤ q.b ∧ q.b ≤ 255
theorem cb_build3 {ops : Array Oper} {w0 : World} {o : Oper} {a : Act} {K : Act → Prop} (q : Rq) (s t : Int) (x y z : Operand) (ho : o.op = .build 74 #[(1, x), (2, y), (3, z)]) (hx : a.eval x = .agg q.cells) (hy : a.eval y = .int .u8 s) (hz : a.eval z = .int .u8 t)
    (hgd : Region.wanted o (yielded ops a.tmps) = true) (h : K (a.put o.dst (.agg (prfQ q s t)))) :
    if Region.wanted o (yielded ops a.tmps) = true then CalmB Try.prog o a w0 K else K (a.put o.dst undef) := by
  rw [if_pos hgd]
  refine CalmB.of ⟨.agg (prfQ q s t), fun w _ => ?_, h⟩
  unfold Oper.quietAt execOp
  simp only [ho, List.map_toArray, List.map_cons, List.map_nil, hx, hy, hz, Sem.run_bind, build74, Result.andThen_ok, Sem.run_pure, Oper.quietUpon, true_and]
theorem wpList_store_prf {ops : Array Oper} {rest : List Oper} {o : Oper} {a : Act} {w : World} {Q : Exit → Act → World → Prop} {b : Nat} {k0 k1 k2 k3 k4 k5 k6 : Int} {d : Array Value} (hd : d.size = 7) (hgd : o.guard = none) (x y : Operand) (ho : o.op = .store 74 x y)
    (hx : a.eval x = .pointer (some ⟨b, 0, none⟩)) (hy : a.eval y = .agg (prf k0 k1 k2 k3 k4 k5 k6)) (hR : BlkAt w b d 74)
    (h : BlkAt (w.setRow b (prf k0 k1 k2 k3 k4 k5 k6)) b (prf k0 k1 k2 k3 k4 k5 k6) 74 → wpList Try.prog ops Q rest (a.put o.dst undef) (w.setRow b (prf k0 k1 k2 k3 k4 k5 k6))) : wpList Try.prog ops Q (o :: rest) a w :=
  wpList_store_row hgd 74 x y ho b (prf k0 k1 k2 k3 k4 k5 k6) hx hy 74 d hR.heap size74 (by rw [hd]; rfl) (prf_one _ _ _ _ _ _ _) (h ⟨setRow_heap w b _ _ _ _ hR.heap⟩)
theorem ret_prf {fn : Func} {p : Tmp} {R : Ending → World → Prop} {a : Act} {w : World} {b : Nat} {k0 k1 k2 k3 k4 k5 k6 : Int} (hf : fn.results = #[.cell p 74]) (hp : a.tmps.getD p undef = .pointer (some ⟨b, 0, none⟩)) (hR : BlkAt w b (prf k0 k1 k2 k3 k4 k5 k6) 74)
    (hd : a.defers = []) (h : R (.returned (.agg (prf k0 k1 k2 k3 k4 k5 k6))) w) : bodyPost Try.prog fn R .ret a w :=
  bodyPost_ret (results_cell_row hf a.tmps w b 74 (prf k0 k1 k2 k3 k4 k5 k6) (0, 0) _ hp hR.heap Try.underlying74 rfl size74) hd h
def DPost (w : World) (bm : Nat) (M : Nat → Int) (q : Rq) (e : Ending) (w' : World) : Prop :=
  e = .returned (.agg (prfQ q (M (locI q)) (newM (M (locI q)) q))) ∧ MemAt w' bm (updR M (locI q) (newM (M (locI q)) q)) ∧ Ups w w' bm
theorem done_end {w w2 : World} {bm b4 i : Nat} {M : Nat → Int} {new : Int} {q : Rq} (hi : locI q = i) (hn : newM (M i) q = new) (h1 : Below w.heap.size w w2) (hb : w.heap.size ≤ b4) (hbm : bm < w.heap.size) (hm : MemAt w2 bm M) (hi4 : i < 4) :
    DPost w bm M q (.returned (.agg (prfQ q (M i) new))) ((w2.setCell ⟨bm, i, none⟩ (.int .u8 new)).setRow b4 (prfQ q (M i) new)) := by
  subst hi hn
  refine ⟨rfl, ?_, ?_⟩
  · exact ⟨(setRow_other _ b4 bm _ (by omega)).trans (hm.set hi4 _).heap⟩
  · obtain ⟨g1, g2, g3, g4, g5⟩ := h1
    refine ⟨g1, g2, g3, by simpa [World.setRow, World.setCell] using g4, fun k hk hne => ?_⟩
    exact (setRow_other _ b4 k _ (by omega)).trans ((Below.heap_setCell w2 ⟨bm, _, none⟩ _ k (fun e => hne (by rw [e]))).trans (g5 k hk))
set_option maxRecDepth 8000 in
set_option maxHeartbeats 4000000 in
theorem c_done (M : Nat → Int) (q : Rq) (hM : MOk M) (hq : QOk q) (bm : Nat) (w : World) (hm : MemAt w bm M) :
    Calls Try.prog 36 #[.pointer (some ⟨bm, 0, none⟩), .agg q.cells] w fun e w' => DPost w bm M q e w' := by
  obtain ⟨hC, hP, hB⟩ := boxD w q
  have HB := Lib.hid hB
  have HM := Lib.hid (hm.over hB)
  have HC := Lib.hid hC
  have HP := Lib.hid hP
  have hbm := hm.lt
  have hkb := hq.kind
  have hlb := hq.loc
  have hab := hq.a
  have hbb := hq.b
  obtain ⟨i, hi⟩ : ∃ i : Nat, locI q = i := ⟨_, rfl⟩
  have hi4 : i < 4 := by rw [← hi]; unfold locI; omega
  have hiq : q.loc % 4 = (i : Int) := by rw [← hi]; unfold locI; rw [Int.toNat_of_nonneg (by omega)]
  have hiq2 : q.loc.tmod 4 = (i : Int) := by rw [Int.tmod_eq_emod_of_nonneg hlb.1]; exact hiq
  have hii : (i : Int) < 4 := by omega
  have HI := Lib.hid hi
  obtain ⟨old, hold⟩ : ∃ o, M i = o := ⟨_, rfl⟩
  have hob : 0 ≤ old ∧ old ≤ 255 := by rw [← hold]; exact ⟨hM.m0 i, hM.m1 i⟩
  have HOld := Lib.hid hold
  have hcm := (hm.over hB).cell hi4
  rw [hold] at hcm
  rw [show (prf 0 0 0 0 0 0 0) = #[.int .u8 0, .int .u8 0, .int .u8 0, .int .u8 0, .int .u8 0, .int .u8 0, .int .u8 0] from rfl] at HB HM HC HP hcm
  clear hC hP hB hm hM hq hi hold hlb
  go_enter Try.func36, Try.ntmps36
  go_upto_region 1 with (fail)
  generalize (w.alloc (.cells q.cells 55)).alloc (.cells #[.int .u8 0, .int .u8 0, .int .u8 0, .int .u8 0, .int .u8 0, .int .u8 0, .int .u8 0] 74) = w1 at *
  have hge4 : w.heap.size ≤ w.heap.size + 1 := Nat.le_succ _
  obtain ⟨b4, hb4⟩ : ∃ b, w.heap.size + 1 = b := ⟨_, rfl⟩
  obtain ⟨b3, hb3⟩ : ∃ b, w.heap.size = b := ⟨_, rfl⟩
  rw [hb4] at HP hge4 ⊢
  rw [hb3] at HC ⊢
  have HB3 := Lib.hid hb3
  clear hb4 hb3
  have hql := HC.out.at_ 1
  rw [show q.cells[1]? = some (.int .u8 q.loc) from rfl] at hql
  have hlt3 := HC.out.lt
  have hltm := HM.out.lt
  (refine wp_region_only (by kernel_rfl) (by kernel_rfl) ?_; refine WpV.out ?_; (repeat (first | ((refine t_step (fun K hK => ?_)); (fail); refine hK _ ?_; clear hK K) | ((refine t_step (fun K hK => ?_)); go_simp; (first | (refine hK _ ?_; clear hK K) | (refine CalmB.of ?_; apply Exists.intro; refine ⟨fun wcalm hcalm => ?_, hK _ ?_⟩; (focus ((have hq1 := (hcalm.cell (p := ⟨b3, 1, none⟩) hlt3).trans hql); go_simp; first | done | (fail) | rfl)); clear hK K))))); refine v_nil ?_; intro wq hq)
  have HC1 := Lib.hid (HC.out.over hq)
  have HP1 := Lib.hid (HP.out.over hq)
  have HM1 := Lib.hid (HM.out.over hq)
  have HB1 := Lib.hid (Below.chain HB.out hq)
  have hc1 := (hq.cell (p := ⟨bm, i, none⟩) hltm).trans hcm
  clear HC HP HM HB hcm hql hlt3 hltm hq
  generalize wq = w1 at *
  have hlt1 := HM1.out.lt
  go_upto_region 2 with (fail)
  (refine wp_region_fresh 8 9 6 74 (prfQ q old old) (prf 0 0 0 0 0 0 0) zero74 size74 rfl (prf_one _ _ _ _ _ _ _) (by kernel_rfl) (by kernel_rfl) (by first | simp | simp [Act.put]) ?_; refine WpV.out ?_; (repeat (first | (refine f_alloc rfl rfl rfl rfl ?_) | (refine f_store _ rfl rfl (by decide) rfl rfl rfl ?_) | ((refine f_step (by rfl) (fun K hK => ?_)); (first | (refine cb_load_part 55 _ rfl rfl (by rfl) (fun w hC => (HC1.out.over hC).load) ?_) | (refine cb_build3 q old old _ _ _ rfl rfl rfl rfl (by rfl) ?_)); refine hK _ ?_; clear hK K) | ((refine f_step (by rfl) (fun K hK => ?_)); go_simp; (first | (refine hK _ ?_; clear hK K) | (refine CalmB.of ?_; apply Exists.intro; refine ⟨fun wcalm hcalm => ?_, hK _ ?_⟩; (focus ((have hm1 := (hcalm.cell (p := ⟨bm, i, none⟩) hlt1).trans hc1); go_simp; first | done | (fail) | rfl)); clear hK K))))); refine v_nil ?_; intro bF wq hq hrF hbF; try go_simp)
  have HC2 := Lib.hid (HC1.out.over hq)
  have HP2 := Lib.hid (HP1.out.over hq)
  have HM2 := Lib.hid (HM1.out.over hq)
  have HB2 := Lib.hid (Below.chain HB1.out hq)
  have HPF := Lib.hid (show BlkAt wq bF (prf 0 q.kind q.loc q.a q.b old old) 74 from ⟨hrF.heap⟩)
  have hneF : bm ≠ bF := by omega
  have hne4F : b4 ≠ bF := by have := HP1.out.lt; omega
  have hne4m : b4 ≠ bm := by omega
  have hbFw : w.heap.size ≤ bF := Nat.le_trans HB1.out.size hbF
  have hc0 := HC2.out.at_ 0
  have hc2 := HC2.out.at_ 2
  have hc3 := HC2.out.at_ 3
  have hp5 := HPF.out.old5
  have hp6 := HPF.out.new6
  have hf6 := HPF.out.unfr 6
  rw [show q.cells[0]? = some (.int .u8 q.kind) from rfl] at hc0
  rw [show q.cells[2]? = some (.int .u8 q.a) from rfl] at hc2
  rw [show q.cells[3]? = some (.int .u8 q.b) from rfl] at hc3
  clear HC1 HP1 HM1 HB1 HC2 hc1 hlt1 hq hrF hbF
  generalize wq = w2 at *
  by_cases k2 : q.kind = 2
  · rw [k2] at hc0
    go_upto_region 12 with (fail)
    have HP3 := Lib.hid (HPF.out.setNew (q.a))
    have HM3 := Lib.hid (HM2.out.other (p := ⟨bF, 6, none⟩) (v := .int .u8 (q.a)) hneF)
    have HR3 := Lib.hid (HP2.out.other (p := ⟨bF, 6, none⟩) (v := .int .u8 (q.a)) hne4F)
    have HB3 := Lib.hid (HB2.out.setCell (p := ⟨bF, 6, none⟩) hbFw (.int .u8 (q.a)))
    clear HPF HM2 HP2 HB2 hc0 hc2 hc3 hp5 hp6 hf6
    generalize w2.setCell ⟨bF, 6, none⟩ (.int .u8 (q.a)) = w3 at *
    have hp6 := HP3.out.new6
    have hmf := HM3.out.unfrozen i
    have hmc := HM3.out.cell hi4
    go_upto_region 13 with (fail)
    have HP4 := Lib.hid (HP3.out.other (p := ⟨bm, i, none⟩) (v := .int .u8 (q.a)) (Ne.symm hneF))
    have HR4 := Lib.hid (HR3.out.other (p := ⟨bm, i, none⟩) (v := .int .u8 (q.a)) hne4m)
    go_wp2_with (first | (refine wpList_load_part 74 _ rfl rfl (by rfl) (load74 HP4.out) ?_) | (refine wpList_store_prf rfl rfl _ _ rfl rfl rfl HR4.out ?_; intro hR))
    refine ret_prf rfl rfl hR rfl ?_
    have hE := done_end (q := q) (M := M) (new := q.a) HI.out (by rw [HOld.out]; unfold newM; rw [if_pos (.inl k2)]) HB3.out hge4 hbm HM3.out hi4
    rw [HOld.out] at hE
    exact hE
  by_cases k4 : q.kind = 4
  · rw [k4] at hc0
    go_upto_region 12 with (fail)
    have HP3 := Lib.hid (HPF.out.setNew (q.a))
    have HM3 := Lib.hid (HM2.out.other (p := ⟨bF, 6, none⟩) (v := .int .u8 (q.a)) hneF)
    have HR3 := Lib.hid (HP2.out.other (p := ⟨bF, 6, none⟩) (v := .int .u8 (q.a)) hne4F)
    have HB3 := Lib.hid (HB2.out.setCell (p := ⟨bF, 6, none⟩) hbFw (.int .u8 (q.a)))
    clear HPF HM2 HP2 HB2 hc0 hc2 hc3 hp5 hp6 hf6
    generalize w2.setCell ⟨bF, 6, none⟩ (.int .u8 (q.a)) = w3 at *
    have hp6 := HP3.out.new6
    have hmf := HM3.out.unfrozen i
    have hmc := HM3.out.cell hi4
    go_upto_region 13 with (fail)
    have HP4 := Lib.hid (HP3.out.other (p := ⟨bm, i, none⟩) (v := .int .u8 (q.a)) (Ne.symm hneF))
    have HR4 := Lib.hid (HR3.out.other (p := ⟨bm, i, none⟩) (v := .int .u8 (q.a)) hne4m)
    go_wp2_with (first | (refine wpList_load_part 74 _ rfl rfl (by rfl) (load74 HP4.out) ?_) | (refine wpList_store_prf rfl rfl _ _ rfl rfl rfl HR4.out ?_; intro hR))
    refine ret_prf rfl rfl hR rfl ?_
    have hE := done_end (q := q) (M := M) (new := q.a) HI.out (by rw [HOld.out]; unfold newM; rw [if_pos (.inr k4)]) HB3.out hge4 hbm HM3.out hi4
    rw [HOld.out] at hE
    exact hE
  have hk2 := ne_beq k2
  have hk4 := ne_beq k4
  by_cases k5 : q.kind = 5
  · rw [k5] at hc0
    clear hk2 hk4
    obtain ⟨nw, hnw⟩ : ∃ nw, (old + q.a) % 256 = nw := ⟨_, rfl⟩
    have hwr : IntKind.u8.wrap (old + q.a) = nw := by rw [IntKind.wrap_u8]; exact hnw
    have HNW := Lib.hid (show newM old q = nw by rw [← hnw]; unfold newM; rw [if_neg (by omega), if_pos k5])
    clear hnw
    go_upto_region 12 with (fail)
    have HP3 := Lib.hid (HPF.out.setNew (nw))
    have HM3 := Lib.hid (HM2.out.other (p := ⟨bF, 6, none⟩) (v := .int .u8 (nw)) hneF)
    have HR3 := Lib.hid (HP2.out.other (p := ⟨bF, 6, none⟩) (v := .int .u8 (nw)) hne4F)
    have HB3 := Lib.hid (HB2.out.setCell (p := ⟨bF, 6, none⟩) hbFw (.int .u8 (nw)))
    clear HPF HM2 HP2 HB2 hc0 hc2 hc3 hp5 hp6 hf6
    generalize w2.setCell ⟨bF, 6, none⟩ (.int .u8 (nw)) = w3 at *
    have hp6 := HP3.out.new6
    have hmf := HM3.out.unfrozen i
    have hmc := HM3.out.cell hi4
    go_upto_region 13 with (fail)
    have HP4 := Lib.hid (HP3.out.other (p := ⟨bm, i, none⟩) (v := .int .u8 (nw)) (Ne.symm hneF))
    have HR4 := Lib.hid (HR3.out.other (p := ⟨bm, i, none⟩) (v := .int .u8 (nw)) hne4m)
    go_wp2_with (first | (refine wpList_load_part 74 _ rfl rfl (by rfl) (load74 HP4.out) ?_) | (refine wpList_store_prf rfl rfl _ _ rfl rfl rfl HR4.out ?_; intro hR))
    refine ret_prf rfl rfl hR rfl ?_
    have hE := done_end (q := q) (M := M) (new := nw) HI.out (by rw [HOld.out]; exact HNW.out) HB3.out hge4 hbm HM3.out hi4
    rw [HOld.out] at hE
    exact hE
  have hk5 := ne_beq k5
  by_cases k6 : q.kind = 6
  · rw [k6] at hc0
    clear hk2 hk4 hk5
    by_cases ho : old = q.a
    · have hoe : (old == q.a) = true := by rw [ho]; exact beq_self_eq_true _
      have HNW := Lib.hid (show newM old q = q.b by unfold newM; rw [if_neg (by omega), if_neg k5, if_pos k6, if_pos ho])
      clear ho
      go_upto_region 12 with (fail)
      have HP3 := Lib.hid (HPF.out.setNew (q.b))
      have HM3 := Lib.hid (HM2.out.other (p := ⟨bF, 6, none⟩) (v := .int .u8 (q.b)) hneF)
      have HR3 := Lib.hid (HP2.out.other (p := ⟨bF, 6, none⟩) (v := .int .u8 (q.b)) hne4F)
      have HB3 := Lib.hid (HB2.out.setCell (p := ⟨bF, 6, none⟩) hbFw (.int .u8 (q.b)))
      clear HPF HM2 HP2 HB2 hc0 hc2 hc3 hp5 hp6 hf6
      generalize w2.setCell ⟨bF, 6, none⟩ (.int .u8 (q.b)) = w3 at *
      have hp6 := HP3.out.new6
      have hmf := HM3.out.unfrozen i
      have hmc := HM3.out.cell hi4
      go_upto_region 13 with (fail)
      have HP4 := Lib.hid (HP3.out.other (p := ⟨bm, i, none⟩) (v := .int .u8 (q.b)) (Ne.symm hneF))
      have HR4 := Lib.hid (HR3.out.other (p := ⟨bm, i, none⟩) (v := .int .u8 (q.b)) hne4m)
      go_wp2_with (first | (refine wpList_load_part 74 _ rfl rfl (by rfl) (load74 HP4.out) ?_) | (refine wpList_store_prf rfl rfl _ _ rfl rfl rfl HR4.out ?_; intro hR))
      refine ret_prf rfl rfl hR rfl ?_
      have hE := done_end (q := q) (M := M) (new := q.b) HI.out (by rw [HOld.out]; exact HNW.out) HB3.out hge4 hbm HM3.out hi4
      rw [HOld.out] at hE
      exact hE
    · have hoe : (old == q.a) = false := ne_beq ho
      have HNW := Lib.hid (show newM old q = old by unfold newM; rw [if_neg (by omega), if_neg k5, if_pos k6, if_neg ho])
      clear ho
      go_upto_region 12 with (fail)
      have HP3 := HPF
      have HM3 := HM2
      have HR3 := HP2
      have HB3 := HB2
      clear HPF HM2 HP2 HB2 hc0 hc2 hc3 hp5 hp6 hf6
      generalize w2 = w3 at *
      have hp6 := HP3.out.new6
      have hmf := HM3.out.unfrozen i
      have hmc := HM3.out.cell hi4
      go_upto_region 13 with (fail)
      have HP4 := Lib.hid (HP3.out.other (p := ⟨bm, i, none⟩) (v := .int .u8 (old)) (Ne.symm hneF))
      have HR4 := Lib.hid (HR3.out.other (p := ⟨bm, i, none⟩) (v := .int .u8 (old)) hne4m)
      go_wp2_with (first | (refine wpList_load_part 74 _ rfl rfl (by rfl) (load74 HP4.out) ?_) | (refine wpList_store_prf rfl rfl _ _ rfl rfl rfl HR4.out ?_; intro hR))
      refine ret_prf rfl rfl hR rfl ?_
      have hE := done_end (q := q) (M := M) (new := old) HI.out (by rw [HOld.out]; exact HNW.out) HB3.out hge4 hbm HM3.out hi4
      rw [HOld.out] at hE
      exact hE
  · have hk6 := ne_beq k6
    have HNW := Lib.hid (show newM old q = old by unfold newM; rw [if_neg (by omega), if_neg k5, if_neg k6])
    clear k2 k4 k5 k6
    go_upto_region 12 with (fail)
    have HP3 := HPF
    have HM3 := HM2
    have HR3 := HP2
    have HB3 := HB2
    clear HPF HM2 HP2 HB2 hc0 hc2 hc3 hp5 hp6 hf6
    generalize w2 = w3 at *
    have hp6 := HP3.out.new6
    have hmf := HM3.out.unfrozen i
    have hmc := HM3.out.cell hi4
    go_upto_region 13 with (fail)
    have HP4 := Lib.hid (HP3.out.other (p := ⟨bm, i, none⟩) (v := .int .u8 (old)) (Ne.symm hneF))
    have HR4 := Lib.hid (HR3.out.other (p := ⟨bm, i, none⟩) (v := .int .u8 (old)) hne4m)
    go_wp2_with (first | (refine wpList_load_part 74 _ rfl rfl (by rfl) (load74 HP4.out) ?_) | (refine wpList_store_prf rfl rfl _ _ rfl rfl rfl HR4.out ?_; intro hR))
    refine ret_prf rfl rfl hR rfl ?_
    have hE := done_end (q := q) (M := M) (new := old) HI.out (by rw [HOld.out]; exact HNW.out) HB3.out hge4 hbm HM3.out hi4
    rw [HOld.out] at hE
    exact hE
end Go.Proofs.Ytckcdpmfmfpmmaa
