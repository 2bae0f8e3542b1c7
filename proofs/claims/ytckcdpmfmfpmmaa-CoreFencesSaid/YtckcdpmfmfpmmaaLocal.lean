/-
  core.Local: the next instruction executed, if it needs no cache.
-/
import Derived.Test.YtckcdpmfmfpmmaaMw
import Derived.Maps.Own
import Derived.Maps.OwnOps
import Derived.Carry
namespace Go.Proofs.Ytckcdpmfmfpmmaa
open Go.RowKit Go.Maps

/-! The map of the methods. -/
def fElem (v : Value) : Option (DataW Unit × List MemPlace) :=
  match v with
  | .func (.func F) f c => if f.size = 0 ∧ c.size = 0 then some (.lit (.int .i64 (F : Int)), []) else none
  | .nilFunc => some (.nil, [])
  | _ => none
theorem fElem_inv {v : Value} {F : Nat} {ps : List MemPlace} (h : fElem v = some (.lit (.int .i64 (F : Int)), ps)) : v = .func (.func F) #[] #[] := by
  unfold fElem at h
  split at h
  · rename_i G f c
    split at h
    · rename_i hs
      simp only [Option.some.injEq, Prod.mk.injEq, DataW.lit.injEq, Lit.int.injEq, true_and, Int.natCast_inj] at h
      have hG : G = F := h.1
      rw [hG, Array.eq_empty_of_size_eq_zero hs.1, Array.eq_empty_of_size_eq_zero hs.2]
    · cases h
  · simp at h
  · cases h
theorem keyed5 : Keyed Try.prog 5 := int_keyed Try.underlying5
theorem zero66 (w : World) : (zeroValue 66).run Try.prog w = .ok .nilFunc w := by kernel_rfl
structure MSt (w0 w : World) (m n : Nat) (D : DataW Unit) : Prop where
  own : w.ownsMap Try.prog 5 fElem m n D
  bel : Below w0.heap.size w0 w
  ge : w0.heap.size ≤ m
theorem wf_u8 {x : Int} (h0 : 0 ≤ x) (h1 : x ≤ 255) : (Lit.int .u8 x).wf = true := WalkArith.wf_u8 (by omega)
theorem wpList_insertF {ops : Array Oper} {rest : List Oper} {o : Oper} {a : Act} {w0 w : World} {Q : Exit → Act → World → Prop} {m n : Nat} {D : DataW Unit} (hM : MSt w0 w m n D) (hg : o.guard = none) (x : Operand) (key : Int) (F : FuncId)
    (ho : o.op = .insert 68 x (.const (.int .u8 key)) (.func F)) (hx : a.eval x = .map (some m)) (hk : 0 ≤ key ∧ key ≤ 255) (hn : n ≤ 100)
    (h : ∀ w', MSt w0 w' m (n + 1) (D.put (.int .u8 key) (.lit (.int .i64 (F : Int)))) → wpList Try.prog ops Q rest (a.put o.dst undef) w') : wpList Try.prog ops Q (o :: rest) a w := by
  refine wpList_plain hg fun K' hK' => ?_
  obtain ⟨w', hrun, r1, r2⟩ := hM.own.update keyed5 Try.underlying68 (by unfold maxLen; omega) (key := .int .u8 key) (val := .func (.func F) #[] #[]) (kl := .int .u8 key) (keyOf_int_mk Try.underlying5 (wf_u8 hk.1 hk.2)) (d := .lit (.int .i64 (F : Int))) (ps := []) rfl
  unfold Oper.wp
  simp [execOp, ho, hx, show ∀ v, a.eval (.const v) = v from fun _ => rfl, show ∀ f, a.eval (.func f) = .func (.func f) #[] #[] from fun _ => rfl, hrun, Result.andThen]
  exact hK' _ _ (h w' ⟨r1, hM.bel.grown r2 hM.bel.size (fun k hk => by cases hk; exact hM.ge), hM.ge⟩)
theorem wpList_lookupF {ops : Array Oper} {rest : List Oper} {o : Oper} {a : Act} {w0 w : World} {Q : Exit → Act → World → Prop} {m n : Nat} {D : DataW Unit} (hM : MSt w0 w m n D) (hg : o.guard = none) (x y : Operand)
    (ho : o.op = .lookup 68 x y false) (hx : a.eval x = .map (some m)) {op : Int} (hy : a.eval y = .int .u8 op) (hk : 0 ≤ op ∧ op ≤ 255) {F : FuncId} (hD : D.atKey (.int .u8 op) .nil = .lit (.int .i64 (F : Int)))
    (h : wpList Try.prog ops Q rest (a.put o.dst (.func (.func F) #[] #[])) w) : wpList Try.prog ops Q (o :: rest) a w := by
  refine wpList_plain hg fun K' hK' => ?_
  obtain ⟨v, ps, hrun, hv⟩ := hM.own.lookup keyed5 Try.underlying68 (zero66 _) (zd := .nil) (zp := []) rfl (key := .int .u8 op) (kl := .int .u8 op) (keyOf_int_mk Try.underlying5 (wf_u8 hk.1 hk.2))
  rw [hD] at hv
  obtain rfl := fElem_inv hv
  unfold Oper.wp
  simp [execOp, ho, hx, hy, hrun, Result.andThen]
  exact hK' _ _ h

/-! Whole cores: made, stored, handed back. -/
def Cr.zero : Cr := ⟨0, fun _ => 0, .slice none 0 0, false, false⟩
theorem zero27 : (Try.prog.info? 27).bind (·.zero) = some (.agg Cr.zero.cells) := by kernel_rfl
theorem core_one {c : Cr} {ad : Option Addr} {n cap : Nat} (h : c.buf = .slice ad n cap) : c.cells.all (·.oneCell') = true := by
  unfold Cr.cells
  rw [h]
  simp [Value.oneCell']
theorem core_size (c : Cr) : c.cells.size = 12 := rfl
theorem wpList_store_core {ops : Array Oper} {rest : List Oper} {o : Oper} {a : Act} {w : World} {Q : Exit → Act → World → Prop} {b : Nat} {c d : Cr} {ad : Option Addr} {n cap : Nat} (hgd : o.guard = none) (x y : Operand) (ho : o.op = .store 27 x y)
    (hx : a.eval x = .pointer (some ⟨b, 0, none⟩)) (hy : a.eval y = .agg c.cells) (hc : c.buf = .slice ad n cap) (hR : CrAt w b d)
    (h : CrAt (w.setRow b c.cells) b c → wpList Try.prog ops Q rest (a.put o.dst undef) (w.setRow b c.cells)) : wpList Try.prog ops Q (o :: rest) a w :=
  wpList_store_row hgd 27 x y ho b c.cells hx hy 27 d.cells hR.heap (by rw [core_size]; kernel_rfl) (by rw [core_size, core_size]) (core_one hc) (h ⟨setRow_heap w b _ _ _ _ hR.heap⟩)
theorem ret_core {fn : Func} {p : Tmp} {R : Ending → World → Prop} {a : Act} {w : World} {b : Nat} {c : Cr} (hf : fn.results = #[.cell p 27]) (hp : a.tmps.getD p undef = .pointer (some ⟨b, 0, none⟩)) (hR : CrAt w b c)
    (hd : a.defers = []) (h : R (.returned (.agg c.cells)) w) : bodyPost Try.prog fn R .ret a w :=
  bodyPost_ret (results_cell_row hf a.tmps w b 27 c.cells (0, 0) _ hp hR.heap Try.underlying27 rfl (by rw [core_size]; kernel_rfl)) hd h

/-- What is known of an instruction. -/
structure XOk (x : In) : Prop where
  op : 0 ≤ x.op ∧ x.op ≤ 255
  dst : 0 ≤ x.dst ∧ x.dst ≤ 255
  loc : 0 ≤ x.loc ∧ x.loc ≤ 255
  an : 0 ≤ x.an ∧ x.an ≤ 255
  bn : 0 ≤ x.bn ∧ x.bn ≤ 255
  fn : 0 ≤ x.fn ∧ x.fn ≤ 255
  mode : 0 ≤ x.mode ∧ x.mode ≤ 255
  skip : 0 ≤ x.skip ∧ x.skip ≤ 255
theorem XOk.zero : XOk In.zero := by constructor <;> simp [In.zero]
/-- What is known of a core's numbers. -/
structure RgOk (c : Cr) : Prop where
  r0 : ∀ i, 0 ≤ c.r i
  r1 : ∀ i, c.r i ≤ 255
def xOf (c : Cr) (l : List In) : In := (l[c.pc.toNat]?).getD In.zero
theorem xOf_ok {c : Cr} {l : List In} (h : ∀ x ∈ l, XOk x) : XOk (xOf c l) := by
  unfold xOf
  cases hx : l[c.pc.toNat]? with
  | none => exact XOk.zero
  | some x => exact h x (List.mem_of_getElem? hx)
theorem mkW_ok {w : World} {c : Cr} {bl : List (Nat × Nat)} {v ins : Value} {l : List In} (h : ∀ x ∈ l, XOk x) (hr : RgOk c) (hc : CoreOk w c bl) : KOk (mkW c v ins l) := by
  have hx := xOf_ok (c := c) h
  exact ⟨hc.pc0, hc.pc1, hr.r0, hr.r1, hx.op.1, hx.dst.1, hx.loc, hx.an, hx.bn, hx.fn, hx.skip⟩
theorem InsOk.of {w : World} {ad : Option Addr} {cap : Nat} {l : List In} (h1 : InAt w w.heap.size ad l) (h2 : l.length ≤ maxLen) (h3 : ∀ x ∈ l, XOk x) : InsOk w (.slice ad l.length cap) l :=
  ⟨⟨ad, cap, rfl, h1⟩, h2, fun x hx => ⟨(h3 x hx).loc.1, (h3 x hx).an.1, (h3 x hx).bn.1, (h3 x hx).dst.1⟩⟩
theorem co_ofS {c : Cr} {bl : List (Nat × Nat)} {v : Value} {l : List In} (w : World) (h1 : CoreOk w c bl) (h2 : InsOk w v l) :
    Calls Try.prog 27 #[v, .agg c.cells] w fun e w' => ∃ b vb, e = .returned (.pointer (some ⟨b, 0, none⟩)) ∧ WkS w.heap.size w' b (mkW c vb v l) bl ∧ Below w.heap.size w w' :=
  (co_of w h1 h2).mono fun e w' ⟨b, vb, h1, h2, h3, h4, h5, h6⟩ => ⟨b, vb, h1, ⟨h2, h4, h5, h3⟩, h6⟩
theorem co_comesS {c : Cr} {bl : List (Nat × Nat)} {B b : Nat} {vb ins : Value} {l : List In} (most : Int) (w : World) (hl : ∀ x ∈ l, 0 ≤ x.loc ∧ 0 ≤ x.an ∧ 0 ≤ x.bn ∧ 0 ≤ x.dst) (hn : bl.length ≤ 1000) (h : WkS B w b (mkW c vb ins l) bl) :
    Calls Try.prog 28 #[.pointer (some ⟨b, 0, none⟩), .int .i64 most] w fun e w' => e = .returned (.int .u8 (nextV c l bl most)) ∧ Below w.heap.size w w' := by
  obtain ⟨ad, cap, hv, hs⟩ := h.buf
  have hv : vb = .slice ad bl.length cap := hv
  subst hv
  exact co_comes most b w hl hn h.at_ hs

/-- A core is handed back with a buffer of its own. -/
def LPost (w : World) (c : Cr) (bl : List (Nat × Nat)) (e : Ending) (w' : World) : Prop :=
  ∃ v, e = .returned (.agg { c with buf := v }.cells) ∧ w'.ownsRow w.heap.size 59 2 v bl.length (vst bl) ∧ Below w.heap.size w w'

section
theorem own_base {w : World} {base base' e size n : Nat} {v : Value} {xs : List Value} (h : w.ownsRow base e size v n xs) (hb : base' ≤ base) : w.ownsRow base' e size v n xs := by
  obtain ⟨hl, h1 | ⟨g, cap, cur, rfl, hg, r⟩⟩ := h
  · exact ⟨hl, .inl h1⟩
  · exact ⟨hl, .inr ⟨g, cap, cur, rfl, Nat.le_trans hb hg, r⟩⟩
/-- The result's block is stored last. -/
theorem lpost_end {w w1 w2 : World} {c' : Cr} {B b r : Nat} {k : Wk} {v : Value} {bl : List (Nat × Nat)} (hb1 : Below w.heap.size w w1) (hB : B = w1.heap.size) (hb2 : Below B w1 w2) (hk : WkS B w2 b k bl) (hc : k.c = { c' with buf := v }) (hr : w.heap.size ≤ r) (hrB : r < B) :
    LPost w c' bl (.returned (.agg k.c.cells)) (w2.setRow r k.c.cells) := by
  have hv : k.c.buf = v := by rw [hc]
  refine ⟨v, by rw [hc], ?_, Below.setRow' (hb1.trans (hb2.mono (by rw [hB]; exact hb1.size))) hr⟩
  rw [← hv]
  exact own_base (owns_of_heap hk.own fun g hg => setRow_other w2 r g _ (by have := (owned_block hk.own hg).1; omega)) (by rw [hB]; exact hb1.size)
end

/-- What lies there when Local begins. -/
structure Box3 (w wb : World) (b4 b5 b6 : Nat) (most : Int) (c : Cr) : Prop where
  r : wb.cell? ⟨b4, 3, none⟩ = some (.int .i64 most)
  c : CrAt wb b5 c
  z : CrAt wb b6 Cr.zero
  bel : Below w.heap.size w wb
  lt : b4 < wb.heap.size
  ge : w.heap.size ≤ b6
theorem box3 (w : World) (r1 r2 r3 most : Int) (ev : Bool) (c : Cr) : Box3 w (((w.alloc (.cells (rls r1 r2 r3 most ev) 35)).alloc (.cells c.cells 27)).alloc (.cells #[.int .u8 0, .int .u8 0, .int .u8 0, .int .u8 0, .int .u8 0, .int .u8 0, .int .u8 0, .int .u8 0, .int .u8 0, .slice none 0 0, .bool false, .bool false] 27)) w.heap.size (w.heap.size + 1) (w.heap.size + 1 + 1) most c := by
  rw [show (#[.int .u8 0, .int .u8 0, .int .u8 0, .int .u8 0, .int .u8 0, .int .u8 0, .int .u8 0, .int .u8 0, .int .u8 0, .slice none 0 0, .bool false, .bool false] : Array Value) = Cr.zero.cells from rfl]
  have hb1 := (Below.refl w.heap.size w).alloc (Nat.le_refl _) (.cells (rls r1 r2 r3 most ev) 35)
  have hb2 := hb1.alloc (by simp) (.cells c.cells 27)
  have hb3 := hb2.alloc (by simp; omega) (.cells Cr.zero.cells 27)
  have h3 : (w.alloc (.cells (rls r1 r2 r3 most ev) 35)).heap[w.heap.size]? = _ := heap_alloc_new w _
  have h4 := (Below.heap_alloc (w.alloc (.cells (rls r1 r2 r3 most ev) 35)) (.cells c.cells 27) w.heap.size (by simp)).trans h3
  have h5 := (Below.heap_alloc ((w.alloc (.cells (rls r1 r2 r3 most ev) 35)).alloc (.cells c.cells 27)) (.cells Cr.zero.cells 27) w.heap.size (by simp; omega)).trans h4
  refine ⟨?_, ?_, ?_, hb3, by simp; omega, by omega⟩
  · rw [cell_of_row _ _ _ _ _ _ h5]; rfl
  · have := CrAt.new (w.alloc (.cells (rls r1 r2 r3 most ev) 35)) c
    rw [World.size_alloc] at this
    exact this.over ((Below.refl _ _).alloc (Nat.le_refl _) _)
  · have := CrAt.new ((w.alloc (.cells (rls r1 r2 r3 most ev) 35)).alloc (.cells c.cells 27)) Cr.zero
    rw [World.size_alloc, World.size_alloc] at this
    exact this
theorem CoreOk.over' {w w' : World} {c : Cr} {bl : List (Nat × Nat)} (h : CoreOk w c bl) (hb : Below w.heap.size w w') : CoreOk w' c bl := h.over hb

set_option maxRecDepth 8000 in
set_option maxHeartbeats 4000000 in
/-- Where nothing can be done. -/
theorem c_LocalNot (c : Cr) (bl : List (Nat × Nat)) (v : Value) (l : List In) (r1 r2 r3 most : Int) (ev : Bool) (w : World) (h1 : CoreOk w c bl) (h2 : InsOk w v l) (hne : (nextV c l bl most == 2) = false) :
    Calls Try.prog 16 #[v, .agg (rls r1 r2 r3 most ev), .agg c.cells] w fun e w' => LPost w c bl e w' := by
  have HB := Lib.hid (box3 w r1 r2 r3 most ev c)
  have HCo := Lib.hid (h1.over HB.out.bel)
  have HIn := Lib.hid (h2.over HB.out.bel)
  clear h1 h2
  go_enter Try.func16, Try.ntmps16
  go_upto_region 1 with (fail)
  generalize ((w.alloc (.cells (rls r1 r2 r3 most ev) 35)).alloc (.cells c.cells 27)).alloc (.cells #[.int .u8 0, .int .u8 0, .int .u8 0, .int .u8 0, .int .u8 0, .int .u8 0, .int .u8 0, .int .u8 0, .int .u8 0, .slice none 0 0, .bool false, .bool false] 27) = wb at *
  generalize w.heap.size + 1 + 1 = b6 at *
  generalize w.heap.size + 1 = b5 at *
  obtain ⟨b4, hb4⟩ : ∃ b4, w.heap.size = b4 := ⟨_, rfl⟩
  rw [hb4] at HB ⊢
  clear hb4
  go_upto_region 2 with (first
    | (refine wpList_load_part 27 _ rfl rfl (by rfl) HB.out.c.load ?_)
    | (go_at_call 27; (with_reducible refine (co_ofS _ HCo.out HIn.out).mono ?_); rintro e w1 ⟨b, vb, rfl, hW, hbe⟩; obtain ⟨ad, cap, hv, -⟩ := hW.buf; have hv2 : vb = .slice ad bl.length cap := hv; subst hv2; have HW := Lib.hid hW; have HE := Lib.hid hbe; clear hW hbe hv))
  have hr1 := (HE.out.cell (p := ⟨b4, 3, none⟩) HB.out.lt).trans HB.out.r
  go_wp2_with (first
    | (go_at_call 28; (with_reducible refine (co_comesS most _ HIn.out.loc HCo.out.len HW.out).mono ?_); rintro e w2 ⟨rfl, hb2⟩; have HW2 := Lib.hid (HW.out.over hb2); have HB2 := Lib.hid hb2; clear hb2)
    | (refine wpList_load_part 27 _ rfl rfl (by rfl) HW2.out.at_.load ?_)
    | (refine wpList_store_core rfl _ _ rfl rfl rfl rfl ((HB.out.z.over HE.out).over HB2.out) ?_; intro hR))
  refine ret_core rfl rfl hR rfl ?_
  have := HB.out.ge
  have := HB.out.z.lt
  exact lpost_end HB.out.bel rfl (HE.out.trans (HB2.out.mono HE.out.size)) HW2.out rfl HB.out.ge HB.out.z.lt

/-- The map of the methods. -/
def tbl : DataW Unit := (((((DataW.map []).put (.int .u8 1) (.lit (.int .i64 29))).put (.int .u8 2) (.lit (.int .i64 30))).put (.int .u8 3) (.lit (.int .i64 31))).put (.int .u8 7) (.lit (.int .i64 32))).put (.int .u8 8) (.lit (.int .i64 33))
def Goes (F : FuncId) : Prop := ∀ args w, (callFunc F args).run Try.prog w = .ok (.enter F args) w
theorem goes {F : FuncId} {fn : Func} {c : Code} (h : Try.prog.funcs[F]? = some fn) (h1 : (fn.name == "runtime.NumGoroutine") = false) (h2 : fn.body = some c) : Goes F := fun args w => by
  have h1 : fn.name ≠ "runtime.NumGoroutine" := by simpa using h1
  simp [callFunc, run_program, h, h1, h2]
theorem mst_made (w : World) : MSt w (w.alloc (.map #[] 0)) w.heap.size 0 (.map []) := ⟨World.ownsMap_made _ _ _ _, (Below.refl _ _).alloc (Nat.le_refl _) _, Nat.le_refl _⟩
theorem MSt.tbl {w0 w : World} {m n : Nat} (h : MSt w0 w m n ((((((DataW.map []).put (.int .u8 1) (.lit (.int .i64 29))).put (.int .u8 2) (.lit (.int .i64 30))).put (.int .u8 3) (.lit (.int .i64 31))).put (.int .u8 7) (.lit (.int .i64 32))).put (.int .u8 8) (.lit (.int .i64 33)))) : MSt w0 w m n Go.Proofs.Ytckcdpmfmfpmmaa.tbl := h

theorem local_b {wb w1 w2 w3 w4 w5 : World} (h1 : Below wb.heap.size wb w1) (h2 : Below w1.heap.size w1 w2) (h3 : Below w2.heap.size w2 w3) (h4 : Below wb.heap.size w3 w4) (h5 : Below wb.heap.size w4 w5) : Below wb.heap.size wb w5 :=
  ((((h1.trans (h2.mono h1.size)).trans (h3.mono (Nat.le_trans h1.size h2.size))).trans h4).trans h5)
theorem local_z {w wb w1 w2 w3 w4 w5 : World} {b4 b5 b6 : Nat} {most : Int} {c : Cr} (h : Box3 w wb b4 b5 b6 most c) (h1 : Below wb.heap.size wb w1) (h2 : Below w1.heap.size w1 w2) (h3 : Below w2.heap.size w2 w3) (h4 : Below wb.heap.size w3 w4) (h5 : Below wb.heap.size w4 w5) : CrAt w5 b6 Cr.zero :=
  h.z.over (local_b h1 h2 h3 h4 h5)
set_option maxRecDepth 8000 in
set_option maxHeartbeats 4000000 in
/-- Where a method executes the instruction. -/
theorem c_LocalDo (c : Cr) (bl bl' : List (Nat × Nat)) (ai : Option Addr) (ni ci : Nat) (l : List In) (r1 r2 r3 most : Int) (ev : Bool) (w : World) (h1 : CoreOk w c bl) (hni : l.length = ni) (h2 : InsOk w (.slice ai ni ci) l) (heq : nextV c l bl most = 2)
    (F : FuncId) (r' : Nat → Int) (many op : Int) (hm0 : 0 ≤ many) (hm1 : many ≤ 256) (hop : (xOf c l).op = op) (hop1 : 0 ≤ op ∧ op ≤ 255) (hD : tbl.atKey (.int .u8 op) .nil = .lit (.int .i64 (F : Int))) (hgo : Goes F)
    (hmeth : ∀ (w' : World) (B b : Nat) (vb ins : Value), WkS B w' b (mkW c vb ins l) bl → Calls Try.prog F #[.pointer (some ⟨b, 0, none⟩)] w' fun e w'' => MPost B w' b (mkW c vb ins l) r' bl' many e w'') :
    Calls Try.prog 16 #[.slice ai ni ci, .agg (rls r1 r2 r3 most ev), .agg c.cells] w fun e w' => LPost w { c with pc := mn3 ni (c.pc + many), r := r' } bl' e w' := by
  have HB := Lib.hid (box3 w r1 r2 r3 most ev c)
  have HCo := Lib.hid (h1.over HB.out.bel)
  have HIn := Lib.hid (h2.over HB.out.bel)
  have HM := Lib.hid hmeth
  have HOp := Lib.hid hop
  have HD := Lib.hid hD
  have HNi := Lib.hid (show ni ≤ maxLen from hni ▸ h2.len)
  have hmm := @run_makeMap Try.prog
  have HCm := Lib.hid (fun (w1 : World) (B b : Nat) (vb : Value) (h : WkS B w1 b (mkW c vb (.slice ai ni ci) l) bl) => heq ▸ co_comesS most w1 h2.loc h1.len h)
  clear h1 h2 hmeth hop hD hni heq
  go_enter Try.func16, Try.ntmps16
  go_upto_region 1 with (fail)
  generalize ((w.alloc (.cells (rls r1 r2 r3 most ev) 35)).alloc (.cells c.cells 27)).alloc (.cells #[.int .u8 0, .int .u8 0, .int .u8 0, .int .u8 0, .int .u8 0, .int .u8 0, .int .u8 0, .int .u8 0, .int .u8 0, .slice none 0 0, .bool false, .bool false] 27) = wb at *
  generalize w.heap.size + 1 + 1 = b6 at *
  generalize w.heap.size + 1 = b5 at *
  obtain ⟨b4, hb4⟩ : ∃ b4, w.heap.size = b4 := ⟨_, rfl⟩
  rw [hb4] at HB ⊢
  clear hb4
  go_upto_region 2 with (first
    | (refine wpList_load_part 27 _ rfl rfl (by rfl) HB.out.c.load ?_)
    | (go_at_call 27; (with_reducible refine (co_ofS _ HCo.out HIn.out).mono ?_); rintro e w1 ⟨b, vb, rfl, hW, hbe⟩; have HW := Lib.hid hW; have HE := Lib.hid hbe; clear hW hbe))
  have hr1 := (HE.out.cell (p := ⟨b4, 3, none⟩) HB.out.lt).trans HB.out.r
  go_upto_region 3 with (first
    | (go_at_call 28; (with_reducible refine (HCm.out _ _ _ _ HW.out).mono ?_); rintro e w2 ⟨rfl, hb2⟩; have HW2 := Lib.hid (HW.out.over hb2); have HB2 := Lib.hid hb2; have hM := mst_made w2; clear hb2))
  clear hr1
  go_upto_region 4 with (first
    | (refine wpList_insertF hM rfl _ _ _ rfl rfl (by decide) (by decide) ?_; clear hM; intro wM hM))
  have HT := Lib.hid (MSt.tbl hM)
  clear hM
  have HW3 := Lib.hid (HW2.out.over HT.out.bel)
  have hopc := HW3.out.at_.op
  rw [show (mkW c vb (.slice ai ni ci) l).x.op = op from HOp.out] at hopc
  have hgo2 : ∀ args w, (callFunc F args).run Try.prog w = .ok (.enter F args) w := hgo
  go_wp2_with (first
    | (refine wpList_lookupF HT.out rfl _ _ rfl rfl rfl hop1 HD.out ?_)
    | ((with_reducible refine (HM.out _ _ _ _ _ HW3.out).mono ?_); rintro e w4 ⟨rfl, ⟨v4, hW4⟩, hb4, hs4⟩; have HW4 := Lib.hid hW4; have HB4 := Lib.hid hb4; have HS4 := Lib.hid hs4; have HBf := Lib.hid hW4.buf; clear hW4 hb4 hs4)
    | (go_at_call 34; (with_reducible refine (c_on b _ many ai ni ci rfl HCo.out.pc0 HCo.out.pc1 hm0 hm1 HNi.out _ HW4.out.ge _ HW4.out.at_).mono ?_); rintro e w5 ⟨rfl, hL⟩; have HW5 := Lib.hid (HW4.out.left hL rfl); have HB5 := Lib.hid hL.bel; clear hL)
    | (refine wpList_load_part 27 _ rfl rfl (by rfl) HW5.out.at_.load ?_)
    | (refine wpList_store_core rfl _ _ rfl rfl rfl HBf.out.choose_spec.choose_spec.1 (local_z HB.out HE.out HB2.out HT.out.bel HB4.out HB5.out) ?_; intro hR))
  refine ret_core rfl rfl hR rfl ?_
  exact lpost_end HB.out.bel rfl (local_b HE.out HB2.out HT.out.bel HB4.out HB5.out) HW5.out rfl HB.out.ge HB.out.z.lt

/-! What Local does to a core. -/
def aOf (c : Cr) (l : List In) : Int := argV c (xOf c l).ar (xOf c l).an
def bOf (c : Cr) (l : List In) : Int := argV c (xOf c l).br (xOf c l).bn
def rsetC (c : Cr) (x : In) (v : Int) : Nat → Int := if x.dst < 8 then updR c.r x.dst.toNat v else c.r
def locR (c : Cr) (l : List In) (bl : List (Nat × Nat)) : Nat → Int :=
  if (xOf c l).op = 1 then rsetC c (xOf c l) ((yng bl (xOf c l).loc.toNat).getD 0 : Nat) else if (xOf c l).op = 3 then rsetC c (xOf c l) (cal (xOf c l).fn (aOf c l) (bOf c l)) else c.r
def locM (c : Cr) (l : List In) : Int := if (xOf c l).op = 8 then (if tst (xOf c l).fn (aOf c l) (bOf c l) then 1 + (xOf c l).skip else 1) else 1
def locBl (c : Cr) (l : List In) (bl : List (Nat × Nat)) : List (Nat × Nat) := if (xOf c l).op = 2 then bl ++ [((xOf c l).loc.toNat, (aOf c l).toNat)] else bl
def locC (c : Cr) (l : List In) (bl : List (Nat × Nat)) (most : Int) : Cr := if nextV c l bl most = 2 then { c with pc := mn3 l.length (c.pc + locM c l), r := locR c l bl } else c
def locB (c : Cr) (l : List In) (bl : List (Nat × Nat)) (most : Int) : List (Nat × Nat) := if nextV c l bl most = 2 then locBl c l bl else bl
theorem next2 {c : Cr} {l : List In} {bl : List (Nat × Nat)} {most : Int} (h : nextV c l bl most = 2) : (xOf c l).op = 1 ∨ (xOf c l).op = 2 ∨ (xOf c l).op = 3 ∨ (xOf c l).op = 7 ∨ (xOf c l).op = 8 := by
  apply Classical.byContradiction
  intro hn
  simp only [not_or] at hn
  obtain ⟨h1, h2, h3, h7, h8⟩ := hn
  have hx : (mkW c (.slice none 0 0) (.slice none 0 0) l).x = xOf c l := rfl
  unfold nextV nxtV at h
  rw [hx] at h
  simp only [h1, h2, h3, h7, h8, or_false, if_false] at h
  unfold askV at h
  split at h
  · omega
  · split at h
    · split at h <;> omega
    · split at h
      · split at h
        · split at h <;> omega
        · omega
      · omega
theorem goes29 : Goes 29 := goes Try.func29 (by kernel_rfl) rfl
theorem goes30 : Goes 30 := goes Try.func30 (by kernel_rfl) rfl
theorem goes31 : Goes 31 := goes Try.func31 (by kernel_rfl) rfl
theorem goes32 : Goes 32 := goes Try.func32 (by kernel_rfl) rfl
theorem goes33 : Goes 33 := goes Try.func33 (by kernel_rfl) rfl
/-- What a core needs. -/
structure CIn (w : World) (c : Cr) (bl : List (Nat × Nat)) (v : Value) (l : List In) : Prop where
  core : CoreOk w c bl
  ins : InsOk w v l
  x : ∀ x ∈ l, XOk x
  r : RgOk c
theorem CIn.over {w w' : World} {c : Cr} {bl : List (Nat × Nat)} {v : Value} {l : List In} (h : CIn w c bl v l) (hb : Below w.heap.size w w') : CIn w' c bl v l := ⟨h.core.over hb, h.ins.over hb, h.x, h.r⟩

theorem c_Local {c : Cr} {bl : List (Nat × Nat)} {v : Value} {l : List In} (r1 r2 r3 most : Int) (ev : Bool) {w : World} (h : CIn w c bl v l) :
    Calls Try.prog 16 #[v, .agg (rls r1 r2 r3 most ev), .agg c.cells] w fun e w' => LPost w (locC c l bl most) (locB c l bl most) e w' := by
  by_cases hn : nextV c l bl most = 2
  · have hk : ∀ vb ins, KOk (mkW c vb ins l) := fun vb ins => mkW_ok h.x h.r h.core
    obtain ⟨ad, cap, rfl, hi⟩ := h.ins.sl
    unfold locC locB
    rw [if_pos hn, if_pos hn]
    rcases next2 hn with hop | hop | hop | hop | hop
    · have := c_LocalDo c bl bl ad l.length cap l r1 r2 r3 most ev w h.core rfl h.ins hn 29 (rsetC c (xOf c l) ((yng bl (xOf c l).loc.toNat).getD 0 : Nat)) 1 1 (by decide) (by decide) hop (by decide) (by kernel_rfl) goes29
        (fun w' B b vb ins hS => c_mload (hk vb ins) h.core.len hS)
      unfold locM locR locBl
      simp only [hop]
      exact this
    · have := c_LocalDo c bl (bl ++ [((xOf c l).loc.toNat, (aOf c l).toNat)]) ad l.length cap l r1 r2 r3 most ev w h.core rfl h.ins hn 30 c.r 1 2 (by decide) (by decide) hop (by decide) (by kernel_rfl) goes30
        (fun w' B b vb ins hS => c_mstore (hk vb ins) h.core.len hS)
      unfold locM locR locBl
      simp only [hop]
      exact this
    · have := c_LocalDo c bl bl ad l.length cap l r1 r2 r3 most ev w h.core rfl h.ins hn 31 (rsetC c (xOf c l) (cal (xOf c l).fn (aOf c l) (bOf c l))) 1 3 (by decide) (by decide) hop (by decide) (by kernel_rfl) goes31
        (fun w' B b vb ins hS => c_mmove (hk vb ins) hS)
      unfold locM locR locBl
      simp only [hop]
      exact this
    · have := c_LocalDo c bl bl ad l.length cap l r1 r2 r3 most ev w h.core rfl h.ins hn 32 c.r 1 7 (by decide) (by decide) hop (by decide) (by kernel_rfl) goes32
        (fun w' B b vb ins hS => c_mfence hS)
      unfold locM locR locBl
      simp only [hop]
      exact this
    · have hs := (xOf_ok (c := c) h.x).skip
      have := c_LocalDo c bl bl ad l.length cap l r1 r2 r3 most ev w h.core rfl h.ins hn 33 c.r (if tst (xOf c l).fn (aOf c l) (bOf c l) then 1 + (xOf c l).skip else 1) 8 (by split <;> omega) (by split <;> omega) hop (by decide) (by kernel_rfl) goes33
        (fun w' B b vb ins hS => c_mskip (hk vb ins) hS)
      unfold locM locR locBl
      simp only [hop]
      exact this
  · unfold locC locB
    rw [if_neg hn, if_neg hn]
    exact c_LocalNot c bl v l r1 r2 r3 most ev w h.core h.ins (beq_eq_false_iff_ne.2 hn)
end Go.Proofs.Ytckcdpmfmfpmmaa
