/-
  seisinlaw30.CoreFences: the walk.
-/
import Derived.Test.YtckcdpmfmfpmmaaLFenP
namespace Go.Proofs.Ytckcdpmfmfpmmaa
open Go.RowKit

/-- A slice reads as a list of flags. -/
def BAt (w : World) (N : Nat) (ad : Option Addr) (l : List Bool) : Prop :=
  ∀ (j : Nat) b, l[j]? = some b → ∃ c off, ad = some ⟨c, off, none⟩ ∧ c < N ∧ w.cell? ⟨c, off + j, none⟩ = some (.bool b)
theorem BAt.below {w w' : World} {N : Nat} {ad : Option Addr} {l : List Bool} (h : BAt w N ad l) (hb : Below N w w') : BAt w' N ad l :=
  fun j b hj => let ⟨c, off, e, hlt, h1⟩ := h j b hj; ⟨c, off, e, hlt, (hb.cell (p := ⟨c, off + j, none⟩) hlt).trans h1⟩
structure FL (w0 w : World) (b8 b9 bm : Nat) (pk : Int) (v : Value) (tl : List In) (c : Cr) (bl : List (Nat × Nat)) (M : Nat → Int) : Prop where
  bel : Below w0.heap.size w0 w
  rl : BlkAt w b8 (rls 0 0 0 pk false) 35
  cr : CrAt w b9 c
  ain : AIn w bm c bl v tl M
  sep9 : ∀ ad n cap, v = .slice (some ad) n cap → ad.block ≠ b9
theorem built35 (m : Int) : Try.prog.built 35 [(3, .int .i64 m)] = some (rls 0 0 0 m false) := by kernel_rfl
theorem build35 (m : Int) (w : World) : (Instr.build 35 #[(3, .int .i64 m)]).run Try.prog w = .ok (.agg (rls 0 0 0 m false)) w := run_build w 35 _ _ (built35 m)
theorem built38 : Try.prog.built 38 [] = some In.zero.cells := by kernel_rfl
theorem build38 (w : World) : (Instr.build 38 #[]).run Try.prog w = .ok (.agg In.zero.cells) w := run_build w 38 _ _ built38
theorem rls_one (a b c d : Int) (e : Bool) : (rls a b c d e).all (·.oneCell') = true := by unfold rls; simp [Value.oneCell']
theorem size35 : (Try.prog.info? 35).map (·.size) = some 5 := by kernel_rfl
theorem tm_ok {x : In} (h : XOk x) : XOk (tm x) := by
  obtain ⟨h1, h2, h3, h4, h5, h6, h7, h8⟩ := h
  exact ⟨by show 0 ≤ 1 + x.op % 8 ∧ 1 + x.op % 8 ≤ 255; omega, h2, by show 0 ≤ x.loc % 4 ∧ x.loc % 4 ≤ 255; omega, h4, h5, h6, h7, h8⟩
theorem AIn.over {w w' : World} {bm : Nat} {c : Cr} {bl : List (Nat × Nat)} {v : Value} {l : List In} {M : Nat → Int} (h : AIn w bm c bl v l M) (hb : Below w.heap.size w w') : AIn w' bm c bl v l M := h.ups (Ups.of bm hb) (h.mem.over hb)
theorem FL.over {w0 w w' : World} {b8 b9 bm : Nat} {pk : Int} {v : Value} {tl : List In} {c : Cr} {bl : List (Nat × Nat)} {M : Nat → Int} (h : FL w0 w b8 b9 bm pk v tl c bl M) (hb : Below w.heap.size w w') : FL w0 w' b8 b9 bm pk v tl c bl M :=
  ⟨Below.chain h.bel hb, h.rl.over hb, h.cr.over hb, h.ain.over hb, h.sep9⟩

theorem fl_start {w w2 w4 : World} {adl : Option Addr} {N capl : Nat} {tl : List In} {pk : Int} (hB2 : Below w.heap.size w w2) (hin : InAt w2 w2.heap.size adl tl) (hlen : tl.length = N) (hN : N ≤ 60) (hx : ∀ x ∈ tl, XOk x) (hv : ∀ ad n cap, Value.slice adl N capl = .slice (some ad) n cap → ad.block < w2.heap.size)
    (hb4 : Below (w2.alloc (.cells (rls 0 0 0 pk false) 35)).heap.size (w2.alloc (.cells (rls 0 0 0 pk false) 35)) w4) :
    FL w ((w4.alloc (.cells Cr.zero.cells 27)).alloc (.cells #[.int .u8 0, .int .u8 0, .int .u8 0, .int .u8 0] 43)) w2.heap.size w4.heap.size (w4.heap.size + 1) pk (.slice adl N capl) tl Cr.zero [] (fun _ => 0) := by
  have h3 := (Below.refl w2.heap.size w2).alloc (Nat.le_refl _) (.cells (rls 0 0 0 pk false) 35)
  have h4 : Below w2.heap.size w2 w4 := Below.chain h3 hb4
  have h5 := (Below.refl w4.heap.size w4).alloc (Nat.le_refl _) (.cells Cr.zero.cells 27)
  have h6 := (Below.refl (w4.alloc (.cells Cr.zero.cells 27)).heap.size (w4.alloc (.cells Cr.zero.cells 27))).alloc (Nat.le_refl _) (.cells #[.int .u8 0, .int .u8 0, .int .u8 0, .int .u8 0] 43)
  have h56 := Below.chain h5 h6
  have h26 := Below.chain h4 h56
  have hm := heap_alloc_new (w4.alloc (.cells Cr.zero.cells 27)) (.cells #[.int .u8 0, .int .u8 0, .int .u8 0, .int .u8 0] 43)
  rw [World.size_alloc] at hm
  have hlt := h4.size
  refine ⟨Below.chain hB2 h26, ((BlkAt.new w2 (rls 0 0 0 pk false) 35).over hb4).over h56, (CrAt.new w4 Cr.zero).over h6, ?_, fun ad n cap e eb => ?_⟩
  · refine ⟨⟨⟨by decide, by decide, nil_buf _, by decide⟩, ?_, hx, rg_zero⟩, ⟨hm⟩, ⟨fun _ => Int.le_refl 0, fun _ => (by decide)⟩, fun p hp => (by cases hp), fun ad n cap e eb => ?_, fun ad n cap e => ?_, rfl, rfl⟩
    · rw [← hlen]
      exact InsOk.of ((hin.below h26).mono h26.size) (by unfold maxLen; omega) hx
    · have := hv ad n cap e; omega
    · have e : Value.slice none 0 0 = .slice (some ad) n cap := e
      simp at e
  · have := hv ad n cap e; omega
/-- What the region that asks alone leaves. -/
def PF (tl : List In) (pk : Int) (c : Cr) (bl : List (Nat × Nat)) (M : Nat → Int) (bm : Nat) (w2 : World) (β : Tmp → Value) (w' : World) : Prop :=
  ∃ (did d : Bool) (c2 : Cr) (bl2 : List (Nat × Nat)) (M2 : Nat → Int) (b13 : Nat) (u : Value), stepR tl pk d c bl M = (c2, bl2, M2, did) ∧ β 13 = .pointer (some ⟨b13, 0, none⟩) ∧ β 14 = .bool did ∧ CrAt w' b13 { c2 with buf := u } ∧ BufOk w' u bl2 ∧ Row59 w' u ∧ MemAt w' bm M2 ∧ Ups w2 w' bm
theorem PF.mk {a a' : Act} {D : List Tmp} {Pw : (Tmp → Value) → World → Prop} {w' : World} (h : a' = ovl a (fun s => a'.eval (.tmp s)) D) (hp : Pw (fun s => a'.eval (.tmp s)) w') : Exit.normal = .normal ∧ ∃ β, a' = ovl a β D ∧ Pw β w' := ⟨rfl, _, h, hp⟩
theorem wp_forgetW {P : Program} {C : Code} {Q : Exit → Act → World → Prop} {a : Act} {w : World} (D : List Tmp) (Pw : (Tmp → Value) → World → Prop) (h1 : C.wp P (fun e a' w' => e = .normal ∧ ∃ β, a' = ovl a β D ∧ Pw β w') a w)
    (h2 : ∀ β w', Pw β w' → Q .normal (ovl a β D) w') : C.wp P Q a w :=
  Code.wp_mono (fun e a' w' ⟨he, β, hβ, hp⟩ => by subst he hβ; exact h2 β w' hp) h1
theorem CrAt.pcc {w : World} {b : Nat} {c : Cr} (h : CrAt w b c) : w.cell? ⟨b, 0, none⟩ = some (.int .u8 c.pc) := h.at_ 0
theorem CrAt.bufc {w : World} {b : Nat} {c : Cr} (h : CrAt w b c) : w.cell? ⟨b, 9, none⟩ = some c.buf := h.at_ 9
theorem InB.opc {w : World} {b : Nat} {x : In} (h : InB w b x) : w.cell? ⟨b, 0, none⟩ = some (.int .u8 x.op) := h.at_ 0
theorem InB.modec {w : World} {b : Nat} {x : In} (h : InB w b x) : w.cell? ⟨b, 8, none⟩ = some (.int .u8 x.mode) := h.at_ 8
theorem BlkAt.rls3 {w : World} {b : Nat} {r1 r2 r3 m : Int} {ev : Bool} (h : BlkAt w b (rls r1 r2 r3 m ev) 35) : w.cell? ⟨b, 3, none⟩ = some (.int .i64 m) := by rw [cell_of_row w b 3 _ _ _ h.heap]; rfl
theorem blk_ups {w w' : World} {b bm : Nat} {o : Obj} (h : w.heap[b]? = some o) (hu : Ups w w' bm) (hne : b ≠ bm) : w'.heap[b]? = some o := (hu.block b (Array.getElem?_eq_some_iff.1 h).1 (fun e => hne (by cases e; rfl))).trans h
theorem AIn.cok {w : World} {bm : Nat} {c : Cr} {bl : List (Nat × Nat)} {v : Value} {l : List In} {M : Nat → Int} (h : AIn w bm c bl v l M) : COk c bl M := ⟨h.cin.core.pc0, h.cin.core.pc1, h.cin.r, h.mok, h.bok, h.wt, h.dr⟩
/-- The next round's facts. -/
theorem fl_next {w0 w wq w9 : World} {b8 b9 bm : Nat} {pk : Int} {v : Value} {tl : List In} {c c' : Cr} {bl bl' : List (Nat × Nat)} {M M' : Nat → Int} {d did : Bool} {u : Value} (h : FL w0 w b8 b9 bm pk v tl c bl M) (hst : stepR tl pk d c bl M = (c', bl', M', did)) (hl : bl.length ≤ 200)
    (hu : Ups w wq bm) (hbu : BufOk wq u bl') (hr : Row59 wq u) (hm : MemAt wq bm M') (hb : Below wq.heap.size wq w9) (h89 : b8 ≠ b9) (h8m : b8 ≠ bm) (h9m : b9 ≠ bm) (h9 : w0.heap.size ≤ b9) (hgm : w0.heap.size ≤ bm) :
    FL w0 (w9.setRow b9 { c' with buf := u }.cells) b8 b9 bm pk v tl { c' with buf := u } bl' M' := by
  obtain ⟨hk, hlen⟩ := step_ok h.ain.cok h.ain.cin.x hst
  have h1 : Ups w w9 bm := hu.trans (Ups.of bm hb)
  have hC : CrAt w9 b9 c := ⟨blk_ups h.cr.heap h1 h9m⟩
  have hR : w9.heap[b8]? = some (.cells (rls 0 0 0 pk false) 35 (0, 0)) := blk_ups h.rl.heap h1 h8m
  have hr9 := hr.over hb
  have hb9 := hbu.over hb
  have hm9 := hm.over hb
  have hoth : ∀ k, k ≠ b9 → (w9.setRow b9 { c' with buf := u }.cells).heap[k]? = w9.heap[k]? := fun k hk => setRow_other w9 b9 k _ hk
  have hne := hr9.ne hC.heap (by decide)
  have hb2 := hb9.same (w' := w9.setRow b9 { c' with buf := u }.cells) (fun k _ hk => hoth k hk) (by simp [World.setRow]) hne
  have hin := h.ain.cin.ins
  obtain ⟨ad, cap, hv, hi⟩ := hin.sl
  refine ⟨Below.setRow' (h.bel.trans (h1.below hgm (Nat.le_of_lt h.ain.mem.lt))) h9, ⟨(hoth b8 h89).trans hR⟩, ⟨setRow_heap w9 b9 _ _ _ _ hC.heap⟩, ?_, h.sep9⟩
  · refine ⟨⟨⟨hk.pc0, hk.pc1, hb2, by omega⟩, ⟨⟨ad, cap, hv, fun j x hj => ?_⟩, hin.len, hin.loc⟩, h.ain.cin.x, ⟨hk.r.r0, hk.r.r1⟩⟩, ⟨(hoth bm h9m.symm).trans hm9.heap⟩, hk.m, hk.b, h.ain.sep, hr9.same fun ad n cap e => hoth _ (hne ad n cap e), hk.wt, hk.dr⟩
    obtain ⟨g, off, e, hlt, hc⟩ := hi j x hj
    have hg1 := h.ain.sep _ _ _ (by rw [hv, e])
    have hg2 := h.sep9 _ _ _ (by rw [hv, e])
    have hh := (hoth g hg2).trans (h1.block g hlt (fun e => hg1 (by cases e; rfl)))
    exact ⟨g, off, e, by simp only [World.setRow, Array.size_modify]; exact Nat.lt_of_lt_of_le hlt h1.size, fun i y hiy => (World.cell?_of_block (a := ⟨g, _, none⟩) hh).trans (hc i y hiy)⟩

set_option maxRecDepth 8000 in
set_option maxHeartbeats 8000000 in
theorem fen_walk (ai : Option Addr) (n ci : Nat) (l : List In) (hn : l.length = n) (hmax : n ≤ 140737488355328) (hx : ∀ x ∈ l, XOk x) (bf : Int) (hb0 : -9223372036854775808 ≤ bf) (hb1 : bf ≤ 9223372036854775807) (da : Option Addr) (nd cd : Nat) (dl : List Bool) (hdl : dl.length = nd) (w : World) (hi : InAt w w.heap.size ai l) (hd : BAt w w.heap.size da dl) :
    Calls Try.prog 7 #[.slice ai n ci, .int .i64 bf, .slice da nd cd] w fun e w' => e = .returned (.bool true) ∧ Below w.heap.size w w' := by
  have HTm := Lib.hid (fun w' (h : Below w.heap.size w w') => c_tame ai n ci l hn hmax hx w' ((hi.below h).mono h.size))
  have HX := Lib.hid hx
  have HDl := Lib.hid hdl
  have HD := Lib.hid hd
  obtain ⟨pk, hpk⟩ : ∃ pk, bf % 5 = pk := ⟨_, rfl⟩
  have hpk0 : 0 ≤ pk ∧ pk ≤ 4 := by omega
  have HPk := Lib.hid (fun w' => hpk ▸ c_Pick bf hb0 hb1 w')
  obtain ⟨tl, htl⟩ : ∃ tl, tmN l (min n 60) = tl := ⟨_, rfl⟩
  obtain ⟨N, hN⟩ : ∃ N, min n 60 = N := ⟨_, rfl⟩
  have HLen := Lib.hid (show tl.length = N by rw [← htl, ← hN]; exact tmN_len (by omega))
  have HTX := Lib.hid (show ∀ x ∈ tl, XOk x ∧ 1 ≤ x.op ∧ x.op ≤ 8 from fun x hx' => by
    rw [← htl] at hx'
    unfold tmN at hx'
    obtain ⟨y, hy, rfl⟩ := List.mem_map.1 hx'
    have := hx y (List.mem_of_mem_take hy)
    refine ⟨tm_ok this, ?_, ?_⟩ <;> show _ ≤ _ <;> unfold tm <;> simp only <;> omega)
  have hN60 : N ≤ 60 := by omega
  rw [htl, hN] at HTm
  have hbd := build35
  have hbd8 := build38
  clear hn hmax hx hb0 hb1 hdl hi hd hpk htl hN
  go_enter Try.func7, Try.ntmps7
  go_upto_region 4 with (first
    | (go_at_call 14; (with_reducible refine (c_awake _).mono ?_); rintro e w1 ⟨rfl, hb⟩; have HB1 := Lib.hid hb; clear hb)
    | (go_at_call 19; (with_reducible refine (HTm.out _ HB1.out).mono ?_); rintro e w2 ⟨v, rfl, ho, hb⟩; have HO := Lib.hid ho; obtain ⟨adl, capl, rfl, hin⟩ := InAt.of_owns ho; have HIN := Lib.hid hin; have HB2 := Lib.hid (Below.chain HB1.out hb); have HG2 := Lib.hid hb.size; clear ho hin hb))
  go_upto_region 7 with (first
    | (go_at_call 20; (with_reducible refine (HPk.out _).mono ?_); rintro e w3 ⟨rfl, rfl⟩)
    | (go_at_call 21; (with_reducible refine (c_New _).mono ?_); rintro e w4 ⟨rfl, hb⟩; have HB4 := Lib.hid hb; clear hb)
    | (refine wpList_store_new rfl _ _ rfl rfl rfl size35 rfl (rls_one _ _ _ _ _) ?_)
    | (refine wpList_store_new rfl _ _ rfl rfl rfl size27 rfl (core_one rfl) ?_))
  have HFL := Lib.hid (fl_start HB2.out HIN.out HLen.out hN60 (fun x hx => (HTX.out x hx).1) (fun ad n' cap e => (owned_block HO.out (by rw [e]; rfl)).2) HB4.out)
  have hb8 : w.heap.size ≤ w2.heap.size := HB2.out.size
  have hlt4 : w2.heap.size + 1 ≤ w4.heap.size := by have := HB4.out.size; rw [World.size_alloc] at this; exact this
  obtain ⟨bm, hbme⟩ : ∃ b, w4.heap.size + 1 = b := ⟨_, rfl⟩
  rw [hbme] at HFL ⊢
  clear HIN HO HB1 HB2 HB4 HG2 HTm
  generalize (w4.alloc (.cells Cr.zero.cells 27)).alloc (.cells #[.int .u8 0, .int .u8 0, .int .u8 0, .int .u8 0] 43) = wL at *
  generalize w2.heap.size = b8 at *
  generalize w4.heap.size = b9 at *
  have h89 : b8 ≠ b9 := by omega
  have h8m : b8 ≠ bm := by omega
  have h9m : b9 ≠ bm := by omega
  have h9g : w.heap.size ≤ b9 := by omega
  have hmg : w.heap.size ≤ bm := by omega
  clear hlt4 hbme hb8
  go_upto_region 8 with (fail)
  go_loopw [11] (fun i wr => ∃ (j : Nat) (c : Cr) (bl : List (Nat × Nat)) (M : Nat → Int), j ≤ 200 ∧ i = .int .i64 j ∧ bl.length ≤ j ∧ (pk = 0 → bl = []) ∧ FL w wr b8 b9 bm pk (.slice adl N capl) tl c bl M) (fun i _ => 200 - (intOf i).toNat)
  case atStart => exact ⟨0, _, _, _, by omega, rfl, Nat.le_refl _, fun _ => rfl, HFL.out⟩
  case round =>
    obtain ⟨j, c, bl, M, hj, rfl, hbl, hpk, hfl⟩ := hrel
    have HF := Lib.hid hfl
    have HPK := Lib.hid hpk
    clear hfl hpk
    by_cases hlt : j < 200
    · have hji : (j : Int) < 200 := by omega
      have q0 := HF.out.cr.pcc
      have hpc0 := HF.out.ain.cin.core.pc0
      have hpc1 := HF.out.ain.cin.core.pc1
      obtain ⟨p, hp⟩ : ∃ p : Nat, c.pc = p := ⟨c.pc.toNat, (Int.toNat_of_nonneg hpc0).symm⟩
      have hpt : c.pc.toNat = p := by omega
      rw [hp] at q0
      have hp255 : p ≤ 255 := by omega
      have HPE := Lib.hid hp
      clear hp hpc0 hpc1
      go_upto_region 11 with (refine wpList_store_new rfl _ _ rfl rfl rfl InB.size38 rfl (in_one _) ?_)
      have hbn := (Below.refl wr.heap.size wr).alloc (Nat.le_refl _) (.cells In.zero.cells 38)
      have HF1 := Lib.hid (HF.out.over hbn)
      have HX1 := Lib.hid (InB.new wr In.zero)
      have q1 := (hbn.cell (p := ⟨b9, 0, none⟩) HF.out.cr.lt).trans q0
      have HB12 := Lib.hid hbn
      have hge12 := Nat.le_refl wr.heap.size
      have hbm12 := HF.out.ain.mem.lt
      clear q0 hbn
      rw [show In.zero.cells = #[.int .u8 0, .int .u8 0, .int .u8 0, .bool false, .int .u8 0, .bool false, .int .u8 0, .int .u8 0, .int .u8 0, .int .u8 0] from rfl] at HF1 HX1 q1 HB12
      generalize wr.alloc (.cells #[.int .u8 0, .int .u8 0, .int .u8 0, .bool false, .int .u8 0, .bool false, .int .u8 0, .int .u8 0, .int .u8 0, .int .u8 0] 38) = w1 at *
      obtain ⟨b12, hb12⟩ : ∃ b, wr.heap.size = b := ⟨_, rfl⟩
      rw [hb12] at HX1 hbm12 ⊢
      by_cases hpn : p < N
      · have hpi : (p : Int) < (N : Int) := by omega
        have hpl : p < tl.length := by rw [HLen.out]; exact hpn
        have hxo : xOf c tl = tl[p] := by unfold xOf; rw [hpt, List.getElem?_eq_getElem hpl]; rfl
        obtain ⟨ad2, cap2, hv2, hi2⟩ := HF1.out.ain.cin.ins.sl
        simp only [Value.slice.injEq] at hv2
        obtain ⟨rfl, -, rfl⟩ := hv2
        obtain ⟨gi, off, rfl, hgl, hcells⟩ := hi2 p _ (List.getElem?_eq_getElem hpl)
        rw [← hxo] at hcells
        obtain ⟨x, hxe⟩ : ∃ x, xOf c tl = x := ⟨_, rfl⟩
        rw [hxe] at hcells
        have HXE := Lib.hid hxe
        have HLd := Lib.hid (run_load_cells (P := Try.prog) _ gi (off + p * 10) x.cells 38 _ Try.underlying38 rfl (by kernel_rfl) hcells)
        clear hcells hxo hi2 hxe
        go_upto_region 13 with (first
          | (refine wpList_load_part 38 _ rfl rfl (by rfl) HLd.out ?_)
          | (refine wpList_store_in rfl _ _ rfl rfl rfl HX1.out ?_; intro hR))
        have HF2 := Lib.hid (HF.out.over (Below.setRow' HB12.out (Nat.le_of_eq hb12) (cs := x.cells)))
        have HX2 := Lib.hid hR
        clear hR HLd HX1 HF1 HB12 q1 hb12 hge12
        generalize w1.setRow b12 x.cells = w2 at *
        have hbm := HF2.out.ain.mem.lt
        refine wp_forgetW [13, 14, 40, 41, 42, 43, 44, 45, 46, 47, 48, 49, 50, 51, 52, 53, 54, 55, 56] (PF tl pk c bl M bm w2) ?_ (fun δ wq hP => ?_)
        · by_cases hjd : j < nd
          · have hjdl : j < dl.length := by rw [HDl.out]; exact hjd
            obtain ⟨gd, offd, rfl, hdlt, hdc⟩ := HD.out j _ (List.getElem?_eq_getElem hjdl)
            obtain ⟨dv, hdv⟩ : ∃ b, dl[j] = b := ⟨_, rfl⟩
            rw [hdv] at hdc
            have hjdi : (j : Int) < (nd : Int) := by omega
            clear hdv
            obtain ⟨⟨c2, bl2, M2, did⟩, hst⟩ : ∃ r, stepR tl pk dv c bl M = r := ⟨_, rfl⟩
            have HST := Lib.hid hst
            have hcls : ∀ w', (pF 54 40 55 13 w2 bm c2 bl2 M M2 did).C w' → Cls { w2 with heap := #[] } w' := fun w' h => ⟨h.os, h.tape, h.output, Nat.zero_le _, fun k hk => absurd hk (Nat.not_lt_zero k)⟩
            clear hst
            refine wp_region_s (pF 54 40 55 13 w2 bm c2 bl2 M M2 did) (by kernel_rfl) (by kernel_rfl) (Ups.of bm (below_drewN (Below.refl _ _) 1)) (fun _ _ h hb => pF_C h hb) pF_X (HF2.out.ain.mem.over (below_drewN (Below.refl _ _) 1)) (fun _ _ h hb => h.over hb) ?_
            refine WpV.out ?_
            refine WpV.gen (fun FF hFF => ?_)
            have HFF := Lib.hid hFF
            clear hFF
            try go_simp
            (apply s_step (fun _ h => hcls _ h); (focus ((first | dsimp only [stF, pF] | dsimp only [pF] | skip); decide +kernel)); intro K hK; go_simp; (first | (refine hK _ ?_; clear hK K) | (refine CalmB.of ?_; apply Exists.intro; refine ⟨fun wcalm hcalm => ?_, hK _ ?_⟩; (focus (go_simp; first | done | rfl)); clear hK K)))
            try go_simp
            (apply s_stepL []; (focus ((first | dsimp only [stF, pF] | dsimp only [pF] | skip); decide +kernel)); (focus rfl); (focus rfl); (focus rfl); intro K hK; refine cs_load_part 35 _ rfl (fun _ => rfl) (fun w hC => load35 ⟨blk_ups HF2.out.rl.heap hC h8m⟩) ?_; refine hK _ ?_; clear hK K)
            try go_simp
            (apply s_stepL []; (focus ((first | dsimp only [stF, pF] | dsimp only [pF] | skip); decide +kernel)); (focus rfl); (focus rfl); (focus rfl); intro K hK; refine cs_load_part 27 _ rfl (fun _ => rfl) (fun w hC => (CrAt.mk (blk_ups HF2.out.cr.heap hC h9m)).load) ?_; refine hK _ ?_; clear hK K)
            try go_simp
            (apply s_step (fun _ h => hcls _ h); (focus ((first | dsimp only [stF, pF] | dsimp only [pF] | skip); decide +kernel)); intro K hK; go_simp; (first | (refine hK _ ?_; clear hK K) | (refine CalmB.of ?_; apply Exists.intro; refine ⟨fun wcalm hcalm => ?_, hK _ ?_⟩; (focus (go_simp; first | done | rfl)); clear hK K)))
            try go_simp
            (apply s_step (fun _ h => hcls _ h); (focus ((first | dsimp only [stF, pF] | dsimp only [pF] | skip); decide +kernel)); intro K hK; go_simp; (first | (refine hK _ ?_; clear hK K) | (refine CalmB.of ?_; apply Exists.intro; refine ⟨fun wcalm hcalm => ?_, hK _ ?_⟩; (focus (go_simp; first | done | rfl)); clear hK K)))
            try go_simp
            (apply s_step (fun _ h => hcls _ h); (focus ((first | dsimp only [stF, pF] | dsimp only [pF] | skip); decide +kernel)); intro K hK; go_simp; (first | (refine hK _ ?_; clear hK K) | (refine CalmB.of ?_; apply Exists.intro; refine ⟨fun wcalm hcalm => ?_, hK _ ?_⟩; (focus (go_simp; first | done | rfl)); clear hK K)))
            try go_simp
            (apply s_step (fun _ h => hcls _ h); (focus ((first | dsimp only [stF, pF] | dsimp only [pF] | skip); decide +kernel)); intro K hK; go_simp; (first | (refine hK _ ?_; clear hK K) | (refine CalmB.of ?_; apply Exists.intro; refine ⟨fun wcalm hcalm => ?_, hK _ ?_⟩; (focus (go_simp; first | done | rfl)); clear hK K)))
            try go_simp
            (apply s_step (fun _ h => hcls _ h); (focus ((first | dsimp only [stF, pF] | dsimp only [pF] | skip); decide +kernel)); intro K hK; go_simp; (first | (refine hK _ ?_; clear hK K) | (refine CalmB.of ?_; apply Exists.intro; refine ⟨fun wcalm hcalm => ?_, hK _ ?_⟩; (focus (go_simp; first | done | rfl)); clear hK K)))
            try go_simp
            (apply s_step (fun _ h => hcls _ h); (focus ((first | dsimp only [stF, pF] | dsimp only [pF] | skip); decide +kernel)); intro K hK; go_simp; (first | (refine hK _ ?_; clear hK K) | (refine CalmB.of ?_; apply Exists.intro; refine ⟨fun wcalm hcalm => ?_, hK _ ?_⟩; (focus (go_simp; first | done | rfl)); clear hK K)))
            try go_simp
            (apply s_step (fun _ h => hcls _ h); (focus ((first | dsimp only [stF, pF] | dsimp only [pF] | skip); decide +kernel)); intro K hK; go_simp; (first | (refine hK _ ?_; clear hK K) | (refine CalmB.of ?_; apply Exists.intro; refine ⟨fun wcalm hcalm => ?_, hK _ ?_⟩; (focus (go_simp; first | done | rfl)); clear hK K)))
            try go_simp
            (apply s_step (fun _ h => hcls _ h); (focus ((first | dsimp only [stF, pF] | dsimp only [pF] | skip); decide +kernel)); intro K hK; go_simp; (first | (refine hK _ ?_; clear hK K) | (refine CalmB.of ?_; apply Exists.intro; refine ⟨fun wcalm hcalm => ?_, hK _ ?_⟩; (focus (go_simp; first | done | rfl)); clear hK K)))
            try go_simp
            (apply s_stepL []; (focus ((first | dsimp only [stF, pF] | dsimp only [pF] | skip); decide +kernel)); (focus rfl); (focus rfl); (focus rfl); intro K hK; refine CalmS.of ?_; apply Exists.intro; refine ⟨fun bP wc hC hgood => ?_, hK _ ?_⟩; (focus (have hcc := ((HF2.out.bel.trans (hC.below hmg (Nat.le_of_lt HF2.out.ain.mem.lt))).cell (p := ⟨gd, offd + j, none⟩) hdlt).trans hdc; simp only [ovl]; go_simp; first | done | rfl)); clear hK K)
            try go_simp
            (apply s_step (fun _ h => hcls _ h); (focus ((first | dsimp only [stF, pF] | dsimp only [pF] | skip); decide +kernel)); intro K hK; go_simp; (first | (refine hK _ ?_; clear hK K) | (refine CalmB.of ?_; apply Exists.intro; refine ⟨fun wcalm hcalm => ?_, hK _ ?_⟩; (focus (go_simp; first | done | rfl)); clear hK K)))
            try go_simp
            (apply s_spec []; (focus ((first | dsimp only [stF, pF] | dsimp only [pF] | skip); decide +kernel)); (focus rfl); (focus rfl); (focus rfl); focus (intro bP wc hC hgood; go_simp; refine pF_call HF2.out.ain HST.out hC (hgood.2 rfl) hbm ?_ ?_ ?_ ?_; ((first | dsimp only [stF, pF] | dsimp only [pF] | skip); decide +kernel); ((first | dsimp only [stF, pF] | dsimp only [pF] | skip); decide +kernel); ((first | dsimp only [stF, pF] | dsimp only [pF] | skip); decide +kernel); decide))
            try go_simp
            (apply s_spec [54]; (focus ((first | dsimp only [stF, pF] | dsimp only [pF] | skip); decide +kernel)); (focus rfl); (focus rfl); (focus rfl); focus (intro bP wc hC hgood; simp only [ovl]; go_simp; refine pF_move hC (hgood.1 13 (show 13 ∈ [13] from List.mem_singleton.2 rfl)) rfl ?_ ?_ ?_ ?_; ((first | dsimp only [stF, pF] | dsimp only [pF] | skip); decide +kernel); ((first | dsimp only [stF, pF] | dsimp only [pF] | skip); decide +kernel); decide; decide))
            try go_simp
            (apply s_spec [40]; (focus ((first | dsimp only [stF, pF] | dsimp only [pF] | skip); decide +kernel)); (focus rfl); (focus rfl); (focus rfl); focus (intro bP wc hC hgood; obtain ⟨u, e1, e2, e3, e4⟩ := hgood.1 14 (show 14 ∈ [14] from List.mem_singleton.2 rfl); simp only [ovl]; go_simp; refine pF_ext hC e2 e3 e4 ?_ ?_ ?_ ?_; ((first | dsimp only [stF, pF] | dsimp only [pF] | skip); decide +kernel); decide; decide; decide))
            try go_simp
            (apply s_stepL [40]; (focus ((first | dsimp only [stF, pF] | dsimp only [pF] | skip); decide +kernel)); (focus rfl); (focus rfl); (focus rfl); intro K hK; refine CalmS.of ?_; apply Exists.intro; refine ⟨fun bP wc hC hgood => ?_, hK _ ?_⟩; (focus (obtain ⟨u, e1, e2, e3, e4⟩ := hgood.1 14 (show 14 ∈ [14] from List.mem_singleton.2 rfl); simp only [ovl]; go_simp; first | done | rfl)); clear hK K)
            try go_simp
            (apply s_spec []; (focus ((first | dsimp only [stF, pF] | dsimp only [pF] | skip); decide +kernel)); (focus rfl); (focus rfl); (focus rfl); focus (intro bP wc hC hgood; refine pF_alloc ?_ hC ?_ ?_ ?_ ?_; exact rfl; ((first | dsimp only [stF, pF] | dsimp only [pF] | skip); decide +kernel); decide; decide; decide))
            try go_simp
            (apply s_spec [54, 40, 55, 13]; (focus ((first | dsimp only [stF, pF] | dsimp only [pF] | skip); decide +kernel)); (focus rfl); (focus rfl); (focus rfl); focus (intro bP wc hC hgood; refine pF_store hC (hgood.1 15 (show 15 ∈ [15, 17] by simp)) (hgood.1 17 (show 17 ∈ [15, 17] by simp)) hbm ?_ ?_ ?_ ?_ ?_ ?_ ?_; exact rfl; exact rfl; exact rfl; ((first | dsimp only [stF, pF] | dsimp only [pF] | skip); decide +kernel); ((first | dsimp only [stF, pF] | dsimp only [pF] | skip); decide +kernel); ((first | dsimp only [stF, pF] | dsimp only [pF] | skip); decide +kernel); decide +kernel))
            try go_simp
            (apply s_step (fun _ h => hcls _ h); (focus ((first | dsimp only [stF, pF] | dsimp only [pF] | skip); decide +kernel)); intro K hK; go_simp; (first | (refine hK _ ?_; clear hK K) | (refine CalmB.of ?_; apply Exists.intro; refine ⟨fun wcalm hcalm => ?_, hK _ ?_⟩; (focus (go_simp; first | done | rfl)); clear hK K)))
            refine v_nil ?_
            refine HFF.out _ ?_
            intro bP wq hq hX
            obtain ⟨b13, hv13, _, u, hcr13, hbu, hrow, hmem⟩ := hX 18 (show 18 ∈ [18] from List.mem_singleton.2 rfl)
            refine PF.mk ?_ ⟨did, dv, c2, bl2, M2, b13, u, HST.out, hv13, rfl, hcr13, hbu, hrow, hmem, hq⟩
            simp only [ovl]
            go_simp
          · have hjdi : ¬ (j : Int) < (nd : Int) := by omega
            obtain ⟨⟨c2, bl2, M2, did⟩, hst⟩ : ∃ r, stepR tl pk false c bl M = r := ⟨_, rfl⟩
            have HST := Lib.hid hst
            have hcls : ∀ w', (pF 54 40 55 13 w2 bm c2 bl2 M M2 did).C w' → Cls { w2 with heap := #[] } w' := fun w' h => ⟨h.os, h.tape, h.output, Nat.zero_le _, fun k hk => absurd hk (Nat.not_lt_zero k)⟩
            clear hst
            refine wp_region_s (pF 54 40 55 13 w2 bm c2 bl2 M M2 did) (by kernel_rfl) (by kernel_rfl) (Ups.of bm (below_drewN (Below.refl _ _) 1)) (fun _ _ h hb => pF_C h hb) pF_X (HF2.out.ain.mem.over (below_drewN (Below.refl _ _) 1)) (fun _ _ h hb => h.over hb) ?_
            refine WpV.out ?_
            refine WpV.gen (fun FF hFF => ?_)
            have HFF := Lib.hid hFF
            clear hFF
            try go_simp
            (apply s_step (fun _ h => hcls _ h); (focus ((first | dsimp only [stF, pF] | dsimp only [pF] | skip); decide +kernel)); intro K hK; go_simp; (first | (refine hK _ ?_; clear hK K) | (refine CalmB.of ?_; apply Exists.intro; refine ⟨fun wcalm hcalm => ?_, hK _ ?_⟩; (focus (go_simp; first | done | rfl)); clear hK K)))
            try go_simp
            (apply s_stepL []; (focus ((first | dsimp only [stF, pF] | dsimp only [pF] | skip); decide +kernel)); (focus rfl); (focus rfl); (focus rfl); intro K hK; refine cs_load_part 35 _ rfl (fun _ => rfl) (fun w hC => load35 ⟨blk_ups HF2.out.rl.heap hC h8m⟩) ?_; refine hK _ ?_; clear hK K)
            try go_simp
            (apply s_stepL []; (focus ((first | dsimp only [stF, pF] | dsimp only [pF] | skip); decide +kernel)); (focus rfl); (focus rfl); (focus rfl); intro K hK; refine cs_load_part 27 _ rfl (fun _ => rfl) (fun w hC => (CrAt.mk (blk_ups HF2.out.cr.heap hC h9m)).load) ?_; refine hK _ ?_; clear hK K)
            try go_simp
            (apply s_step (fun _ h => hcls _ h); (focus ((first | dsimp only [stF, pF] | dsimp only [pF] | skip); decide +kernel)); intro K hK; go_simp; (first | (refine hK _ ?_; clear hK K) | (refine CalmB.of ?_; apply Exists.intro; refine ⟨fun wcalm hcalm => ?_, hK _ ?_⟩; (focus (go_simp; first | done | rfl)); clear hK K)))
            try go_simp
            (apply s_step (fun _ h => hcls _ h); (focus ((first | dsimp only [stF, pF] | dsimp only [pF] | skip); decide +kernel)); intro K hK; go_simp; (first | (refine hK _ ?_; clear hK K) | (refine CalmB.of ?_; apply Exists.intro; refine ⟨fun wcalm hcalm => ?_, hK _ ?_⟩; (focus (go_simp; first | done | rfl)); clear hK K)))
            try go_simp
            (apply s_step (fun _ h => hcls _ h); (focus ((first | dsimp only [stF, pF] | dsimp only [pF] | skip); decide +kernel)); intro K hK; go_simp; (first | (refine hK _ ?_; clear hK K) | (refine CalmB.of ?_; apply Exists.intro; refine ⟨fun wcalm hcalm => ?_, hK _ ?_⟩; (focus (go_simp; first | done | rfl)); clear hK K)))
            try go_simp
            (apply s_step (fun _ h => hcls _ h); (focus ((first | dsimp only [stF, pF] | dsimp only [pF] | skip); decide +kernel)); intro K hK; go_simp; (first | (refine hK _ ?_; clear hK K) | (refine CalmB.of ?_; apply Exists.intro; refine ⟨fun wcalm hcalm => ?_, hK _ ?_⟩; (focus (go_simp; first | done | rfl)); clear hK K)))
            try go_simp
            (apply s_step (fun _ h => hcls _ h); (focus ((first | dsimp only [stF, pF] | dsimp only [pF] | skip); decide +kernel)); intro K hK; go_simp; (first | (refine hK _ ?_; clear hK K) | (refine CalmB.of ?_; apply Exists.intro; refine ⟨fun wcalm hcalm => ?_, hK _ ?_⟩; (focus (go_simp; first | done | rfl)); clear hK K)))
            try go_simp
            (apply s_step (fun _ h => hcls _ h); (focus ((first | dsimp only [stF, pF] | dsimp only [pF] | skip); decide +kernel)); intro K hK; go_simp; (first | (refine hK _ ?_; clear hK K) | (refine CalmB.of ?_; apply Exists.intro; refine ⟨fun wcalm hcalm => ?_, hK _ ?_⟩; (focus (go_simp; first | done | rfl)); clear hK K)))
            try go_simp
            (apply s_step (fun _ h => hcls _ h); (focus ((first | dsimp only [stF, pF] | dsimp only [pF] | skip); decide +kernel)); intro K hK; go_simp; (first | (refine hK _ ?_; clear hK K) | (refine CalmB.of ?_; apply Exists.intro; refine ⟨fun wcalm hcalm => ?_, hK _ ?_⟩; (focus (go_simp; first | done | rfl)); clear hK K)))
            try go_simp
            (apply s_step (fun _ h => hcls _ h); (focus ((first | dsimp only [stF, pF] | dsimp only [pF] | skip); decide +kernel)); intro K hK; go_simp; (first | (refine hK _ ?_; clear hK K) | (refine CalmB.of ?_; apply Exists.intro; refine ⟨fun wcalm hcalm => ?_, hK _ ?_⟩; (focus (go_simp; first | done | rfl)); clear hK K)))
            try go_simp
            (apply s_step (fun _ h => hcls _ h); (focus ((first | dsimp only [stF, pF] | dsimp only [pF] | skip); decide +kernel)); intro K hK; go_simp; (first | (refine hK _ ?_; clear hK K) | (refine CalmB.of ?_; apply Exists.intro; refine ⟨fun wcalm hcalm => ?_, hK _ ?_⟩; (focus (go_simp; first | done | rfl)); clear hK K)))
            try go_simp
            (apply s_step (fun _ h => hcls _ h); (focus ((first | dsimp only [stF, pF] | dsimp only [pF] | skip); decide +kernel)); intro K hK; go_simp; (first | (refine hK _ ?_; clear hK K) | (refine CalmB.of ?_; apply Exists.intro; refine ⟨fun wcalm hcalm => ?_, hK _ ?_⟩; (focus (go_simp; first | done | rfl)); clear hK K)))
            try go_simp
            (apply s_spec []; (focus ((first | dsimp only [stF, pF] | dsimp only [pF] | skip); decide +kernel)); (focus rfl); (focus rfl); (focus rfl); focus (intro bP wc hC hgood; go_simp; refine pF_call HF2.out.ain HST.out hC (hgood.2 rfl) hbm ?_ ?_ ?_ ?_; ((first | dsimp only [stF, pF] | dsimp only [pF] | skip); decide +kernel); ((first | dsimp only [stF, pF] | dsimp only [pF] | skip); decide +kernel); ((first | dsimp only [stF, pF] | dsimp only [pF] | skip); decide +kernel); decide))
            try go_simp
            (apply s_spec [54]; (focus ((first | dsimp only [stF, pF] | dsimp only [pF] | skip); decide +kernel)); (focus rfl); (focus rfl); (focus rfl); focus (intro bP wc hC hgood; simp only [ovl]; go_simp; refine pF_move hC (hgood.1 13 (show 13 ∈ [13] from List.mem_singleton.2 rfl)) rfl ?_ ?_ ?_ ?_; ((first | dsimp only [stF, pF] | dsimp only [pF] | skip); decide +kernel); ((first | dsimp only [stF, pF] | dsimp only [pF] | skip); decide +kernel); decide; decide))
            try go_simp
            (apply s_spec [40]; (focus ((first | dsimp only [stF, pF] | dsimp only [pF] | skip); decide +kernel)); (focus rfl); (focus rfl); (focus rfl); focus (intro bP wc hC hgood; obtain ⟨u, e1, e2, e3, e4⟩ := hgood.1 14 (show 14 ∈ [14] from List.mem_singleton.2 rfl); simp only [ovl]; go_simp; refine pF_ext hC e2 e3 e4 ?_ ?_ ?_ ?_; ((first | dsimp only [stF, pF] | dsimp only [pF] | skip); decide +kernel); decide; decide; decide))
            try go_simp
            (apply s_stepL [40]; (focus ((first | dsimp only [stF, pF] | dsimp only [pF] | skip); decide +kernel)); (focus rfl); (focus rfl); (focus rfl); intro K hK; refine CalmS.of ?_; apply Exists.intro; refine ⟨fun bP wc hC hgood => ?_, hK _ ?_⟩; (focus (obtain ⟨u, e1, e2, e3, e4⟩ := hgood.1 14 (show 14 ∈ [14] from List.mem_singleton.2 rfl); simp only [ovl]; go_simp; first | done | rfl)); clear hK K)
            try go_simp
            (apply s_spec []; (focus ((first | dsimp only [stF, pF] | dsimp only [pF] | skip); decide +kernel)); (focus rfl); (focus rfl); (focus rfl); focus (intro bP wc hC hgood; refine pF_alloc ?_ hC ?_ ?_ ?_ ?_; exact rfl; ((first | dsimp only [stF, pF] | dsimp only [pF] | skip); decide +kernel); decide; decide; decide))
            try go_simp
            (apply s_spec [54, 40, 55, 13]; (focus ((first | dsimp only [stF, pF] | dsimp only [pF] | skip); decide +kernel)); (focus rfl); (focus rfl); (focus rfl); focus (intro bP wc hC hgood; refine pF_store hC (hgood.1 15 (show 15 ∈ [15, 17] by simp)) (hgood.1 17 (show 17 ∈ [15, 17] by simp)) hbm ?_ ?_ ?_ ?_ ?_ ?_ ?_; exact rfl; exact rfl; exact rfl; ((first | dsimp only [stF, pF] | dsimp only [pF] | skip); decide +kernel); ((first | dsimp only [stF, pF] | dsimp only [pF] | skip); decide +kernel); ((first | dsimp only [stF, pF] | dsimp only [pF] | skip); decide +kernel); decide +kernel))
            try go_simp
            (apply s_step (fun _ h => hcls _ h); (focus ((first | dsimp only [stF, pF] | dsimp only [pF] | skip); decide +kernel)); intro K hK; go_simp; (first | (refine hK _ ?_; clear hK K) | (refine CalmB.of ?_; apply Exists.intro; refine ⟨fun wcalm hcalm => ?_, hK _ ?_⟩; (focus (go_simp; first | done | rfl)); clear hK K)))
            refine v_nil ?_
            refine HFF.out _ ?_
            intro bP wq hq hX
            obtain ⟨b13, hv13, _, u, hcr13, hbu, hrow, hmem⟩ := hX 18 (show 18 ∈ [18] from List.mem_singleton.2 rfl)
            refine PF.mk ?_ ⟨did, false, c2, bl2, M2, b13, u, HST.out, hv13, rfl, hcr13, hbu, hrow, hmem, hq⟩
            simp only [ovl]
            go_simp
        simp only [ovl]
        go_simp
        obtain ⟨did, d, c2, bl2, M2, b13, u, hst, hv13, hv14, hcr13, hbu, hrow, hmem, hup⟩ := hP
        simp only [hv13, hv14]
        have HST := Lib.hid hst
        have HU := Lib.hid hup
        have HBU := Lib.hid hbu
        have HROW := Lib.hid hrow
        have HMEM := Lib.hid hmem
        clear hst hv13 hv14 hup hrow hmem
        cases did with
        | false =>
          go_wp2
          go_ret
          exact ⟨rfl, HF2.out.bel.trans (HU.out.below hmg (Nat.le_of_lt hbm))⟩
        | true =>
          obtain ⟨adu, capu, rfl, -, -⟩ := hbu
          have HCN := Lib.hid hcr13
          have HCQ := Lib.hid (CrAt.mk (blk_ups HF2.out.cr.heap HU.out h9m))
          have HRQ := Lib.hid (BlkAt.mk (blk_ups HF2.out.rl.heap HU.out h8m))
          have HXQ := Lib.hid (InB.mk (blk_ups HX2.out.heap HU.out (Nat.ne_of_gt hbm12)))
          have HCI := Lib.hid (HF2.out.ain.cin.ups HU.out HF2.out.ain.sep (HF2.out.ain.row.ne HF2.out.ain.mem.heap (by decide)))
          have qn := HCN.out.pcc
          have qnb := HCN.out.bufc
          have qc := HCQ.out.pcc
          have qo := HXQ.out.opc
          have qm := HXQ.out.modec
          rw [show ({ c2 with buf := .slice adu bl2.length capu } : Cr).pc = c2.pc from rfl] at qn
          rw [show ({ c2 with buf := .slice adu bl2.length capu } : Cr).buf = .slice adu bl2.length capu from rfl] at qnb
          rw [HPE.out] at qc
          have HPass := Lib.hid (fun h => fence_pass HF2.out.ain.cok HST.out h)
          rw [HXE.out, HPE.out] at HPass
          obtain ⟨xop, hxop⟩ : ∃ o, x.op = o := ⟨_, rfl⟩
          obtain ⟨xmo, hxmo⟩ : ∃ o, x.mode = o := ⟨_, rfl⟩
          obtain ⟨pc2, hpc2⟩ : ∃ o, c2.pc = o := ⟨_, rfl⟩
          rw [hxop, hxmo, hpc2] at HPass
          rw [hxop] at qo
          rw [hxmo] at qm
          rw [hpc2] at qn
          have HXO := Lib.hid hxop
          have HXM := Lib.hid hxmo
          clear hxop hxmo hpc2 hcr13
          go_upto_region 16 with (fail)
          refine wp_forget [64, 65, 66, 67, 68, 69, 70, 71, 72, 73, 74, 75, 76, 77, 78, 79, 80, 81, 82, 83, 84, 85, 86, 87, 88, 89] 90 (.bool false) ?_ (fun γ => ?_)
          · by_cases hps : pc2 = (p : Int)
            · have e1 : (pc2 != (p : Int)) = false := by rw [hps]; simp
              clear hps
              go_wp2
              refine Forgot.mk ?_; simp only [ovl]; go_simp
            · have e1 : (pc2 != (p : Int)) = true := by simp [bne, ne_beq hps]
              have hl0 : ((xop = 7 ∧ xmo = 3) ∨ (4 ≤ xop ∧ xop ≤ 6)) → ((bl2.length : Nat) : Int) = 0 := fun h => by rw [HPass.out hps h]; rfl
              clear hps
              by_cases h7 : xop = 7
              · subst h7
                by_cases h3 : xmo = 3
                · subst h3
                  have hl1 := hl0 (.inl ⟨rfl, rfl⟩)
                  clear hl0
                  go_wp2
                  refine Forgot.mk ?_; simp only [ovl]; go_simp
                · have h3b := ne_beq h3
                  clear h3 hl0
                  go_wp2
                  refine Forgot.mk ?_; simp only [ovl]; go_simp
              · have h7b := ne_beq h7
                by_cases h4 : 4 ≤ xop
                · by_cases h6 : xop ≤ 6
                  · have hl1 := hl0 (.inr ⟨h4, h6⟩)
                    clear hl0 h7
                    go_wp2
                    refine Forgot.mk ?_; simp only [ovl]; go_simp
                  · clear hl0 h7
                    go_wp2
                    refine Forgot.mk ?_; simp only [ovl]; go_simp
                · clear hl0 h7
                  go_wp2
                  refine Forgot.mk ?_; simp only [ovl]; go_simp
          simp only [ovl]
          go_simp
          go_upto_region 18 with (fail)
          by_cases h7 : xop = 7
          · by_cases h3 : xmo = 3
            · subst h7 h3
              go_upto_region 20 with (fail)
              have hb18 := Below.refl wq.heap.size wq
              have HW18 := Lib.hid hb18
              have HC18 := Lib.hid (HCQ.out.over hb18)
              have HN18 := Lib.hid (HCN.out.over hb18)
              have HFN := Lib.hid (fl_next HF2.out HST.out (by omega) HU.out HBU.out HROW.out HMEM.out hb18 h89 h8m h9m h9g hmg)
              have HLE := Lib.hid (step_ok HF2.out.ain.cok HF2.out.ain.cin.x HST.out).2
              clear hb18
              go_upto_region 21 with (first
                | (refine wpList_load_part 27 _ rfl rfl (by rfl) HN18.out.load ?_)
                | (refine wpList_store_core (c := { c2 with buf := .slice adu bl2.length capu }) rfl _ _ rfl rfl rfl rfl HC18.out ?_; intro hR))
              have HR9 := Lib.hid hR
              clear hR
              have qr3 := HFN.out.rl.rls3
              have qb9 := HFN.out.cr.bufc
              rw [show ({ c2 with buf := .slice adu bl2.length capu } : Cr).buf = .slice adu bl2.length capu from rfl] at qb9
              by_cases hz : pk = 0
              · have hb0 : bl2 = [] := buf_zero HF2.out.ain.cok (hz ▸ HST.out) (HPK.out hz)
                have hl0 : ((bl2.length : Nat) : Int) = 0 := by rw [hb0]; rfl
                have HB0 := Lib.hid hb0
                have HZ := Lib.hid hz
                have hz1 : (pk == 0) = true := by rw [hz]; rfl
                clear hb0 hz
                go_wp2
                exact ⟨⟨j + 1, _, bl2, M2, by omega, by go_num, by have := HLE.out; omega, fun _ => HB0.out, HFN.out⟩, by simp [intOf]; omega⟩
              · have hz1 : (pk == 0) = false := ne_beq hz
                have HZ := Lib.hid hz
                clear hz
                go_wp2
                exact ⟨⟨j + 1, _, bl2, M2, by omega, by go_num, by have := HLE.out; omega, fun h => absurd h HZ.out, HFN.out⟩, by simp [intOf]; omega⟩
            · have HN2 := Lib.hid (fence_free (most := pk) HF2.out.ain.cok (by rw [HXE.out, HXO.out, h7]) (by rw [HXE.out, HXM.out]; exact h3))
              have HCX := Lib.hid (show Calls Try.prog 15 #[.slice (some ⟨gi, off, none⟩) N capl, .agg (rls 0 0 0 pk false), .agg c.cells] wq fun e w'' => e = .returned (.int .u8 2) ∧ Below wq.heap.size wq w'' from HN2.out ▸ c_Next c bl _ tl 0 0 0 pk false wq HCI.out.core HCI.out.ins)
              have h3b := ne_beq h3
              subst h7
              clear h3
              have h3c : (xmo != 3) = true := by simp [bne, h3b]
              go_upto_region 20 with (first
                | (refine wpList_load_part 35 _ rfl rfl (by rfl) (load35 HRQ.out) ?_)
                | (refine wpList_load_part 27 _ rfl rfl (by rfl) HCQ.out.load ?_)
                | (go_at_call 15; (with_reducible refine HCX.out.mono ?_); rintro e w18 ⟨rfl, hb18⟩))
              have HW18 := Lib.hid hb18
              have HC18 := Lib.hid (HCQ.out.over hb18)
              have HN18 := Lib.hid (HCN.out.over hb18)
              have HFN := Lib.hid (fl_next HF2.out HST.out (by omega) HU.out HBU.out HROW.out HMEM.out hb18 h89 h8m h9m h9g hmg)
              have HLE := Lib.hid (step_ok HF2.out.ain.cok HF2.out.ain.cin.x HST.out).2
              clear hb18
              go_upto_region 21 with (first
                | (refine wpList_load_part 27 _ rfl rfl (by rfl) HN18.out.load ?_)
                | (refine wpList_store_core (c := { c2 with buf := .slice adu bl2.length capu }) rfl _ _ rfl rfl rfl rfl HC18.out ?_; intro hR))
              have HR9 := Lib.hid hR
              clear hR
              have qr3 := HFN.out.rl.rls3
              have qb9 := HFN.out.cr.bufc
              rw [show ({ c2 with buf := .slice adu bl2.length capu } : Cr).buf = .slice adu bl2.length capu from rfl] at qb9
              by_cases hz : pk = 0
              · have hb0 : bl2 = [] := buf_zero HF2.out.ain.cok (hz ▸ HST.out) (HPK.out hz)
                have hl0 : ((bl2.length : Nat) : Int) = 0 := by rw [hb0]; rfl
                have HB0 := Lib.hid hb0
                have HZ := Lib.hid hz
                have hz1 : (pk == 0) = true := by rw [hz]; rfl
                clear hb0 hz
                go_wp2
                exact ⟨⟨j + 1, _, bl2, M2, by omega, by go_num, by have := HLE.out; omega, fun _ => HB0.out, HFN.out⟩, by simp [intOf]; omega⟩
              · have hz1 : (pk == 0) = false := ne_beq hz
                have HZ := Lib.hid hz
                clear hz
                go_wp2
                exact ⟨⟨j + 1, _, bl2, M2, by omega, by go_num, by have := HLE.out; omega, fun h => absurd h HZ.out, HFN.out⟩, by simp [intOf]; omega⟩
          · have h7b := ne_beq h7
            clear h7
            go_upto_region 20 with (fail)
            have hb18 := Below.refl wq.heap.size wq
            have HW18 := Lib.hid hb18
            have HC18 := Lib.hid (HCQ.out.over hb18)
            have HN18 := Lib.hid (HCN.out.over hb18)
            have HFN := Lib.hid (fl_next HF2.out HST.out (by omega) HU.out HBU.out HROW.out HMEM.out hb18 h89 h8m h9m h9g hmg)
            have HLE := Lib.hid (step_ok HF2.out.ain.cok HF2.out.ain.cin.x HST.out).2
            clear hb18
            go_upto_region 21 with (first
              | (refine wpList_load_part 27 _ rfl rfl (by rfl) HN18.out.load ?_)
              | (refine wpList_store_core (c := { c2 with buf := .slice adu bl2.length capu }) rfl _ _ rfl rfl rfl rfl HC18.out ?_; intro hR))
            have HR9 := Lib.hid hR
            clear hR
            have qr3 := HFN.out.rl.rls3
            have qb9 := HFN.out.cr.bufc
            rw [show ({ c2 with buf := .slice adu bl2.length capu } : Cr).buf = .slice adu bl2.length capu from rfl] at qb9
            by_cases hz : pk = 0
            · have hb0 : bl2 = [] := buf_zero HF2.out.ain.cok (hz ▸ HST.out) (HPK.out hz)
              have hl0 : ((bl2.length : Nat) : Int) = 0 := by rw [hb0]; rfl
              have HB0 := Lib.hid hb0
              have HZ := Lib.hid hz
              have hz1 : (pk == 0) = true := by rw [hz]; rfl
              clear hb0 hz
              go_wp2
              exact ⟨⟨j + 1, _, bl2, M2, by omega, by go_num, by have := HLE.out; omega, fun _ => HB0.out, HFN.out⟩, by simp [intOf]; omega⟩
            · have hz1 : (pk == 0) = false := ne_beq hz
              have HZ := Lib.hid hz
              clear hz
              go_wp2
              exact ⟨⟨j + 1, _, bl2, M2, by omega, by go_num, by have := HLE.out; omega, fun h => absurd h HZ.out, HFN.out⟩, by simp [intOf]; omega⟩
      · have hpi : ¬ (p : Int) < (N : Int) := by omega
        have hxo : xOf c tl = In.zero := xOf_zero (by rw [hpt, HLen.out]; exact hpn)
        obtain ⟨x, hxe⟩ : ∃ x, In.zero = x := ⟨_, rfl⟩
        have HXE := Lib.hid (hxo.trans hxe)
        have HF2 := HF1
        have HX2 := HX1
        rw [hxe] at HX2
        go_upto_region 13 with (fail)
        clear hxo hxe HX1 HF1 HB12 q1 hge12 hb12
        generalize w1 = w2 at *
        have hbm := HF2.out.ain.mem.lt
        refine wp_forgetW [13, 14, 40, 41, 42, 43, 44, 45, 46, 47, 48, 49, 50, 51, 52, 53, 54, 55, 56] (PF tl pk c bl M bm w2) ?_ (fun δ wq hP => ?_)
        · by_cases hjd : j < nd
          · have hjdl : j < dl.length := by rw [HDl.out]; exact hjd
            obtain ⟨gd, offd, rfl, hdlt, hdc⟩ := HD.out j _ (List.getElem?_eq_getElem hjdl)
            obtain ⟨dv, hdv⟩ : ∃ b, dl[j] = b := ⟨_, rfl⟩
            rw [hdv] at hdc
            have hjdi : (j : Int) < (nd : Int) := by omega
            clear hdv
            obtain ⟨⟨c2, bl2, M2, did⟩, hst⟩ : ∃ r, stepR tl pk dv c bl M = r := ⟨_, rfl⟩
            have HST := Lib.hid hst
            have hcls : ∀ w', (pF 54 40 55 13 w2 bm c2 bl2 M M2 did).C w' → Cls { w2 with heap := #[] } w' := fun w' h => ⟨h.os, h.tape, h.output, Nat.zero_le _, fun k hk => absurd hk (Nat.not_lt_zero k)⟩
            clear hst
            refine wp_region_s (pF 54 40 55 13 w2 bm c2 bl2 M M2 did) (by kernel_rfl) (by kernel_rfl) (Ups.of bm (below_drewN (Below.refl _ _) 1)) (fun _ _ h hb => pF_C h hb) pF_X (HF2.out.ain.mem.over (below_drewN (Below.refl _ _) 1)) (fun _ _ h hb => h.over hb) ?_
            refine WpV.out ?_
            refine WpV.gen (fun FF hFF => ?_)
            have HFF := Lib.hid hFF
            clear hFF
            try go_simp
            (apply s_step (fun _ h => hcls _ h); (focus ((first | dsimp only [stF, pF] | dsimp only [pF] | skip); decide +kernel)); intro K hK; go_simp; (first | (refine hK _ ?_; clear hK K) | (refine CalmB.of ?_; apply Exists.intro; refine ⟨fun wcalm hcalm => ?_, hK _ ?_⟩; (focus (go_simp; first | done | rfl)); clear hK K)))
            try go_simp
            (apply s_stepL []; (focus ((first | dsimp only [stF, pF] | dsimp only [pF] | skip); decide +kernel)); (focus rfl); (focus rfl); (focus rfl); intro K hK; refine cs_load_part 35 _ rfl (fun _ => rfl) (fun w hC => load35 ⟨blk_ups HF2.out.rl.heap hC h8m⟩) ?_; refine hK _ ?_; clear hK K)
            try go_simp
            (apply s_stepL []; (focus ((first | dsimp only [stF, pF] | dsimp only [pF] | skip); decide +kernel)); (focus rfl); (focus rfl); (focus rfl); intro K hK; refine cs_load_part 27 _ rfl (fun _ => rfl) (fun w hC => (CrAt.mk (blk_ups HF2.out.cr.heap hC h9m)).load) ?_; refine hK _ ?_; clear hK K)
            try go_simp
            (apply s_step (fun _ h => hcls _ h); (focus ((first | dsimp only [stF, pF] | dsimp only [pF] | skip); decide +kernel)); intro K hK; go_simp; (first | (refine hK _ ?_; clear hK K) | (refine CalmB.of ?_; apply Exists.intro; refine ⟨fun wcalm hcalm => ?_, hK _ ?_⟩; (focus (go_simp; first | done | rfl)); clear hK K)))
            try go_simp
            (apply s_step (fun _ h => hcls _ h); (focus ((first | dsimp only [stF, pF] | dsimp only [pF] | skip); decide +kernel)); intro K hK; go_simp; (first | (refine hK _ ?_; clear hK K) | (refine CalmB.of ?_; apply Exists.intro; refine ⟨fun wcalm hcalm => ?_, hK _ ?_⟩; (focus (go_simp; first | done | rfl)); clear hK K)))
            try go_simp
            (apply s_step (fun _ h => hcls _ h); (focus ((first | dsimp only [stF, pF] | dsimp only [pF] | skip); decide +kernel)); intro K hK; go_simp; (first | (refine hK _ ?_; clear hK K) | (refine CalmB.of ?_; apply Exists.intro; refine ⟨fun wcalm hcalm => ?_, hK _ ?_⟩; (focus (go_simp; first | done | rfl)); clear hK K)))
            try go_simp
            (apply s_step (fun _ h => hcls _ h); (focus ((first | dsimp only [stF, pF] | dsimp only [pF] | skip); decide +kernel)); intro K hK; go_simp; (first | (refine hK _ ?_; clear hK K) | (refine CalmB.of ?_; apply Exists.intro; refine ⟨fun wcalm hcalm => ?_, hK _ ?_⟩; (focus (go_simp; first | done | rfl)); clear hK K)))
            try go_simp
            (apply s_step (fun _ h => hcls _ h); (focus ((first | dsimp only [stF, pF] | dsimp only [pF] | skip); decide +kernel)); intro K hK; go_simp; (first | (refine hK _ ?_; clear hK K) | (refine CalmB.of ?_; apply Exists.intro; refine ⟨fun wcalm hcalm => ?_, hK _ ?_⟩; (focus (go_simp; first | done | rfl)); clear hK K)))
            try go_simp
            (apply s_step (fun _ h => hcls _ h); (focus ((first | dsimp only [stF, pF] | dsimp only [pF] | skip); decide +kernel)); intro K hK; go_simp; (first | (refine hK _ ?_; clear hK K) | (refine CalmB.of ?_; apply Exists.intro; refine ⟨fun wcalm hcalm => ?_, hK _ ?_⟩; (focus (go_simp; first | done | rfl)); clear hK K)))
            try go_simp
            (apply s_step (fun _ h => hcls _ h); (focus ((first | dsimp only [stF, pF] | dsimp only [pF] | skip); decide +kernel)); intro K hK; go_simp; (first | (refine hK _ ?_; clear hK K) | (refine CalmB.of ?_; apply Exists.intro; refine ⟨fun wcalm hcalm => ?_, hK _ ?_⟩; (focus (go_simp; first | done | rfl)); clear hK K)))
            try go_simp
            (apply s_step (fun _ h => hcls _ h); (focus ((first | dsimp only [stF, pF] | dsimp only [pF] | skip); decide +kernel)); intro K hK; go_simp; (first | (refine hK _ ?_; clear hK K) | (refine CalmB.of ?_; apply Exists.intro; refine ⟨fun wcalm hcalm => ?_, hK _ ?_⟩; (focus (go_simp; first | done | rfl)); clear hK K)))
            try go_simp
            (apply s_stepL []; (focus ((first | dsimp only [stF, pF] | dsimp only [pF] | skip); decide +kernel)); (focus rfl); (focus rfl); (focus rfl); intro K hK; refine CalmS.of ?_; apply Exists.intro; refine ⟨fun bP wc hC hgood => ?_, hK _ ?_⟩; (focus (have hcc := ((HF2.out.bel.trans (hC.below hmg (Nat.le_of_lt HF2.out.ain.mem.lt))).cell (p := ⟨gd, offd + j, none⟩) hdlt).trans hdc; simp only [ovl]; go_simp; first | done | rfl)); clear hK K)
            try go_simp
            (apply s_step (fun _ h => hcls _ h); (focus ((first | dsimp only [stF, pF] | dsimp only [pF] | skip); decide +kernel)); intro K hK; go_simp; (first | (refine hK _ ?_; clear hK K) | (refine CalmB.of ?_; apply Exists.intro; refine ⟨fun wcalm hcalm => ?_, hK _ ?_⟩; (focus (go_simp; first | done | rfl)); clear hK K)))
            try go_simp
            (apply s_spec []; (focus ((first | dsimp only [stF, pF] | dsimp only [pF] | skip); decide +kernel)); (focus rfl); (focus rfl); (focus rfl); focus (intro bP wc hC hgood; go_simp; refine pF_call HF2.out.ain HST.out hC (hgood.2 rfl) hbm ?_ ?_ ?_ ?_; ((first | dsimp only [stF, pF] | dsimp only [pF] | skip); decide +kernel); ((first | dsimp only [stF, pF] | dsimp only [pF] | skip); decide +kernel); ((first | dsimp only [stF, pF] | dsimp only [pF] | skip); decide +kernel); decide))
            try go_simp
            (apply s_spec [54]; (focus ((first | dsimp only [stF, pF] | dsimp only [pF] | skip); decide +kernel)); (focus rfl); (focus rfl); (focus rfl); focus (intro bP wc hC hgood; simp only [ovl]; go_simp; refine pF_move hC (hgood.1 13 (show 13 ∈ [13] from List.mem_singleton.2 rfl)) rfl ?_ ?_ ?_ ?_; ((first | dsimp only [stF, pF] | dsimp only [pF] | skip); decide +kernel); ((first | dsimp only [stF, pF] | dsimp only [pF] | skip); decide +kernel); decide; decide))
            try go_simp
            (apply s_spec [40]; (focus ((first | dsimp only [stF, pF] | dsimp only [pF] | skip); decide +kernel)); (focus rfl); (focus rfl); (focus rfl); focus (intro bP wc hC hgood; obtain ⟨u, e1, e2, e3, e4⟩ := hgood.1 14 (show 14 ∈ [14] from List.mem_singleton.2 rfl); simp only [ovl]; go_simp; refine pF_ext hC e2 e3 e4 ?_ ?_ ?_ ?_; ((first | dsimp only [stF, pF] | dsimp only [pF] | skip); decide +kernel); decide; decide; decide))
            try go_simp
            (apply s_stepL [40]; (focus ((first | dsimp only [stF, pF] | dsimp only [pF] | skip); decide +kernel)); (focus rfl); (focus rfl); (focus rfl); intro K hK; refine CalmS.of ?_; apply Exists.intro; refine ⟨fun bP wc hC hgood => ?_, hK _ ?_⟩; (focus (obtain ⟨u, e1, e2, e3, e4⟩ := hgood.1 14 (show 14 ∈ [14] from List.mem_singleton.2 rfl); simp only [ovl]; go_simp; first | done | rfl)); clear hK K)
            try go_simp
            (apply s_spec []; (focus ((first | dsimp only [stF, pF] | dsimp only [pF] | skip); decide +kernel)); (focus rfl); (focus rfl); (focus rfl); focus (intro bP wc hC hgood; refine pF_alloc ?_ hC ?_ ?_ ?_ ?_; exact rfl; ((first | dsimp only [stF, pF] | dsimp only [pF] | skip); decide +kernel); decide; decide; decide))
            try go_simp
            (apply s_spec [54, 40, 55, 13]; (focus ((first | dsimp only [stF, pF] | dsimp only [pF] | skip); decide +kernel)); (focus rfl); (focus rfl); (focus rfl); focus (intro bP wc hC hgood; refine pF_store hC (hgood.1 15 (show 15 ∈ [15, 17] by simp)) (hgood.1 17 (show 17 ∈ [15, 17] by simp)) hbm ?_ ?_ ?_ ?_ ?_ ?_ ?_; exact rfl; exact rfl; exact rfl; ((first | dsimp only [stF, pF] | dsimp only [pF] | skip); decide +kernel); ((first | dsimp only [stF, pF] | dsimp only [pF] | skip); decide +kernel); ((first | dsimp only [stF, pF] | dsimp only [pF] | skip); decide +kernel); decide +kernel))
            try go_simp
            (apply s_step (fun _ h => hcls _ h); (focus ((first | dsimp only [stF, pF] | dsimp only [pF] | skip); decide +kernel)); intro K hK; go_simp; (first | (refine hK _ ?_; clear hK K) | (refine CalmB.of ?_; apply Exists.intro; refine ⟨fun wcalm hcalm => ?_, hK _ ?_⟩; (focus (go_simp; first | done | rfl)); clear hK K)))
            refine v_nil ?_
            refine HFF.out _ ?_
            intro bP wq hq hX
            obtain ⟨b13, hv13, _, u, hcr13, hbu, hrow, hmem⟩ := hX 18 (show 18 ∈ [18] from List.mem_singleton.2 rfl)
            refine PF.mk ?_ ⟨did, dv, c2, bl2, M2, b13, u, HST.out, hv13, rfl, hcr13, hbu, hrow, hmem, hq⟩
            simp only [ovl]
            go_simp
          · have hjdi : ¬ (j : Int) < (nd : Int) := by omega
            obtain ⟨⟨c2, bl2, M2, did⟩, hst⟩ : ∃ r, stepR tl pk false c bl M = r := ⟨_, rfl⟩
            have HST := Lib.hid hst
            have hcls : ∀ w', (pF 54 40 55 13 w2 bm c2 bl2 M M2 did).C w' → Cls { w2 with heap := #[] } w' := fun w' h => ⟨h.os, h.tape, h.output, Nat.zero_le _, fun k hk => absurd hk (Nat.not_lt_zero k)⟩
            clear hst
            refine wp_region_s (pF 54 40 55 13 w2 bm c2 bl2 M M2 did) (by kernel_rfl) (by kernel_rfl) (Ups.of bm (below_drewN (Below.refl _ _) 1)) (fun _ _ h hb => pF_C h hb) pF_X (HF2.out.ain.mem.over (below_drewN (Below.refl _ _) 1)) (fun _ _ h hb => h.over hb) ?_
            refine WpV.out ?_
            refine WpV.gen (fun FF hFF => ?_)
            have HFF := Lib.hid hFF
            clear hFF
            try go_simp
            (apply s_step (fun _ h => hcls _ h); (focus ((first | dsimp only [stF, pF] | dsimp only [pF] | skip); decide +kernel)); intro K hK; go_simp; (first | (refine hK _ ?_; clear hK K) | (refine CalmB.of ?_; apply Exists.intro; refine ⟨fun wcalm hcalm => ?_, hK _ ?_⟩; (focus (go_simp; first | done | rfl)); clear hK K)))
            try go_simp
            (apply s_stepL []; (focus ((first | dsimp only [stF, pF] | dsimp only [pF] | skip); decide +kernel)); (focus rfl); (focus rfl); (focus rfl); intro K hK; refine cs_load_part 35 _ rfl (fun _ => rfl) (fun w hC => load35 ⟨blk_ups HF2.out.rl.heap hC h8m⟩) ?_; refine hK _ ?_; clear hK K)
            try go_simp
            (apply s_stepL []; (focus ((first | dsimp only [stF, pF] | dsimp only [pF] | skip); decide +kernel)); (focus rfl); (focus rfl); (focus rfl); intro K hK; refine cs_load_part 27 _ rfl (fun _ => rfl) (fun w hC => (CrAt.mk (blk_ups HF2.out.cr.heap hC h9m)).load) ?_; refine hK _ ?_; clear hK K)
            try go_simp
            (apply s_step (fun _ h => hcls _ h); (focus ((first | dsimp only [stF, pF] | dsimp only [pF] | skip); decide +kernel)); intro K hK; go_simp; (first | (refine hK _ ?_; clear hK K) | (refine CalmB.of ?_; apply Exists.intro; refine ⟨fun wcalm hcalm => ?_, hK _ ?_⟩; (focus (go_simp; first | done | rfl)); clear hK K)))
            try go_simp
            (apply s_step (fun _ h => hcls _ h); (focus ((first | dsimp only [stF, pF] | dsimp only [pF] | skip); decide +kernel)); intro K hK; go_simp; (first | (refine hK _ ?_; clear hK K) | (refine CalmB.of ?_; apply Exists.intro; refine ⟨fun wcalm hcalm => ?_, hK _ ?_⟩; (focus (go_simp; first | done | rfl)); clear hK K)))
            try go_simp
            (apply s_step (fun _ h => hcls _ h); (focus ((first | dsimp only [stF, pF] | dsimp only [pF] | skip); decide +kernel)); intro K hK; go_simp; (first | (refine hK _ ?_; clear hK K) | (refine CalmB.of ?_; apply Exists.intro; refine ⟨fun wcalm hcalm => ?_, hK _ ?_⟩; (focus (go_simp; first | done | rfl)); clear hK K)))
            try go_simp
            (apply s_step (fun _ h => hcls _ h); (focus ((first | dsimp only [stF, pF] | dsimp only [pF] | skip); decide +kernel)); intro K hK; go_simp; (first | (refine hK _ ?_; clear hK K) | (refine CalmB.of ?_; apply Exists.intro; refine ⟨fun wcalm hcalm => ?_, hK _ ?_⟩; (focus (go_simp; first | done | rfl)); clear hK K)))
            try go_simp
            (apply s_step (fun _ h => hcls _ h); (focus ((first | dsimp only [stF, pF] | dsimp only [pF] | skip); decide +kernel)); intro K hK; go_simp; (first | (refine hK _ ?_; clear hK K) | (refine CalmB.of ?_; apply Exists.intro; refine ⟨fun wcalm hcalm => ?_, hK _ ?_⟩; (focus (go_simp; first | done | rfl)); clear hK K)))
            try go_simp
            (apply s_step (fun _ h => hcls _ h); (focus ((first | dsimp only [stF, pF] | dsimp only [pF] | skip); decide +kernel)); intro K hK; go_simp; (first | (refine hK _ ?_; clear hK K) | (refine CalmB.of ?_; apply Exists.intro; refine ⟨fun wcalm hcalm => ?_, hK _ ?_⟩; (focus (go_simp; first | done | rfl)); clear hK K)))
            try go_simp
            (apply s_step (fun _ h => hcls _ h); (focus ((first | dsimp only [stF, pF] | dsimp only [pF] | skip); decide +kernel)); intro K hK; go_simp; (first | (refine hK _ ?_; clear hK K) | (refine CalmB.of ?_; apply Exists.intro; refine ⟨fun wcalm hcalm => ?_, hK _ ?_⟩; (focus (go_simp; first | done | rfl)); clear hK K)))
            try go_simp
            (apply s_step (fun _ h => hcls _ h); (focus ((first | dsimp only [stF, pF] | dsimp only [pF] | skip); decide +kernel)); intro K hK; go_simp; (first | (refine hK _ ?_; clear hK K) | (refine CalmB.of ?_; apply Exists.intro; refine ⟨fun wcalm hcalm => ?_, hK _ ?_⟩; (focus (go_simp; first | done | rfl)); clear hK K)))
            try go_simp
            (apply s_step (fun _ h => hcls _ h); (focus ((first | dsimp only [stF, pF] | dsimp only [pF] | skip); decide +kernel)); intro K hK; go_simp; (first | (refine hK _ ?_; clear hK K) | (refine CalmB.of ?_; apply Exists.intro; refine ⟨fun wcalm hcalm => ?_, hK _ ?_⟩; (focus (go_simp; first | done | rfl)); clear hK K)))
            try go_simp
            (apply s_step (fun _ h => hcls _ h); (focus ((first | dsimp only [stF, pF] | dsimp only [pF] | skip); decide +kernel)); intro K hK; go_simp; (first | (refine hK _ ?_; clear hK K) | (refine CalmB.of ?_; apply Exists.intro; refine ⟨fun wcalm hcalm => ?_, hK _ ?_⟩; (focus (go_simp; first | done | rfl)); clear hK K)))
            try go_simp
            (apply s_spec []; (focus ((first | dsimp only [stF, pF] | dsimp only [pF] | skip); decide +kernel)); (focus rfl); (focus rfl); (focus rfl); focus (intro bP wc hC hgood; go_simp; refine pF_call HF2.out.ain HST.out hC (hgood.2 rfl) hbm ?_ ?_ ?_ ?_; ((first | dsimp only [stF, pF] | dsimp only [pF] | skip); decide +kernel); ((first | dsimp only [stF, pF] | dsimp only [pF] | skip); decide +kernel); ((first | dsimp only [stF, pF] | dsimp only [pF] | skip); decide +kernel); decide))
            try go_simp
            (apply s_spec [54]; (focus ((first | dsimp only [stF, pF] | dsimp only [pF] | skip); decide +kernel)); (focus rfl); (focus rfl); (focus rfl); focus (intro bP wc hC hgood; simp only [ovl]; go_simp; refine pF_move hC (hgood.1 13 (show 13 ∈ [13] from List.mem_singleton.2 rfl)) rfl ?_ ?_ ?_ ?_; ((first | dsimp only [stF, pF] | dsimp only [pF] | skip); decide +kernel); ((first | dsimp only [stF, pF] | dsimp only [pF] | skip); decide +kernel); decide; decide))
            try go_simp
            (apply s_spec [40]; (focus ((first | dsimp only [stF, pF] | dsimp only [pF] | skip); decide +kernel)); (focus rfl); (focus rfl); (focus rfl); focus (intro bP wc hC hgood; obtain ⟨u, e1, e2, e3, e4⟩ := hgood.1 14 (show 14 ∈ [14] from List.mem_singleton.2 rfl); simp only [ovl]; go_simp; refine pF_ext hC e2 e3 e4 ?_ ?_ ?_ ?_; ((first | dsimp only [stF, pF] | dsimp only [pF] | skip); decide +kernel); decide; decide; decide))
            try go_simp
            (apply s_stepL [40]; (focus ((first | dsimp only [stF, pF] | dsimp only [pF] | skip); decide +kernel)); (focus rfl); (focus rfl); (focus rfl); intro K hK; refine CalmS.of ?_; apply Exists.intro; refine ⟨fun bP wc hC hgood => ?_, hK _ ?_⟩; (focus (obtain ⟨u, e1, e2, e3, e4⟩ := hgood.1 14 (show 14 ∈ [14] from List.mem_singleton.2 rfl); simp only [ovl]; go_simp; first | done | rfl)); clear hK K)
            try go_simp
            (apply s_spec []; (focus ((first | dsimp only [stF, pF] | dsimp only [pF] | skip); decide +kernel)); (focus rfl); (focus rfl); (focus rfl); focus (intro bP wc hC hgood; refine pF_alloc ?_ hC ?_ ?_ ?_ ?_; exact rfl; ((first | dsimp only [stF, pF] | dsimp only [pF] | skip); decide +kernel); decide; decide; decide))
            try go_simp
            (apply s_spec [54, 40, 55, 13]; (focus ((first | dsimp only [stF, pF] | dsimp only [pF] | skip); decide +kernel)); (focus rfl); (focus rfl); (focus rfl); focus (intro bP wc hC hgood; refine pF_store hC (hgood.1 15 (show 15 ∈ [15, 17] by simp)) (hgood.1 17 (show 17 ∈ [15, 17] by simp)) hbm ?_ ?_ ?_ ?_ ?_ ?_ ?_; exact rfl; exact rfl; exact rfl; ((first | dsimp only [stF, pF] | dsimp only [pF] | skip); decide +kernel); ((first | dsimp only [stF, pF] | dsimp only [pF] | skip); decide +kernel); ((first | dsimp only [stF, pF] | dsimp only [pF] | skip); decide +kernel); decide +kernel))
            try go_simp
            (apply s_step (fun _ h => hcls _ h); (focus ((first | dsimp only [stF, pF] | dsimp only [pF] | skip); decide +kernel)); intro K hK; go_simp; (first | (refine hK _ ?_; clear hK K) | (refine CalmB.of ?_; apply Exists.intro; refine ⟨fun wcalm hcalm => ?_, hK _ ?_⟩; (focus (go_simp; first | done | rfl)); clear hK K)))
            refine v_nil ?_
            refine HFF.out _ ?_
            intro bP wq hq hX
            obtain ⟨b13, hv13, _, u, hcr13, hbu, hrow, hmem⟩ := hX 18 (show 18 ∈ [18] from List.mem_singleton.2 rfl)
            refine PF.mk ?_ ⟨did, false, c2, bl2, M2, b13, u, HST.out, hv13, rfl, hcr13, hbu, hrow, hmem, hq⟩
            simp only [ovl]
            go_simp
        simp only [ovl]
        go_simp
        obtain ⟨did, d, c2, bl2, M2, b13, u, hst, hv13, hv14, hcr13, hbu, hrow, hmem, hup⟩ := hP
        simp only [hv13, hv14]
        have HST := Lib.hid hst
        have HU := Lib.hid hup
        have HBU := Lib.hid hbu
        have HROW := Lib.hid hrow
        have HMEM := Lib.hid hmem
        clear hst hv13 hv14 hup hrow hmem
        cases did with
        | false =>
          go_wp2
          go_ret
          exact ⟨rfl, HF2.out.bel.trans (HU.out.below hmg (Nat.le_of_lt hbm))⟩
        | true =>
          obtain ⟨adu, capu, rfl, -, -⟩ := hbu
          have HCN := Lib.hid hcr13
          have HCQ := Lib.hid (CrAt.mk (blk_ups HF2.out.cr.heap HU.out h9m))
          have HRQ := Lib.hid (BlkAt.mk (blk_ups HF2.out.rl.heap HU.out h8m))
          have HXQ := Lib.hid (InB.mk (blk_ups HX2.out.heap HU.out (Nat.ne_of_gt hbm12)))
          have HCI := Lib.hid (HF2.out.ain.cin.ups HU.out HF2.out.ain.sep (HF2.out.ain.row.ne HF2.out.ain.mem.heap (by decide)))
          have qn := HCN.out.pcc
          have qnb := HCN.out.bufc
          have qc := HCQ.out.pcc
          have qo := HXQ.out.opc
          have qm := HXQ.out.modec
          rw [show ({ c2 with buf := .slice adu bl2.length capu } : Cr).pc = c2.pc from rfl] at qn
          rw [show ({ c2 with buf := .slice adu bl2.length capu } : Cr).buf = .slice adu bl2.length capu from rfl] at qnb
          rw [HPE.out] at qc
          have HPass := Lib.hid (fun h => fence_pass HF2.out.ain.cok HST.out h)
          rw [HXE.out, HPE.out] at HPass
          obtain ⟨xop, hxop⟩ : ∃ o, x.op = o := ⟨_, rfl⟩
          obtain ⟨xmo, hxmo⟩ : ∃ o, x.mode = o := ⟨_, rfl⟩
          obtain ⟨pc2, hpc2⟩ : ∃ o, c2.pc = o := ⟨_, rfl⟩
          rw [hxop, hxmo, hpc2] at HPass
          rw [hxop] at qo
          rw [hxmo] at qm
          rw [hpc2] at qn
          have HXO := Lib.hid hxop
          have HXM := Lib.hid hxmo
          clear hxop hxmo hpc2 hcr13
          go_upto_region 16 with (fail)
          refine wp_forget [64, 65, 66, 67, 68, 69, 70, 71, 72, 73, 74, 75, 76, 77, 78, 79, 80, 81, 82, 83, 84, 85, 86, 87, 88, 89] 90 (.bool false) ?_ (fun γ => ?_)
          · by_cases hps : pc2 = (p : Int)
            · have e1 : (pc2 != (p : Int)) = false := by rw [hps]; simp
              clear hps
              go_wp2
              refine Forgot.mk ?_; simp only [ovl]; go_simp
            · have e1 : (pc2 != (p : Int)) = true := by simp [bne, ne_beq hps]
              have hl0 : ((xop = 7 ∧ xmo = 3) ∨ (4 ≤ xop ∧ xop ≤ 6)) → ((bl2.length : Nat) : Int) = 0 := fun h => by rw [HPass.out hps h]; rfl
              clear hps
              by_cases h7 : xop = 7
              · subst h7
                by_cases h3 : xmo = 3
                · subst h3
                  have hl1 := hl0 (.inl ⟨rfl, rfl⟩)
                  clear hl0
                  go_wp2
                  refine Forgot.mk ?_; simp only [ovl]; go_simp
                · have h3b := ne_beq h3
                  clear h3 hl0
                  go_wp2
                  refine Forgot.mk ?_; simp only [ovl]; go_simp
              · have h7b := ne_beq h7
                by_cases h4 : 4 ≤ xop
                · by_cases h6 : xop ≤ 6
                  · have hl1 := hl0 (.inr ⟨h4, h6⟩)
                    clear hl0 h7
                    go_wp2
                    refine Forgot.mk ?_; simp only [ovl]; go_simp
                  · clear hl0 h7
                    go_wp2
                    refine Forgot.mk ?_; simp only [ovl]; go_simp
                · clear hl0 h7
                  go_wp2
                  refine Forgot.mk ?_; simp only [ovl]; go_simp
          simp only [ovl]
          go_simp
          go_upto_region 18 with (fail)
          by_cases h7 : xop = 7
          · by_cases h3 : xmo = 3
            · subst h7 h3
              go_upto_region 20 with (fail)
              have hb18 := Below.refl wq.heap.size wq
              have HW18 := Lib.hid hb18
              have HC18 := Lib.hid (HCQ.out.over hb18)
              have HN18 := Lib.hid (HCN.out.over hb18)
              have HFN := Lib.hid (fl_next HF2.out HST.out (by omega) HU.out HBU.out HROW.out HMEM.out hb18 h89 h8m h9m h9g hmg)
              have HLE := Lib.hid (step_ok HF2.out.ain.cok HF2.out.ain.cin.x HST.out).2
              clear hb18
              go_upto_region 21 with (first
                | (refine wpList_load_part 27 _ rfl rfl (by rfl) HN18.out.load ?_)
                | (refine wpList_store_core (c := { c2 with buf := .slice adu bl2.length capu }) rfl _ _ rfl rfl rfl rfl HC18.out ?_; intro hR))
              have HR9 := Lib.hid hR
              clear hR
              have qr3 := HFN.out.rl.rls3
              have qb9 := HFN.out.cr.bufc
              rw [show ({ c2 with buf := .slice adu bl2.length capu } : Cr).buf = .slice adu bl2.length capu from rfl] at qb9
              by_cases hz : pk = 0
              · have hb0 : bl2 = [] := buf_zero HF2.out.ain.cok (hz ▸ HST.out) (HPK.out hz)
                have hl0 : ((bl2.length : Nat) : Int) = 0 := by rw [hb0]; rfl
                have HB0 := Lib.hid hb0
                have HZ := Lib.hid hz
                have hz1 : (pk == 0) = true := by rw [hz]; rfl
                clear hb0 hz
                go_wp2
                exact ⟨⟨j + 1, _, bl2, M2, by omega, by go_num, by have := HLE.out; omega, fun _ => HB0.out, HFN.out⟩, by simp [intOf]; omega⟩
              · have hz1 : (pk == 0) = false := ne_beq hz
                have HZ := Lib.hid hz
                clear hz
                go_wp2
                exact ⟨⟨j + 1, _, bl2, M2, by omega, by go_num, by have := HLE.out; omega, fun h => absurd h HZ.out, HFN.out⟩, by simp [intOf]; omega⟩
            · have HN2 := Lib.hid (fence_free (most := pk) HF2.out.ain.cok (by rw [HXE.out, HXO.out, h7]) (by rw [HXE.out, HXM.out]; exact h3))
              have HCX := Lib.hid (show Calls Try.prog 15 #[.slice adl N capl, .agg (rls 0 0 0 pk false), .agg c.cells] wq fun e w'' => e = .returned (.int .u8 2) ∧ Below wq.heap.size wq w'' from HN2.out ▸ c_Next c bl _ tl 0 0 0 pk false wq HCI.out.core HCI.out.ins)
              have h3b := ne_beq h3
              subst h7
              clear h3
              have h3c : (xmo != 3) = true := by simp [bne, h3b]
              go_upto_region 20 with (first
                | (refine wpList_load_part 35 _ rfl rfl (by rfl) (load35 HRQ.out) ?_)
                | (refine wpList_load_part 27 _ rfl rfl (by rfl) HCQ.out.load ?_)
                | (go_at_call 15; (with_reducible refine HCX.out.mono ?_); rintro e w18 ⟨rfl, hb18⟩))
              have HW18 := Lib.hid hb18
              have HC18 := Lib.hid (HCQ.out.over hb18)
              have HN18 := Lib.hid (HCN.out.over hb18)
              have HFN := Lib.hid (fl_next HF2.out HST.out (by omega) HU.out HBU.out HROW.out HMEM.out hb18 h89 h8m h9m h9g hmg)
              have HLE := Lib.hid (step_ok HF2.out.ain.cok HF2.out.ain.cin.x HST.out).2
              clear hb18
              go_upto_region 21 with (first
                | (refine wpList_load_part 27 _ rfl rfl (by rfl) HN18.out.load ?_)
                | (refine wpList_store_core (c := { c2 with buf := .slice adu bl2.length capu }) rfl _ _ rfl rfl rfl rfl HC18.out ?_; intro hR))
              have HR9 := Lib.hid hR
              clear hR
              have qr3 := HFN.out.rl.rls3
              have qb9 := HFN.out.cr.bufc
              rw [show ({ c2 with buf := .slice adu bl2.length capu } : Cr).buf = .slice adu bl2.length capu from rfl] at qb9
              by_cases hz : pk = 0
              · have hb0 : bl2 = [] := buf_zero HF2.out.ain.cok (hz ▸ HST.out) (HPK.out hz)
                have hl0 : ((bl2.length : Nat) : Int) = 0 := by rw [hb0]; rfl
                have HB0 := Lib.hid hb0
                have HZ := Lib.hid hz
                have hz1 : (pk == 0) = true := by rw [hz]; rfl
                clear hb0 hz
                go_wp2
                exact ⟨⟨j + 1, _, bl2, M2, by omega, by go_num, by have := HLE.out; omega, fun _ => HB0.out, HFN.out⟩, by simp [intOf]; omega⟩
              · have hz1 : (pk == 0) = false := ne_beq hz
                have HZ := Lib.hid hz
                clear hz
                go_wp2
                exact ⟨⟨j + 1, _, bl2, M2, by omega, by go_num, by have := HLE.out; omega, fun h => absurd h HZ.out, HFN.out⟩, by simp [intOf]; omega⟩
          · have h7b := ne_beq h7
            clear h7
            go_upto_region 20 with (fail)
            have hb18 := Below.refl wq.heap.size wq
            have HW18 := Lib.hid hb18
            have HC18 := Lib.hid (HCQ.out.over hb18)
            have HN18 := Lib.hid (HCN.out.over hb18)
            have HFN := Lib.hid (fl_next HF2.out HST.out (by omega) HU.out HBU.out HROW.out HMEM.out hb18 h89 h8m h9m h9g hmg)
            have HLE := Lib.hid (step_ok HF2.out.ain.cok HF2.out.ain.cin.x HST.out).2
            clear hb18
            go_upto_region 21 with (first
              | (refine wpList_load_part 27 _ rfl rfl (by rfl) HN18.out.load ?_)
              | (refine wpList_store_core (c := { c2 with buf := .slice adu bl2.length capu }) rfl _ _ rfl rfl rfl rfl HC18.out ?_; intro hR))
            have HR9 := Lib.hid hR
            clear hR
            have qr3 := HFN.out.rl.rls3
            have qb9 := HFN.out.cr.bufc
            rw [show ({ c2 with buf := .slice adu bl2.length capu } : Cr).buf = .slice adu bl2.length capu from rfl] at qb9
            by_cases hz : pk = 0
            · have hb0 : bl2 = [] := buf_zero HF2.out.ain.cok (hz ▸ HST.out) (HPK.out hz)
              have hl0 : ((bl2.length : Nat) : Int) = 0 := by rw [hb0]; rfl
              have HB0 := Lib.hid hb0
              have HZ := Lib.hid hz
              have hz1 : (pk == 0) = true := by rw [hz]; rfl
              clear hb0 hz
              go_wp2
              exact ⟨⟨j + 1, _, bl2, M2, by omega, by go_num, by have := HLE.out; omega, fun _ => HB0.out, HFN.out⟩, by simp [intOf]; omega⟩
            · have hz1 : (pk == 0) = false := ne_beq hz
              have HZ := Lib.hid hz
              clear hz
              go_wp2
              exact ⟨⟨j + 1, _, bl2, M2, by omega, by go_num, by have := HLE.out; omega, fun h => absurd h HZ.out, HFN.out⟩, by simp [intOf]; omega⟩
    · have hji : ¬ (j : Int) < 200 := by omega
      go_wp2
      go_ret
      exact ⟨rfl, HF.out.bel⟩
end Go.Proofs.Ytckcdpmfmfpmmaa
