/-
  core.Next: the status of a core.
-/
import Derived.Test.YtckcdpmfmfpmmaaComes
import Derived.Test.YtckcdpmfmfpmmaaPtr
import Derived.Deep.RegionWith
namespace Go.Proofs.Ytckcdpmfmfpmmaa
open Go.RowKit

def rls (a b c : Int) (buf : Int) (ev : Bool) : Array Value := #[.int .u8 a, .int .u8 b, .int .u8 c, .int .i64 buf, .bool ev]
/-- What is known of a core that comes in. -/
structure CoreOk (w : World) (c : Cr) (bl : List (Nat × Nat)) : Prop where
  pc0 : 0 ≤ c.pc
  pc1 : c.pc ≤ 255
  buf : ∃ ab cab, c.buf = .slice ab bl.length cab ∧ (ab = none → cab = 0) ∧ StAt w w.heap.size ab bl
  len : bl.length ≤ 1000
/-- What is known of instructions. -/
structure InsOk (w : World) (v : Value) (l : List In) : Prop where
  sl : ∃ ad cap, v = .slice ad l.length cap ∧ InAt w w.heap.size ad l
  len : l.length ≤ maxLen
  loc : ∀ x ∈ l, 0 ≤ x.loc ∧ 0 ≤ x.an ∧ 0 ≤ x.bn ∧ 0 ≤ x.dst
theorem CoreOk.over {w w' : World} {c : Cr} {bl : List (Nat × Nat)} (h : CoreOk w c bl) (hb : Below w.heap.size w w') : CoreOk w' c bl :=
  ⟨h.pc0, h.pc1, let ⟨ab, cab, h1, h2, h3⟩ := h.buf; ⟨ab, cab, h1, h2, (h3.below hb).mono hb.size⟩, h.len⟩
theorem InsOk.over {w w' : World} {v : Value} {l : List In} (h : InsOk w v l) (hb : Below w.heap.size w w') : InsOk w' v l :=
  ⟨let ⟨ad, cap, h1, h2⟩ := h.sl; ⟨ad, cap, h1, (h2.below hb).mono hb.size⟩, h.len, h.loc⟩
theorem co_of {c : Cr} {bl : List (Nat × Nat)} {v : Value} {l : List In} (w : World) (h1 : CoreOk w c bl) (h2 : InsOk w v l) :
    Calls Try.prog 27 #[v, .agg c.cells] w fun e w' => OfPost w c v l bl.length bl e w' := by
  obtain ⟨ad, cap, rfl, hi⟩ := h2.sl
  obtain ⟨ab, cab, hb, hc, hs⟩ := h1.buf
  exact c_of c h1.pc0 h1.pc1 ad _ cap l rfl h2.len ab _ cab bl hb rfl h1.len hc w hi hs
theorem mkW_loc {c : Cr} {v ins : Value} {l : List In} (h : ∀ x ∈ l, 0 ≤ x.loc ∧ 0 ≤ x.an ∧ 0 ≤ x.bn ∧ 0 ≤ x.dst) : 0 ≤ (mkW c v ins l).x.loc ∧ 0 ≤ (mkW c v ins l).x.an ∧ 0 ≤ (mkW c v ins l).x.bn ∧ 0 ≤ (mkW c v ins l).x.dst := by
  show 0 ≤ ((l[c.pc.toNat]?).getD In.zero).loc ∧ _
  cases hx : l[c.pc.toNat]? with
  | none => simp [mkW, hx, In.zero]
  | some x => simp only [mkW, hx, Option.getD_some]; exact h x (List.mem_of_getElem? hx)
/-- A new working state, as a letter. -/
def WkP (c : Cr) (l : List In) (bl : List (Nat × Nat)) (u : Value) (w : World) : Prop :=
  ∃ b ad cap ins, u = .pointer (some ⟨b, 0, none⟩) ∧ WkAt w b (mkW c (.slice ad bl.length cap) ins l) ∧ StAt w w.heap.size ad bl
theorem wkP_stays (c : Cr) (l : List In) (bl : List (Nat × Nat)) : Stays (WkP c l bl) := by
  rintro u w w' ⟨b, ad, cap, ins, h1, h2, h3⟩ hb
  exact ⟨b, ad, cap, ins, h1, h2.over hb, (h3.below hb).mono hb.size⟩
theorem OfPost.wkP {w w' : World} {c : Cr} {v : Value} {l : List In} {bl : List (Nat × Nat)} {e : Ending} (h : OfPost w c v l bl.length bl e w') : (∃ u, e = .returned u ∧ WkP c l bl u w') ∧ Below w.heap.size w w' := by
  obtain ⟨b, vb, rfl, hW, hge, hown, hne, hbe⟩ := h
  obtain ⟨ad, cap, rfl, hs⟩ := StAt.of_owns hown
  exact ⟨⟨_, rfl, b, ad, cap, _, rfl, hW, hs⟩, hbe⟩
/-- The status, of a core. -/
def nextV (c : Cr) (l : List In) (bl : List (Nat × Nat)) (most : Int) : Int := nxtV (mkW c (.slice none 0 0) (.slice none 0 0) l) bl most
theorem nextV_eq (c : Cr) (v ins : Value) (l : List In) (bl : List (Nat × Nat)) (most : Int) : nxtV (mkW c v ins l) bl most = nextV c l bl most := rfl
/-- comes, behind of. -/
theorem co_comes {c : Cr} {bl : List (Nat × Nat)} {ad : Option Addr} {cap : Nat} {ins : Value} {l : List In} (most : Int) (b : Nat) (w : World) (hl : ∀ x ∈ l, 0 ≤ x.loc ∧ 0 ≤ x.an ∧ 0 ≤ x.bn ∧ 0 ≤ x.dst) (hn : bl.length ≤ 1000) (h : WkAt w b (mkW c (.slice ad bl.length cap) ins l)) (hs : StAt w w.heap.size ad bl) :
    Calls Try.prog 28 #[.pointer (some ⟨b, 0, none⟩), .int .i64 most] w fun e w' => e = .returned (.int .u8 (nextV c l bl most)) ∧ Below w.heap.size w w' :=
  c_comes b (mkW c (.slice ad bl.length cap) ins l) ad bl.length cap bl most rfl rfl hn (mkW_loc hl).1 w h hs
def NPost (w : World) (n : Int) (e : Ending) (w' : World) : Prop := e = .returned (.int .u8 n) ∧ Below w.heap.size w w'

set_option maxRecDepth 8000 in
set_option maxHeartbeats 4000000 in
theorem c_Next (c : Cr) (bl : List (Nat × Nat)) (v : Value) (l : List In) (r1 r2 r3 most : Int) (ev : Bool) (w : World) (h1 : CoreOk w c bl) (h2 : InsOk w v l) :
    Calls Try.prog 15 #[v, .agg (rls r1 r2 r3 most ev), .agg c.cells] w fun e w' => NPost w (nextV c l bl most) e w' := by
  have hC : CrAt ((w.alloc (.cells (rls r1 r2 r3 most ev) 35)).alloc (.cells c.cells 27)) (w.heap.size + 1) c := by
    have := CrAt.new (w.alloc (.cells (rls r1 r2 r3 most ev) 35)) c
    rwa [World.size_alloc] at this
  have hr : ((w.alloc (.cells (rls r1 r2 r3 most ev) 35)).alloc (.cells c.cells 27)).cell? ⟨w.heap.size, 3, none⟩ = some (.int .i64 most) := by
    have h3 : (w.alloc (.cells (rls r1 r2 r3 most ev) 35)).heap[w.heap.size]? = _ := heap_alloc_new w _
    have h4 := (Below.heap_alloc (w.alloc (.cells (rls r1 r2 r3 most ev) 35)) (.cells c.cells 27) w.heap.size (by simp)).trans h3
    rw [cell_of_row _ _ _ _ _ _ h4]; rfl
  have hb := ((Below.refl w.heap.size w).alloc (Nat.le_refl _) (.cells (rls r1 r2 r3 most ev) 35)).alloc (by simp) (.cells c.cells 27)
  have HB := Lib.hid hb
  have HCo := Lib.hid (h1.over hb)
  have HIn := Lib.hid (h2.over hb)
  have HC := Lib.hid hC
  have hlt : w.heap.size < ((w.alloc (.cells (rls r1 r2 r3 most ev) 35)).alloc (.cells c.cells 27)).heap.size := by simp; omega
  clear hC hb h1 h2
  go_enter Try.func15, Try.ntmps15
  go_upto_region 1 with (fail)
  generalize (w.alloc (.cells (rls r1 r2 r3 most ev) 35)).alloc (.cells c.cells 27) = wb at *
  generalize w.heap.size + 1 = b5 at *
  obtain ⟨b4, hb4⟩ : ∃ b4, w.heap.size = b4 := ⟨_, rfl⟩
  have HW := Lib.hid hb4
  rw [hb4] at hr hlt ⊢
  clear hb4
  have q0 := HC.out.at_ 0
  have q1 := HC.out.at_ 1
  have q2 := HC.out.at_ 2
  have q3 := HC.out.at_ 3
  have q4 := HC.out.at_ 4
  have q5 := HC.out.at_ 5
  have q6 := HC.out.at_ 6
  have q7 := HC.out.at_ 7
  have q8 := HC.out.at_ 8
  have q9 := HC.out.at_ 9
  have q10 := HC.out.at_ 10
  have q11 := HC.out.at_ 11
  have hcs : c.cells = #[.int .u8 c.pc, .int .u8 (c.r 0), .int .u8 (c.r 1), .int .u8 (c.r 2), .int .u8 (c.r 3), .int .u8 (c.r 4), .int .u8 (c.r 5), .int .u8 (c.r 6), .int .u8 (c.r 7), c.buf, .bool c.wt, .bool c.dr] := rfl
  simp only [hcs, List.getElem?_toArray, List.getElem?_cons_zero, List.getElem?_cons_succ] at q0 q1 q2 q3 q4 q5 q6 q7 q8 q9 q10 q11
  clear hcs q0 q1 q2 q3 q4 q5 q6 q7 q8 q9 q10 q11
  (refine wp_region_ptr [9] [(9, WkP c l bl)] (by kernel_rfl) (by kernel_rfl) (by intro p hp; simp only [List.mem_singleton] at hp; subst hp; exact wkP_stays c l bl) ?_; refine WpV.out ?_; (repeat (first | (refine p_call0 9 rfl (by rfl) (by rfl) (by rfl) (fun wcalm hcalm => ?_) ?_; focus (go_simp; refine ptrUpon_enter ?_; exact (co_of wcalm (HCo.out.over hcalm) (HIn.out.over hcalm)).mono fun e w' h => (by obtain ⟨⟨u, h1, h2⟩, h3⟩ := h.wkP; exact ⟨⟨u, h1, fun q hq => (by cases hq; exact h2)⟩, h3⟩))) | ((refine p_step (by rfl) (fun K hK => ?_)); (refine cb_load_part 27 _ rfl rfl (by rfl) (fun w hC => (HC.out.over hC).load) ?_); refine hK _ ?_; clear hK K) | ((refine p_step (by rfl) (fun K hK => ?_)); go_simp; (first | (refine hK _ ?_; clear hK K) | (refine CalmB.of ?_; apply Exists.intro; refine ⟨fun wcalm hcalm => ?_, hK _ ?_⟩; (focus ((have hr2 := (hcalm.cell (p := ⟨b4, 3, none⟩) hlt).trans hr); go_simp; first | done | (fail) | rfl)); clear hK K))) | (refine p_stepL (by rfl) (fun K hK => ?_); go_simp; refine CalmL.of ?_; apply Exists.intro; refine ⟨fun bP wcalm hcalm hgood => ?_, hK _ ?_⟩; (focus (obtain ⟨b, ad, cap, ins, hv, hW, hst⟩ := (hgood.get 9 (by rfl) (by rfl)).at_ rfl; simp only [ovl]; go_simp; exact (co_comes most b _ HIn.out.loc HCo.out.len hW hst))); clear hK K))); refine v_nil ?_; intro bP wq hq hX; simp only [ovl]; try go_simp)
  go_wp2
  go_ret
  exact ⟨rfl, Below.chain HB.out hq⟩
end Go.Proofs.Ytckcdpmfmfpmmaa
