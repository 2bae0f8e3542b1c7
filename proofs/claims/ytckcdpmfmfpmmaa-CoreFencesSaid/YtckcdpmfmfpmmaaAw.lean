/-
  seisinlaw30.awake: the examples hold.
-/
import Derived.Test.YtckcdpmfmfpmmaaBack
namespace Go.Proofs.Ytckcdpmfmfpmmaa
open Go.RowKit

def l0 : List In := [⟨2, 0, 0, false, 1, false, 0, 0, 0, 0⟩, ⟨1, 1, 0, false, 0, false, 0, 0, 0, 0⟩]
theorem l0_ok : ∀ x ∈ l0, XOk x := by
  intro x hx
  simp only [l0, List.mem_cons, List.not_mem_nil, or_false] at hx
  rcases hx with rfl | rfl <;> constructor <;> decide
theorem wpList_store_new {P : Program} {ops : Array Oper} {rest : List Oper} {o : Oper} {a : Act} {w : World} {Q : Exit → Act → World → Prop} {T : TypeId} {cs Z : Array Value} (hgd : o.guard = none) (x y : Operand) (ho : o.op = .store T x y)
    (hx : a.eval x = .pointer (some ⟨w.heap.size, 0, none⟩)) (hy : a.eval y = .agg cs) (hi : (P.info? T).map (·.size) = some cs.size) (hz : Z.size = cs.size) (h1 : cs.all (·.oneCell') = true)
    (h : wpList P ops Q rest (a.put o.dst undef) (w.alloc (.cells cs T))) : wpList P ops Q (o :: rest) a (w.alloc (.cells Z T)) := by
  refine wpList_store_row hgd T x y ho w.heap.size cs hx hy T Z (heap_alloc_new w _) hi hz h1 ?_
  have e : (w.alloc (.cells Z T)).setRow w.heap.size cs = w.alloc (.cells cs T) := by
    have h2 : (w.heap.push (.cells Z T)).modify w.heap.size (fun | .cells _ elem frozen => .cells cs elem frozen | o => o) = w.heap.push (.cells cs T) := by
      refine Array.ext_getElem? fun j => ?_
      rw [Array.getElem?_modify, Array.getElem?_push, Array.getElem?_push]
      by_cases hj : w.heap.size = j
      · subst hj; simp
      · have hj2 : ¬ j = w.heap.size := fun h => hj h.symm
        simp [hj, hj2]
    exact congrArg (fun h => ({ w with heap := h } : World)) h2
  rw [e]
  exact h
theorem InAt.of_row {w : World} {b : Nat} {l : List In} (h : w.heap[b]? = some (.cells (l.flatMap fun x => x.cells.toList).toArray 38 (0, 0))) : InAt w w.heap.size (some ⟨b, 0, none⟩) l := by
  intro j x hx
  refine ⟨b, 0, rfl, (Array.getElem?_eq_some_iff.1 h).1, fun i v hv => ?_⟩
  rw [cell_of_row _ _ _ _ _ _ h, Nat.zero_add]
  have hi : i < 10 := (Array.getElem?_eq_some_iff.1 hv).1
  have key : ∀ (l : List In) (j : Nat), l[j]? = some x → (l.flatMap fun x => x.cells.toList)[j * 10 + i]? = some v := by
    intro l
    induction l with
    | nil => intro j hj; simp at hj
    | cons y l ih =>
      intro j hj
      rw [List.flatMap_cons]
      have hy : y.cells.toList.length = 10 := rfl
      cases j with
      | zero =>
        simp only [List.getElem?_cons_zero, Option.some.injEq] at hj
        subst hj
        rw [List.getElem?_append_left (by rw [hy]; omega), Nat.zero_mul, Nat.zero_add]
        simpa using hv
      | succ j =>
        rw [List.getElem?_append_right (by rw [hy]; omega), hy, show (j + 1) * 10 + i - 10 = j * 10 + i by omega]
        exact ih j (by simpa using hj)
  simpa using key l j hx
set_option maxRecDepth 8000 in
theorem c_example (w : World) : Calls Try.prog 25 #[] w fun e w' => ∃ ad cap, e = .returned (.slice ad 2 cap) ∧ InAt w' w'.heap.size ad l0 ∧ Below w.heap.size w w' := by
  have HB := Lib.hid ((Below.refl w.heap.size w).alloc (Nat.le_refl _) (.cells (l0.flatMap fun x => x.cells.toList).toArray 38))
  have HI := Lib.hid (InAt.of_row (heap_alloc_new w (.cells (l0.flatMap fun x => x.cells.toList).toArray 38)))
  go_enter Try.func25, Try.ntmps25
  go_wp2
  go_ret
  exact ⟨_, _, rfl, HI.out, HB.out⟩
/-- What the examples work on. -/
structure AwF (w0 w : World) (ad : Option Addr) (cap b2 b3 : Nat) : Prop where
  bel : Below w0.heap.size w0 w
  r1 : BlkAt w b2 (rls 0 0 0 1 false) 35
  r0 : BlkAt w b3 (rls 0 0 0 0 false) 35
  ins : InAt w w.heap.size ad l0
theorem AwF.over {w0 w w' : World} {ad : Option Addr} {cap b2 b3 : Nat} (h : AwF w0 w ad cap b2 b3) (hb : Below w.heap.size w w') : AwF w0 w' ad cap b2 b3 :=
  ⟨Below.chain h.bel hb, h.r1.over hb, h.r0.over hb, (h.ins.below hb).mono hb.size⟩
theorem AwF.cin {w0 w : World} {ad : Option Addr} {cap b2 b3 : Nat} (h : AwF w0 w ad cap b2 b3) {c : Cr} {bl : List (Nat × Nat)} (hp : 0 ≤ c.pc ∧ c.pc ≤ 255) (hr : RgOk c) (hb : BufOk w c.buf bl) (hl : bl.length ≤ 1000) : CIn w c bl (.slice ad 2 cap) l0 :=
  ⟨⟨hp.1, hp.2, hb, hl⟩, InsOk.of h.ins (by show 2 ≤ _; unfold maxLen; omega) l0_ok, l0_ok, hr⟩
theorem load35 {w : World} {b : Nat} {r1 r2 r3 m : Int} {ev : Bool} (h : BlkAt w b (rls r1 r2 r3 m ev) 35) : (loadVar 35 ⟨b, 0, none⟩).run Try.prog w = .ok (.agg (rls r1 r2 r3 m ev)) w :=
  run_load_part w b 0 _ _ 35 35 (0, 0) _ h.heap Try.underlying35 rfl (by show _ = some 5; kernel_rfl) (fun j v hv => by rw [Nat.zero_add]; exact hv)
theorem nil_buf (w : World) : BufOk w (.slice none 0 0) [] := ⟨none, 0, rfl, fun _ => rfl, fun j p hp => by simp at hp⟩
theorem rg_zero : RgOk Cr.zero := ⟨fun _ => Int.le_refl 0, fun _ => by show (0 : Int) ≤ 255; decide⟩
def c1 : Cr := ⟨1, fun _ => 0, .slice none 0 0, false, false⟩
def c2 : Cr := ⟨2, updR (fun _ => 0) 1 1, .slice none 0 0, false, false⟩
theorem rg_one (v : Value) : RgOk { c1 with buf := v } := ⟨fun _ => Int.le_refl 0, fun _ => by show (0 : Int) ≤ 255; decide⟩
theorem rg_two (v : Value) : RgOk { c2 with buf := v } := ⟨fun i => by show 0 ≤ updR (fun _ => 0) 1 1 i; unfold updR; split <;> simp, fun i => by show updR (fun _ => 0) 1 1 i ≤ 255; unfold updR; split <;> simp⟩
/-! What the examples give. -/
theorem n_a : nextV Cr.zero l0 [] 1 = 2 := by decide
theorem n_b : nextV Cr.zero l0 [] 0 = 3 := by decide
theorem q_a : askQ Cr.zero l0 = ⟨2, 0, 1, 0⟩ := by rfl
theorem l_d : locC Cr.zero l0 [] 1 = { c1 with buf := Cr.zero.buf } ∧ locB Cr.zero l0 [] 1 = [(0, 1)] := ⟨by rfl, by rfl⟩
theorem n_e (v : Value) : nextV { c1 with buf := v } l0 [(0, 1)] 1 = 2 := by rfl
theorem l_f (v : Value) : locC { c1 with buf := v } l0 [(0, 1)] 1 = { c2 with buf := v } ∧ locB { c1 with buf := v } l0 [(0, 1)] 1 = [(0, 1)] := ⟨by rfl, by rfl⟩
theorem n_f (v : Value) : nextV { c2 with buf := v } l0 [(0, 1)] 1 = 4 := by rfl
theorem a_Next {w : World} {c : Cr} {bl : List (Nat × Nat)} {v : Value} (most n : Int) (h : CIn w c bl v l0) (hn : nextV c l0 bl most = n) : Calls Try.prog 15 #[v, .agg (rls 0 0 0 most false), .agg c.cells] w fun e w' => e = .returned (.int .u8 n) ∧ Below w.heap.size w w' :=
  hn ▸ c_Next c bl v l0 0 0 0 most false w h.core h.ins
theorem a_Ask {w : World} {v : Value} (h : CIn w Cr.zero [] v l0) : Calls Try.prog 26 #[v, .agg Cr.zero.cells] w fun e w' => e = .returned (.agg (Rq.mk 2 0 1 0).cells) ∧ Below w.heap.size w w' := by
  have := c_Ask h
  rw [q_a] at this
  exact this
theorem a_Loc {w : World} {v : Value} (h : CIn w Cr.zero [] v l0) : Calls Try.prog 16 #[v, .agg (rls 0 0 0 1 false), .agg Cr.zero.cells] w fun e w' => ∃ u, e = .returned (.agg { c1 with buf := u }.cells) ∧ BufOk w' u [(0, 1)] ∧ Below w.heap.size w w' := by
  have := c_Local 0 0 0 1 false h
  rw [l_d.1, l_d.2] at this
  exact this.mono fun e w' h => h.b
theorem a_Loc2 {w : World} {v u : Value} (h : CIn w { c1 with buf := u } [(0, 1)] v l0) : Calls Try.prog 16 #[v, .agg (rls 0 0 0 1 false), .agg { c1 with buf := u }.cells] w fun e w' => ∃ u, e = .returned (.agg { c2 with buf := u }.cells) ∧ BufOk w' u [(0, 1)] ∧ Below w.heap.size w w' := by
  have := c_Local 0 0 0 1 false h
  rw [(l_f u).1, (l_f u).2] at this
  exact this.mono fun e w' h => h.b
theorem zero55 (w : World) : (zeroValue 55).run Try.prog w = .ok (.agg #[.int .u8 0, .int .u8 0, .int .u8 0, .int .u8 0]) w := by kernel_rfl
theorem one_buf {c : Cr} {v : Value} {w : World} {bl : List (Nat × Nat)} (h : BufOk w v bl) : ({ c with buf := v } : Cr).cells.all (·.oneCell') = true := by
  obtain ⟨ad, cap, rfl, _⟩ := h
  exact core_one rfl

set_option maxRecDepth 8000 in
set_option maxHeartbeats 4000000 in
theorem c_awake (w : World) : Calls Try.prog 14 #[] w fun e w' => e = .returned (.bool true) ∧ Below w.heap.size w w' := by
  go_enter Try.func14, Try.ntmps14
  go_upto_region 3 with (first
    | (go_at_call 25; (with_reducible refine (c_example _).mono ?_); rintro e w1 ⟨ad, cap, rfl, hin, hb⟩; have HIn := Lib.hid hin; have HB := Lib.hid hb; clear hin hb))
  have HF := Lib.hid (show AwF w ((w1.alloc (.cells (rls 0 0 0 1 false) 35)).alloc (.cells (rls 0 0 0 0 false) 35)) ad cap w1.heap.size (w1.heap.size + 1) from by
    have h1 := BlkAt.new w1 (rls 0 0 0 1 false) 35
    have h2 := BlkAt.new (w1.alloc (.cells (rls 0 0 0 1 false) 35)) (rls 0 0 0 0 false) 35
    rw [World.size_alloc] at h2
    have hb := ((Below.refl w1.heap.size w1).alloc (Nat.le_refl _) (.cells (rls 0 0 0 1 false) 35)).alloc (by simp) (.cells (rls 0 0 0 0 false) 35)
    exact ⟨Below.chain HB.out hb, h1.over ((Below.refl _ _).alloc (Nat.le_refl _) _), h2, (HIn.out.below hb).mono hb.size⟩)
  rw [show (rls 0 0 0 1 false) = #[.int .u8 0, .int .u8 0, .int .u8 0, .int .i64 1, .bool false] from rfl, show (rls 0 0 0 0 false) = #[.int .u8 0, .int .u8 0, .int .u8 0, .int .i64 0, .bool false] from rfl] at HF
  clear HIn HB
  generalize (w1.alloc (.cells #[.int .u8 0, .int .u8 0, .int .u8 0, .int .i64 1, .bool false] 35)).alloc (.cells #[.int .u8 0, .int .u8 0, .int .u8 0, .int .i64 0, .bool false] 35) = w2 at *
  generalize w1.heap.size + 1 = b3 at *
  generalize w1.heap.size = b2 at *
  go_upto_region 4 with (first
    | (go_at_call 21; (with_reducible refine (c_New _).mono ?_); rintro e w3 ⟨rfl, hb⟩; have HF3 := Lib.hid (HF.out.over hb); clear hb)
    | (refine wpList_store_new rfl _ _ rfl rfl rfl size27 rfl (core_one rfl) ?_))
  have HF4 := Lib.hid (HF3.out.over ((Below.refl w3.heap.size w3).alloc (Nat.le_refl _) (.cells Cr.zero.cells 27)))
  have HC0 := Lib.hid (CrAt.new w3 Cr.zero)
  clear HF HF3
  generalize w3.alloc (.cells Cr.zero.cells 27) = w4 at *
  generalize w3.heap.size = b4 at *
  have HI := Lib.hid (HF4.out.cin (c := Cr.zero) (by decide) rg_zero (nil_buf w4) (by decide))
  (refine wp_region_fresh 11 14 7 55 (Rq.mk 2 0 1 0).cells #[.int .u8 0, .int .u8 0, .int .u8 0, .int .u8 0] zero55 RqAt.size55 rfl (rq_one _) (by kernel_rfl) (by kernel_rfl) (by first | simp | simp [Act.put]) ?_; refine WpV.out ?_; (repeat (first | (refine f_alloc rfl rfl rfl rfl ?_) | (refine f_store _ rfl rfl (by decide) rfl rfl rfl ?_) | ((refine f_step (by rfl) (fun K hK => ?_)); (first | (refine cb_load_part 35 _ rfl rfl (by rfl) (fun w hC => load35 (HF4.out.over hC).r1) ?_) | (refine cb_load_part 35 _ rfl rfl (by rfl) (fun w hC => load35 (HF4.out.over hC).r0) ?_) | (refine cb_load_part 27 _ rfl rfl (by rfl) (fun w hC => (HC0.out.over hC).load) ?_)); refine hK _ ?_; clear hK K) | ((refine f_step (by rfl) (fun K hK => ?_)); go_simp; (first | (refine hK _ ?_; clear hK K) | (refine CalmB.of ?_; apply Exists.intro; refine ⟨fun wcalm hcalm => ?_, hK _ ?_⟩; (focus ((skip); go_simp; first | done | (first | (go_at_call 15; with_reducible exact a_Next 1 2 (HI.out.over hcalm) n_a) | (go_at_call 15; with_reducible exact a_Next 0 3 (HI.out.over hcalm) n_b) | (go_at_call 26; with_reducible exact a_Ask (HI.out.over hcalm))) | rfl)); clear hK K))))); refine v_nil ?_; intro bF wq hq hrF hbF; try go_simp)
  have HF5 := Lib.hid (HF4.out.over hq)
  have HC5 := Lib.hid (HC0.out.over hq)
  have HQ5 := Lib.hid (show RqAt wq bF ⟨2, 0, 1, 0⟩ from ⟨hrF.heap⟩)
  have HI5 := Lib.hid (HI.out.over hq)
  clear HF4 HC0 HI hq hrF hbF
  go_upto_region 6 with (first
    | (refine wpList_load_part 35 _ rfl rfl (by rfl) (load35 HF5.out.r1) ?_)
    | (refine wpList_load_part 27 _ rfl rfl (by rfl) HC5.out.load ?_)
    | (go_at_call 16; (with_reducible refine (a_Loc HI5.out).mono ?_); rintro e w6 ⟨v6, rfl, hbu, hb⟩; have HF6 := Lib.hid (HF5.out.over hb); have HQ6 := Lib.hid (HQ5.out.over hb); have HV6 := Lib.hid hbu; clear hb hbu)
    | (refine wpList_store_new rfl _ _ rfl rfl rfl size27 rfl (one_buf HV6.out) ?_))
  have hbn := (Below.refl w6.heap.size w6).alloc (Nat.le_refl _) (.cells { c1 with buf := v6 }.cells 27)
  have HF7 := Lib.hid (HF6.out.over hbn)
  have HQ7 := Lib.hid (HQ6.out.over hbn)
  have HV7 := Lib.hid (HV6.out.over hbn)
  have HC7 := Lib.hid (CrAt.new w6 { c1 with buf := v6 })
  clear HF5 HC5 HQ5 HI5 HF6 HQ6 HV6 hbn
  generalize w6.alloc (.cells { c1 with buf := v6 }.cells 27) = w7 at *
  generalize w6.heap.size = b8 at *
  have HI7 := Lib.hid (HF7.out.cin (c := { c1 with buf := v6 }) (by show (0 : Int) ≤ 1 ∧ (1 : Int) ≤ 255; decide) (rg_one v6) HV7.out (by decide))
  go_upto_region 7 with (first
    | (refine wpList_load_part 35 _ rfl rfl (by rfl) (load35 HF7.out.r1) ?_)
    | (refine wpList_load_part 27 _ rfl rfl (by rfl) HC7.out.load ?_)
    | (go_at_call 15; (with_reducible refine (a_Next 1 2 HI7.out (n_e v6)).mono ?_); rintro e w8 ⟨rfl, hb⟩; have HF8 := Lib.hid (HF7.out.over hb); have HQ8 := Lib.hid (HQ7.out.over hb); have HC8 := Lib.hid (HC7.out.over hb); have HV8 := Lib.hid (HV7.out.over hb); have HI8 := Lib.hid (HI7.out.over hb); clear hb))
  clear HF7 HQ7 HC7 HV7 HI7
  go_upto_region 8 with (first
    | (refine wpList_load_part 35 _ rfl rfl (by rfl) (load35 HF8.out.r1) ?_)
    | (refine wpList_load_part 27 _ rfl rfl (by rfl) HC8.out.load ?_)
    | (go_at_call 16; (with_reducible refine (a_Loc2 HI8.out).mono ?_); rintro e w9 ⟨v9, rfl, hbu, hb⟩; have HF9 := Lib.hid (HF8.out.over hb); have HQ9 := Lib.hid (HQ8.out.over hb); have HC9 := Lib.hid (HC8.out.over hb); have HV9 := Lib.hid (HV8.out.over hb); have HX9 := Lib.hid hbu; clear hb hbu)
    | (refine wpList_store_new rfl _ _ rfl rfl rfl size27 rfl (one_buf HX9.out) ?_))
  have hbn := (Below.refl w9.heap.size w9).alloc (Nat.le_refl _) (.cells { c2 with buf := v9 }.cells 27)
  have HFA := Lib.hid (HF9.out.over hbn)
  have HQA := Lib.hid (HQ9.out.over hbn)
  have HVA := Lib.hid (HV9.out.over hbn)
  have HXA := Lib.hid (HX9.out.over hbn)
  have HCA := Lib.hid (HC9.out.over hbn)
  have HDA := Lib.hid (CrAt.new w9 { c2 with buf := v9 })
  clear HF8 HQ8 HC8 HV8 HI8 HF9 HQ9 HC9 HV9 HX9 hbn
  generalize w9.alloc (.cells { c2 with buf := v9 }.cells 27) = wA at *
  generalize w9.heap.size = b10 at *
  have HIA := Lib.hid (HFA.out.cin (c := { c2 with buf := v9 }) (by show (0 : Int) ≤ 2 ∧ (2 : Int) ≤ 255; decide) (rg_two v9) HXA.out (by decide))
  obtain ⟨ad5, cap5, rfl, -, hst5⟩ := HVA.out
  obtain ⟨g5, o5, rfl, hlt5, s1, s2⟩ := hst5 0 (0, 1) rfl
  clear hst5
  simp only [Nat.zero_mul, Nat.add_zero] at s1 s2
  have k9 := HCA.out.at_ 9
  rw [show ∀ v, ({ c1 with buf := v } : Cr).cells[9]? = some v from fun _ => rfl] at k9
  have kr := HDA.out.at_ 2
  rw [show ∀ v, ({ c2 with buf := v } : Cr).cells[2]? = some (.int .u8 1) from fun _ => rfl] at kr
  go_wp2_with (first
    | (refine wpList_load_part 35 _ rfl rfl (by rfl) (load35 HFA.out.r1) ?_)
    | (refine wpList_load_part 55 _ rfl rfl (by rfl) (show (loadVar 55 ⟨bF, 0, none⟩).run Try.prog wA = .ok (.agg #[.int .u8 2, .int .u8 0, .int .u8 1, .int .u8 0]) wA from HQA.out.load) ?_)
    | (refine wpList_load_part 27 _ rfl rfl (by rfl) HDA.out.load ?_)
    | (go_at_call 15; (with_reducible refine (a_Next 1 4 HIA.out (n_f v9)).mono ?_); rintro e wB ⟨rfl, hb⟩))
  go_ret
  exact ⟨rfl, (HFA.out.over hb).bel⟩
end Go.Proofs.Ytckcdpmfmfpmmaa
