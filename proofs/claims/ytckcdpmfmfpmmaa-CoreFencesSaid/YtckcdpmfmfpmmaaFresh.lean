/-
  Regions that draw their order: calls that make memory, loads, and (one) a new block that is made and stored, or (the other) stores at the end: one walk in the order of the text serves every order.
-/
import Derived.Test.YtckcdpmfmfpmmaaMeth
import Derived.StillTail
import Derived.Great.Frames
namespace Go.Proofs.Ytckcdpmfmfpmmaa
open Go.RowKit

abbrev Cls (w0 w1 : World) : Prop := Below w0.heap.size w0 w1
structure BlkAt (w : World) (b : Nat) (cs : Array Value) (T : TypeId) : Prop where
  heap : w.heap[b]? = some (.cells cs T (0, 0))
namespace BlkAt
variable {w w' : World} {b : Nat} {cs : Array Value} {T : TypeId}
theorem lt (h : BlkAt w b cs T) : b < w.heap.size := (Array.getElem?_eq_some_iff.1 h.heap).1
theorem over (h : BlkAt w b cs T) (hb : Below w.heap.size w w') : BlkAt w' b cs T := ⟨(hb.block b h.lt).trans h.heap⟩
theorem new (w : World) (cs : Array Value) (T : TypeId) : BlkAt (w.alloc (.cells cs T)) w.heap.size cs T := ⟨heap_alloc_new w _⟩
end BlkAt
theorem Below.setRow' {B : Nat} {a w : World} {c : Nat} {cs : Array Value} (h : Below B a w) (hp : B ≤ c) : Below B a (w.setRow c cs) :=
  h.trans ⟨rfl, rfl, rfl, by simp [World.setRow], fun k hk => setRow_other w c k cs (by omega)⟩

section
variable {P : Program} {ops : Array Oper} {md : Region.Mode} {Y : Nat → Oper → Value → Act → Prop}

/-- Whatever order is picked: each operation of the head yields, and then L holds. -/
def anyYL (md : Region.Mode) (ops : Array Oper) (n : Nat) (Y : Nat → Oper → Value → Act → Prop) (L : Array Bool → Act → Prop) : Nat → Array Bool → Act → Prop
  | 0, listed, a => L listed a
  | f + 1, listed, a => Region.ready md ops listed ≠ [] ∧ ∀ i ∈ Region.ready md ops listed, i < n ∧ ∃ o v, ops[i]? = some o ∧ Y i o v a ∧ anyYL md ops n Y L f (listed.setIfInBounds i true) (a.put o.dst v)
/-- The walk in the order of the text. -/
def wpY (Y : Nat → Oper → Value → Act → Prop) (Fin : Act → Prop) : Nat → List Oper → Act → Prop
  | _, [], a => Fin a
  | k, o :: rest, a => ∃ v, Y k o v a ∧ wpY Y Fin (k + 1) rest (a.put o.dst v)
/-- A yield looks at what the operation looks at. -/
def YLooks (ops : Array Oper) (Y : Nat → Oper → Value → Act → Prop) : Prop :=
  ∀ (i : Nat) (o : Oper) (v : Value) (a : Act) (d : Option Tmp) (u : Value), ops[i]? = some o → (∀ cs b, o.op ≠ .select cs b) → (∀ t, d = some t → t ∉ o.looksAt ops) → (Y i o v (a.put d u) ↔ Y i o v a)

theorem anyYL_first {n i : Nat} {oi : Oper} {v : Value} {L : Array Bool → Act → Prop} (hi : ops[i]? = some oi) (hsel : ∀ (j : Nat) (o : Oper) cs b, ops[j]? = some o → o.op ≠ .select cs b) (hY : YLooks ops Y) (hin : i < n)
    (hT : ∀ listed, HeadInv md ops n listed → ∀ i, i < n → listed.getD i true = false → ∀ j, n ≤ j → j ∉ Region.ready md ops listed)
    (hdone : ∀ listed a, L listed a → ∀ j ∈ Region.ready md ops listed, n ≤ j) :
    ∀ (f : Nat) (listed : Array Bool) (a : Act), HeadInv md ops n listed →
      (∀ j oj, ops[j]? = some oj → j ≠ i → listed.getD j true = false → (∀ e ∈ oj.after, Region.binds md e = true → e.on ≠ i) → oi.apart ops oj = true) →
      i ∈ Region.ready md ops listed → Y i oi v a →
      anyYL md ops n Y L f (listed.setIfInBounds i true) (a.put oi.dst v) → anyYL md ops n Y L (f + 1) listed a := by
  intro f
  induction f with
  | zero =>
    intro listed a inv _ hr hy H
    have hun := (mem_ready.1 hr).1
    refine ⟨fun h => (by rw [h] at hr; cases hr), fun j hj => ?_⟩
    have hjn : j < n := by
      rcases Nat.lt_or_ge j n with h | h
      · exact h
      · exact absurd hj (hT _ inv i hin hun j h)
    refine ⟨hjn, ?_⟩
    by_cases hji : j = i
    · subst hji; exact ⟨oi, v, hi, hy, H⟩
    · have := hdone _ _ H j (ready_mono hj hji)
      omega
  | succ f ih =>
    intro listed a inv hfree hr hy H
    have hun := (mem_ready.1 hr).1
    refine ⟨fun h => (by rw [h] at hr; cases hr), fun j hj => ?_⟩
    have hjn : j < n := by
      rcases Nat.lt_or_ge j n with h | h
      · exact h
      · exact absurd hj (hT _ inv i hin hun j h)
    refine ⟨hjn, ?_⟩
    by_cases hji : j = i
    · subst hji; exact ⟨oi, v, hi, hy, H⟩
    · obtain ⟨_, oj, u, hoj, hyj, hrest⟩ := H.2 j (ready_mono hj hji)
      obtain ⟨hjun, oj', hoj', hall⟩ := mem_ready.1 hj
      have : oj' = oj := Option.some.inj (hoj'.symm.trans hoj)
      subst this
      have hnot : ∀ e ∈ oj'.after, Region.binds md e = true → e.on ≠ i := fun e he hb heq => by
        have h1 := hall e he hb
        rw [heq, getD_both hun] at h1
        cases h1
      have hap := hfree j oj' hoj hji hjun hnot
      obtain ⟨h1, h2, h3⟩ := Oper.apart_spec hap
      have hyj' := (hY j oj' u a oi.dst v hoj (fun cs b => hsel j oj' cs b hoj) h1).1 hyj
      have hyi' := (hY i oi v a oj'.dst u hi (fun cs b => hsel i oi cs b hi) h3).2 hy
      have hfree' : ∀ k ok, ops[k]? = some ok → k ≠ i → (listed.setIfInBounds j true).getD k true = false →
          (∀ e ∈ ok.after, Region.binds md e = true → e.on ≠ i) → oi.apart ops ok = true := fun k ok hk hki hun hno => by
        refine hfree k ok hk hki ?_ hno
        by_cases hjk : j = k
        · subst hjk; exact hjun
        · rw [getD_set_ne true hjk] at hun; exact hun
      refine ⟨oj', u, hoj, hyj', ih (listed.setIfInBounds j true) (a.put oj'.dst u) (inv.set hj hjn) hfree' (ready_mono hr (Ne.symm hji)) hyi' ?_⟩
      rw [Array.setIfInBounds_comm _ _ hji, ← Act.put_comm a v u h2]
      exact hrest

/-- The order of the text is one of the orders, and each operation may be taken first. -/
def lexHd (md : Region.Mode) (ops : Array Oper) (chk : Array Bool → Bool) : Nat → Nat → Array Bool → Bool
  | 0, _, listed => chk listed
  | f + 1, k, listed => (Region.ready md ops listed).contains k && Region.free md ops listed k && lexHd md ops chk f (k + 1) (listed.setIfInBounds k true)

theorem anyYL_lex {n : Nat} {chk : Array Bool → Bool} {Fin : Act → Prop} (hsel : Region.noSelect ops = true) (hY : YLooks ops Y)
    (hT : ∀ listed, HeadInv md ops n listed → ∀ i, i < n → listed.getD i true = false → ∀ j, n ≤ j → j ∉ Region.ready md ops listed)
    (hdone : ∀ listed, chk listed = true → ∀ j ∈ Region.ready md ops listed, n ≤ j) :
    ∀ (l : List Oper) (k : Nat) (listed : Array Bool) (a : Act), (∀ j, j < l.length → l[j]? = ops[k + j]?) → k + l.length = n → HeadInv md ops n listed →
    lexHd md ops chk l.length k listed = true → wpY Y Fin k l a → anyYL md ops n Y (fun listed' a' => chk listed' = true ∧ Fin a') l.length listed a
  | [], k, listed, a, _, hk, _, hB, h => ⟨hB, h⟩
  | o :: l, k, listed, a, hl, hk, inv, hB, h => by
    have h0 : ops[k]? = some o := by simpa using (hl 0 (by simp)).symm
    simp only [List.length_cons, lexHd, Bool.and_eq_true] at hB
    obtain ⟨⟨hr, hf⟩, hB'⟩ := hB
    have hkn : k < n := by simp only [List.length_cons] at hk; omega
    have hr' : k ∈ Region.ready md ops listed := by simpa using hr
    obtain ⟨v, hy, hK⟩ := h
    exact anyYL_first h0 (Region.noSelect_spec hsel) hY hkn hT (fun listed' a' hL => hdone listed' hL.1) l.length listed a inv (Region.free_spec h0 hf) hr' hy
      (anyYL_lex hsel hY hT hdone l (k + 1) _ _ (fun j hj => by have := hl (j + 1) (by simp; omega); simpa [Nat.add_assoc, Nat.add_comm 1 j] using this) (by simp only [List.length_cons] at hk; omega) (inv.set hr' hkn) hB' hK)

/-! Calls that leave a world over the one they got. -/
def YB (P : Program) (ops : Array Oper) (w0 : World) (o : Oper) (v : Value) (a : Act) : Prop :=
  (Region.wanted o (yielded ops a.tmps) = true ∧ ∀ w, Cls w0 w → o.quietAt P a (fun w'' => Below w.heap.size w w'') w v) ∨ (Region.wanted o (yielded ops a.tmps) = false ∧ v = undef)
theorem YB.of_same {w0 : World} {o : Oper} {v : Value} {a a' : Act} (hy : YB P ops w0 o v a) (he : execOp a'.eval o = execOp a.eval o)
    (hw : Region.wanted o (yielded ops a'.tmps) = Region.wanted o (yielded ops a.tmps)) : YB P ops w0 o v a' := by
  unfold YB Oper.quietAt at *
  rw [he, hw]
  exact hy
theorem YB.put_iff {w0 : World} {o : Oper} {v : Value} {a : Act} {d : Option Tmp} {u : Value} (hs : ∀ cs b, o.op ≠ .select cs b) (h : ∀ t, d = some t → t ∉ o.looksAt ops) : YB P ops w0 o v (a.put d u) ↔ YB P ops w0 o v a :=
  ⟨fun hy => hy.of_same (execOp_put o hs a d u h).symm (wanted_put o a d u h).symm, fun hy => hy.of_same (execOp_put o hs a d u h) (wanted_put o a d u h)⟩
/-- Carried out. -/
theorem YB.run {w0 w : World} {o : Oper} {v : Value} {a : Act} {i : Nat} {K : Act → World → Prop} {Q : Exit → Act → World → Prop} (hi : ops[i]? = some o) (hy : YB P ops w0 o v a) (hC : Cls w0 w)
    (hK : ∀ w', Below w.heap.size w w' → K (a.put o.dst v) w') : wpOp P ops Q i K a w := by
  unfold wpOp
  simp only [hi]
  rcases hy with ⟨hw, hv⟩ | ⟨hw, rfl⟩
  · rw [if_pos hw]
    refine .inl (Oper.wp_of_quiet (C := fun w'' => Below w.heap.size w w'') (K := fun a' => a' = a.put o.dst v) (Below.refl _ _) (fun a' w' hb ha => ha ▸ hK w' hb) ⟨v, fun w1 hb1 => ?_, rfl⟩)
    have h2 := hv w1 (Below.chain hC hb1)
    unfold Oper.quietAt at h2 ⊢
    generalize (execOp a.eval o).run P w1 = r at *
    cases r with
    | ok n w' =>
      cases n <;> simp only [Oper.quietUpon] at h2 ⊢
      case enter f args => exact ⟨h2.1, h2.2.mono fun e w'' ⟨h3, h4⟩ => ⟨h3, Below.chain hb1 h4⟩⟩
      all_goals exact h2
    | halt x w' => simp only [Oper.quietUpon] at h2
  · rw [if_neg (by rw [hw]; simp)]
    exact hK w (Below.refl _ _)

theorem head_run {w0 : World} {n g : Nat} {Q : Exit → Act → World → Prop} {L : Array Bool → Act → Prop} (hL : ∀ listed a w, L listed a → Cls w0 w → wpAny P md ops Q g listed a w) :
    ∀ (f : Nat) (listed : Array Bool) (a : Act) (w : World), Cls w0 w → anyYL md ops n (fun _ o v a => YB P ops w0 o v a) L f listed a → wpAny P md ops Q (f + g) listed a w
  | 0, listed, a, w, hC, h => by rw [Nat.zero_add]; exact hL _ _ _ h hC
  | f + 1, listed, a, w, hC, h => by
    rw [show f + 1 + g = (f + g) + 1 by omega]
    refine ⟨fun h0 => absurd h0 h.1, fun i hi => ?_⟩
    obtain ⟨_, o, v, ho, hy, hr⟩ := h.2 i hi
    exact hy.run ho hC fun w' hb => head_run hL f _ _ w' (Below.chain hC hb) hr

def tailB (ops : Array Oper) (n : Nat) : Bool :=
  Region.noSelect ops && decide (n < ops.size) && Region.sinkB .any ops n && Region.chainB .any ops n && lexHd .any ops (fun listed => Region.seqB .any ops (ops.size - n) n listed) n 0 (Array.replicate ops.size false)
theorem yb_looks (w0 : World) : YLooks ops (fun _ o v a => YB P ops w0 o v a) := fun _ _ _ _ _ _ _ hs h => YB.put_iff hs h

/-- Calls and loads, and behind them all some stores, one after the other. -/
theorem wp_region_tail {id : Nat} {Q : Exit → Act → World → Prop} {a : Act} {w : World} {l : List Oper} (n : Nat) (hm : P.follows .mixedOrders = true) (hB : tailB l.toArray n = true)
    (h : wpY (fun _ o v a => YB P l.toArray w o v a) (fun a' => ∀ w', Cls w w' → wpList P l.toArray Q (l.drop n) a' w') 0 (l.take n) a) : (Code.region id l.toArray true).wp P Q a w := by
  simp only [tailB, Bool.and_eq_true, decide_eq_true_eq] at hB
  obtain ⟨⟨⟨⟨hsel, hn⟩, hs⟩, hc⟩, hlex⟩ := hB
  have hn' : n < l.length := by simpa using hn
  have htl : (l.take n).length = n := by simp; omega
  have hdl : (l.drop n).length = l.toArray.size - n := by simp
  have inv0 : HeadInv .any l.toArray n (Array.replicate l.toArray.size false) :=
    ⟨by simp, fun j oj _ hl => (by rw [getD_replicate_false] at hl; cases hl), fun t _ ht => getD_in (by simpa using ht) (getD_replicate_false _ _)⟩
  have H := anyYL_lex (md := .any) (chk := fun listed => Region.seqB .any l.toArray (l.toArray.size - n) n listed) hsel (yb_looks w) (fun listed inv i hin hun j hj => tail_waits hs hc hn inv _ i rfl hin hun j hj) (fun listed h => seqB_ready h)
    (l.take n) 0 _ a (fun j hj => by
      have hj' : j < n := by rw [htl] at hj; exact hj
      simp [hj']) (by simpa using htl) inv0 (by rw [htl]; exact hlex) h
  refine wp_region_any hm ?_
  have := head_run (w0 := w) (Q := Q) (g := l.toArray.size - n) (fun listed a' w' hL hC => by
    have := wpAny_of_seq (md := .any) (Q' := Q) (l.drop n) n listed a' w' (fun j => by simp [List.getElem?_drop]) (by rw [hdl]; exact hL.1) (hL.2 w' hC)
    rwa [hdl] at this) _ _ _ _ (below_drewN' (Below.refl w.heap.size w) 1) H
  rw [htl, show n + (l.toArray.size - n) = l.toArray.size by omega] at this
  exact this

/-! A new relation: made somewhere, stored somewhere behind that. -/
def YF (P : Program) (ops : Array Oper) (w0 : World) (ia is : Nat) (t : Tmp) (T : TypeId) (S : Array Value) (i : Nat) (o : Oper) (v : Value) (a : Act) : Prop :=
  (i = ia ∧ o.op = .alloc T ∧ o.dst = some t ∧ o.guard = none ∧ v = undef) ∨
  (i = is ∧ (∃ y, o.op = .store T (.tmp t) (.tmp y) ∧ y ≠ t ∧ a.eval (.tmp y) = .agg S) ∧ o.dst = none ∧ o.guard = none ∧ v = undef) ∨
  (i ≠ ia ∧ i ≠ is ∧ t ∉ o.looksAt ops ∧ o.dst ≠ some t ∧ YB P ops w0 o v a)
theorem yf_looks (w0 : World) (ia is : Nat) (t : Tmp) (T : TypeId) (S : Array Value) : YLooks ops (YF P ops w0 ia is t T S) := by
  intro i o v a d u _ hs h
  unfold YF
  have hst : (∃ y, o.op = .store T (.tmp t) (.tmp y) ∧ y ≠ t ∧ (a.put d u).eval (.tmp y) = .agg S) ↔ (∃ y, o.op = .store T (.tmp t) (.tmp y) ∧ y ≠ t ∧ a.eval (.tmp y) = .agg S) := by
    refine exists_congr fun y => and_congr_right fun ho => and_congr_right fun _ => ?_
    rw [Act.eval_put fun e he hxd => h e he ?_]
    simp only [Operand.tmp.injEq] at hxd
    subst hxd
    simp [Oper.looksAt, ho, Op.operands]
  rw [hst, YB.put_iff hs h]
def freshB (ops : Array Oper) (ia is : Nat) : Bool :=
  Region.noSelect ops && decide (ia < ops.size) && decide (is < ops.size) && decide (ia ≠ is) && Region.waitsFor .any ops is ia && lexHd .any ops (fun listed => (Region.ready .any ops listed).isEmpty && (List.range ops.size).all fun j => listed.getD j false) ops.size 0 (Array.replicate ops.size false)

theorem put_put (a : Act) (t : Tmp) (u v : Value) : (a.put (some t) u).put (some t) v = a.put (some t) v := by
  simp [Act.put]
theorem put_size (a : Act) (d : Option Tmp) (v : Value) : (a.put d v).tmps.size = a.tmps.size := by
  cases d <;> simp [Act.put]
theorem fresh_run {w0 : World} {ia is : Nat} {t : Tmp} {T : TypeId} {S : Array Value} {Fin : Act → Prop} {chk : Array Bool → Bool} {Q : Exit → Act → World → Prop} {Z : Array Value} (hz : ∀ w, (zeroValue T).run P w = .ok (.agg Z) w) (hinf : (P.info? T).map (·.size) = some S.size) (hzs : Z.size = S.size) (h1c : S.all (·.oneCell') = true) (hsel : ∀ (j : Nat) (o : Oper) cs b, ops[j]? = some o → o.op ≠ .select cs b) (hne : ia ≠ is) (hia : ia < ops.size) (his : is < ops.size) (hw : Region.waitsFor md ops is ia = true)
    (hchk : ∀ listed, chk listed = true → Region.ready md ops listed = [] ∧ ∀ j, j < ops.size → listed.getD j false = true)
    (hQ : ∀ b w' a, Cls w0 w' → BlkAt w' b S T → w0.heap.size ≤ b → Fin a → Q .normal (a.put (some t) (.pointer (some ⟨b, 0, none⟩))) w') :
    ∀ (f : Nat) (listed : Array Bool) (a : Act) (w : World), anyYL md ops ops.size (YF P ops w0 ia is t T S) (fun listed' a' => chk listed' = true ∧ Fin a') f listed a → listed.size = ops.size → t < a.tmps.size → Cls w0 w →
      (listed.getD ia false = false → listed.getD is false = false → wpAny P md ops Q f listed a w) ∧
      (∀ b, listed.getD ia false = true → listed.getD is false = false → BlkAt w b Z T → w0.heap.size ≤ b → wpAny P md ops Q f listed (a.put (some t) (.pointer (some ⟨b, 0, none⟩))) w) ∧
      (∀ b, listed.getD ia false = true → listed.getD is false = true → BlkAt w b S T → w0.heap.size ≤ b → wpAny P md ops Q f listed (a.put (some t) (.pointer (some ⟨b, 0, none⟩))) w) := by
  intro f
  induction f with
  | zero =>
    intro listed a w h _ _ hC
    obtain ⟨h1, h2⟩ := hchk _ h.1
    refine ⟨fun h3 => ?_, fun b _ h3 => ?_, fun b _ _ hr hb => ⟨h1, hQ b w a hC hr hb h.2⟩⟩
    · rw [h2 ia hia] at h3; cases h3
    · rw [h2 is his] at h3; cases h3
  | succ f ih =>
    intro listed a w h hsz ht hC
    have step : ∀ i ∈ Region.ready md ops listed, listed.getD i true = false ∧ ∃ o v, ops[i]? = some o ∧ YF P ops w0 ia is t T S i o v a ∧
        anyYL md ops ops.size (YF P ops w0 ia is t T S) (fun listed' a' => chk listed' = true ∧ Fin a') f (listed.setIfInBounds i true) (a.put o.dst v) := fun i hi => ⟨(mem_ready.1 hi).1, (h.2 i hi).2⟩
    have hset : ∀ i j, i ≠ j → (listed.setIfInBounds i true).getD j false = listed.getD j false := fun i j hij => getD_set_ne false hij
    have hself : ∀ i, i < ops.size → (listed.setIfInBounds i true).getD i false = true := fun i hi => by simp [hsz, hi]
    have hsz' : ∀ i, (listed.setIfInBounds i true).size = ops.size := fun i => by simp [hsz]
    have hwait : ∀ i ∈ Region.ready md ops listed, i = is → listed.getD ia false = true := by
      intro i hi his'
      subst his'
      obtain ⟨_, o, ho, hall⟩ := mem_ready.1 hi
      obtain ⟨o', ho', e, he, hb, hon⟩ := Region.waitsFor_spec hw
      have : o' = o := Option.some.inj (ho'.symm.trans ho)
      subst this
      have := hall e he hb
      rwa [hon] at this
    refine ⟨fun h1 h2 => ⟨fun h0 => absurd h0 h.1, fun i hi => ?_⟩, fun b h1 h2 hr hb => ⟨fun h0 => absurd h0 h.1, fun i hi => ?_⟩, fun b h1 h2 hr hb => ⟨fun h0 => absurd h0 h.1, fun i hi => ?_⟩⟩
    · obtain ⟨hun, o, v, ho, hy, hrest⟩ := step i hi
      rcases hy with ⟨rfl, hop, hdst, hg, rfl⟩ | ⟨his', _⟩ | ⟨hi1, hi2, hlk, hds, hy⟩
      · unfold wpOp
        simp only [ho]
        rw [if_pos (by simp [Region.wanted, hg])]
        refine .inl ?_
        have hI := (ih _ _ (w.alloc (.cells Z T)) hrest (hsz' i) (by rw [put_size]; exact ht) (Below.chain hC ((Below.refl _ w).alloc (Nat.le_refl _) _))).2.1 w.heap.size (hself i hia) (by rw [hset _ _ hne]; exact h2) (BlkAt.new w Z T) hC.size
        rw [hdst, put_put] at hI
        unfold Oper.wp execOp
        simp only [hop, Instr.alloc, newVar, Sem.run_bind, Sem.run_pure, Result.andThen_ok, hz, Value.cells]
        rw [← hdst] at hI
        exact hI
      · have := hwait i hi his'
        rw [h1] at this; cases this
      · exact hy.run ho hC fun w' hb => (ih _ _ w' hrest (hsz' i) (by rw [put_size]; exact ht) (Below.chain hC hb)).1 (by rw [hset _ _ hi1]; exact h1) (by rw [hset _ _ hi2]; exact h2)
    · obtain ⟨hun, o, v, ho, hy, hrest⟩ := step i hi
      rcases hy with ⟨rfl, _⟩ | ⟨rfl, ⟨y, hop, hyt, hev⟩, hdst, hg, rfl⟩ | ⟨hi1, hi2, hlk, hds, hy⟩
      · rw [getD_both hun] at h1; cases h1
      · unfold wpOp
        simp only [ho]
        rw [if_pos (by simp [Region.wanted, hg])]
        refine .inl ?_
        have hset2 : BlkAt (w.setRow b S) b S T := ⟨setRow_heap w b _ _ _ _ hr.heap⟩
        have hI := (ih _ _ (w.setRow b S) hrest (hsz' i) (by rw [put_size]; exact ht) (Below.setRow' hC hb)).2.2 b (by rw [hset _ _ (Ne.symm hne)]; exact h1) (hself i his) hset2 hb
        refine wp_store_row T (.tmp t) (.tmp y) hop b S ?_ ?_ T _ hr.heap hinf hzs h1c ?_
        · exact Act.eval_put_same _ _ _ ht
        · rw [Act.eval_put_ne _ _ _ _ (Ne.symm hyt)]; exact hev
        · rw [hdst] at hI ⊢
          exact hI
      · have hyr : YB P ops w0 o v (a.put (some t) (.pointer (some ⟨b, 0, none⟩))) := by
          refine hy.of_same (execOp_put (ops := ops) o ?_ a (some t) _ fun d hd => ?_) (wanted_put o a (some t) _ fun d hd => ?_)
          · exact fun cs b => hsel i o cs b ho
          · simp only [Option.some.injEq] at hd; subst hd; exact hlk
          · simp only [Option.some.injEq] at hd; subst hd; exact hlk
        refine hyr.run ho hC fun w' hb' => ?_
        rw [Act.put_comm a _ _ fun d hd => by simp only [Option.some.injEq] at hd; subst hd; exact hds]
        exact (ih _ _ w' hrest (hsz' i) (by rw [put_size]; exact ht) (Below.chain hC hb')).2.1 b (by rw [hset _ _ hi1]; exact h1) (by rw [hset _ _ hi2]; exact h2) (hr.over hb') hb
    · obtain ⟨hun, o, v, ho, hy, hrest⟩ := step i hi
      rcases hy with ⟨rfl, _⟩ | ⟨rfl, _⟩ | ⟨hi1, hi2, hlk, hds, hy⟩
      · rw [getD_both hun] at h1; cases h1
      · rw [getD_both hun] at h2; cases h2
      · have hyr : YB P ops w0 o v (a.put (some t) (.pointer (some ⟨b, 0, none⟩))) := by
          refine hy.of_same (execOp_put (ops := ops) o ?_ a (some t) _ fun d hd => ?_) (wanted_put o a (some t) _ fun d hd => ?_)
          · exact fun cs b => hsel i o cs b ho
          · simp only [Option.some.injEq] at hd; subst hd; exact hlk
          · simp only [Option.some.injEq] at hd; subst hd; exact hlk
        refine hyr.run ho hC fun w' hb' => ?_
        rw [Act.put_comm a _ _ fun d hd => by simp only [Option.some.injEq] at hd; subst hd; exact hds]
        exact (ih _ _ w' hrest (hsz' i) (by rw [put_size]; exact ht) (Below.chain hC hb')).2.2 b (by rw [hset _ _ hi1]; exact h1) (by rw [hset _ _ hi2]; exact h2) (hr.over hb') hb

/-- Calls and loads, a relation that is made and one that is stored into it, in whatever order. -/
theorem wp_region_fresh {id : Nat} {Q : Exit → Act → World → Prop} {a : Act} {w : World} {l : List Oper} (ia is : Nat) (t : Tmp) (T : TypeId) (S Z : Array Value) (hz : ∀ w, (zeroValue T).run P w = .ok (.agg Z) w) (hinf : (P.info? T).map (·.size) = some S.size) (hzs : Z.size = S.size) (h1c : S.all (·.oneCell') = true) (hm : P.follows .mixedOrders = true) (hB : freshB l.toArray ia is = true) (ht : t < a.tmps.size)
    (h : wpY (YF P l.toArray w ia is t T S) (fun a' => ∀ b w', Cls w w' → BlkAt w' b S T → w.heap.size ≤ b → Q .normal (a'.put (some t) (.pointer (some ⟨b, 0, none⟩))) w') 0 l a) : (Code.region id l.toArray true).wp P Q a w := by
  simp only [freshB, Bool.and_eq_true, decide_eq_true_eq] at hB
  obtain ⟨⟨⟨⟨⟨hsel, hia⟩, his⟩, hne⟩, hw⟩, hlex⟩ := hB
  have hsz : l.toArray.size = l.length := by simp
  have inv0 : HeadInv .any l.toArray l.toArray.size (Array.replicate l.toArray.size false) :=
    ⟨by simp, fun j oj _ hl => (by rw [getD_replicate_false] at hl; cases hl), fun t h1 h2 => by omega⟩
  have hchk : ∀ listed : Array Bool, ((Region.ready .any l.toArray listed).isEmpty && (List.range l.toArray.size).all fun j => listed.getD j false) = true → Region.ready .any l.toArray listed = [] ∧ ∀ j, j < l.toArray.size → listed.getD j false = true := by
    intro listed hh
    rw [Bool.and_eq_true, List.isEmpty_iff, List.all_eq_true] at hh
    exact ⟨hh.1, fun j hj => hh.2 j (List.mem_range.2 hj)⟩
  have H := anyYL_lex (md := .any) (n := l.toArray.size) (chk := fun listed => (Region.ready .any l.toArray listed).isEmpty && (List.range l.toArray.size).all fun j => listed.getD j false) hsel (yf_looks w ia is t T S)
    (fun listed _ i _ _ j hj hr => by
      obtain ⟨_, o, ho, _⟩ := mem_ready.1 hr
      have := (Array.getElem?_eq_some_iff.1 ho).1
      omega) (fun listed hc j hj => by rw [(hchk listed hc).1] at hj; cases hj)
    l 0 _ a (fun j hj => by simp) (by simp) inv0 (by rw [← hsz]; exact hlex) h
  refine wp_region_any hm ?_
  rw [← hsz] at H
  exact (fresh_run hz hinf hzs h1c (Region.noSelect_spec hsel) hne hia his hw hchk (fun b w' a' hC hr hb hf => hf b w' hC hr hb) _ _ a _ H (by simp) ht (below_drewN' (Below.refl w.heap.size w) 1)).1 (getD_replicate_false _ _) (getD_replicate_false _ _)

theorem wp_region_only {id : Nat} {Q : Exit → Act → World → Prop} {a : Act} {w : World} {l : List Oper} (hm : P.follows .mixedOrders = true)
    (hB : (Region.noSelect l.toArray && lexHd .any l.toArray (fun listed => (Region.ready .any l.toArray listed).isEmpty) l.toArray.size 0 (Array.replicate l.toArray.size false)) = true)
    (h : wpY (fun _ o v a => YB P l.toArray w o v a) (fun a' => ∀ w', Cls w w' → Q .normal a' w') 0 l a) : (Code.region id l.toArray true).wp P Q a w := by
  rw [Bool.and_eq_true] at hB
  obtain ⟨hsel, hlex⟩ := hB
  have hsz : l.toArray.size = l.length := by simp
  have inv0 : HeadInv .any l.toArray l.toArray.size (Array.replicate l.toArray.size false) :=
    ⟨by simp, fun j oj _ hl => (by rw [getD_replicate_false] at hl; cases hl), fun t h1 h2 => by omega⟩
  have H := anyYL_lex (md := .any) (n := l.toArray.size) (chk := fun listed => (Region.ready .any l.toArray listed).isEmpty) hsel (yb_looks w)
    (fun listed _ i _ _ j hj hr => by
      obtain ⟨_, o, ho, _⟩ := mem_ready.1 hr
      have := (Array.getElem?_eq_some_iff.1 ho).1
      omega) (fun listed hc j hj => by rw [List.isEmpty_iff.1 hc] at hj; cases hj)
    l 0 _ a (fun j hj => by simp) (by simp) inv0 (by rw [← hsz]; exact hlex) h
  refine wp_region_any hm ?_
  rw [← hsz] at H
  have := head_run (w0 := w) (Q := Q) (g := 0) (fun listed a' w' hL hC => ⟨List.isEmpty_iff.1 hL.1, hL.2 w' hC⟩) _ _ _ _ (below_drewN' (Below.refl w.heap.size w) 1) H
  rw [Nat.add_zero] at this
  exact this
end

/-! The walk, one operation at a time. -/
structure WpV (Y : Nat → Oper → Value → Act → Prop) (Fin : Act → Prop) (k : Nat) (l : List Oper) (a : Act) : Prop where
  out : wpY Y Fin k l a
theorem v_nil {Y : Nat → Oper → Value → Act → Prop} {Fin : Act → Prop} {k : Nat} {a : Act} (h : Fin a) : WpV Y Fin k [] a := ⟨h⟩
def CalmB (P : Program) (o : Oper) (a : Act) (w0 : World) (K : Act → Prop) : Prop := ∃ v, (∀ w, Cls w0 w → o.quietAt P a (fun w'' => Below w.heap.size w w'') w v) ∧ K (a.put o.dst v)
theorem CalmB.of {P : Program} {o : Oper} {a : Act} {w0 : World} {K : Act → Prop} (h : ∃ v, (∀ w, Cls w0 w → o.quietAt P a (fun w'' => Below w.heap.size w w'') w v) ∧ K (a.put o.dst v)) : CalmB P o a w0 K := h
section
variable {P : Program} {ops : Array Oper} {w0 : World} {Fin : Act → Prop} {k : Nat} {o : Oper} {rest : List Oper} {a : Act}
theorem yb_of {K : Act → Prop} (h : if Region.wanted o (yielded ops a.tmps) = true then CalmB P o a w0 K else K (a.put o.dst undef)) : ∃ v, YB P ops w0 o v a ∧ K (a.put o.dst v) := by
  by_cases hw : Region.wanted o (yielded ops a.tmps) = true
  · rw [if_pos hw] at h
    obtain ⟨v, h1, h2⟩ := h
    exact ⟨v, .inl ⟨hw, h1⟩, h2⟩
  · rw [if_neg hw] at h
    exact ⟨undef, .inr ⟨by simpa using hw, rfl⟩, h⟩
theorem t_step (h : ∀ K : Act → Prop, (∀ a, WpV (fun _ o v a => YB P ops w0 o v a) Fin (k + 1) rest a → K a) → if Region.wanted o (yielded ops a.tmps) = true then CalmB P o a w0 K else K (a.put o.dst undef)) :
    WpV (fun _ o v a => YB P ops w0 o v a) Fin k (o :: rest) a := by
  obtain ⟨v, h1, h2⟩ := yb_of (h _ fun a h => h)
  exact ⟨v, h1, h2.out⟩
def okF (ops : Array Oper) (ia is : Nat) (t : Tmp) (k : Nat) (o : Oper) : Bool := k != ia && k != is && !(o.looksAt ops).contains t && o.dst != some t
theorem f_step {ia is : Nat} {t : Tmp} {T : TypeId} {S : Array Value} (hk : okF ops ia is t k o = true)
    (h : ∀ K : Act → Prop, (∀ a, WpV (YF P ops w0 ia is t T S) Fin (k + 1) rest a → K a) → if Region.wanted o (yielded ops a.tmps) = true then CalmB P o a w0 K else K (a.put o.dst undef)) :
    WpV (YF P ops w0 ia is t T S) Fin k (o :: rest) a := by
  obtain ⟨v, h1, h2⟩ := yb_of (h _ fun a h => h)
  simp only [okF, Bool.and_eq_true, bne_iff_ne, ne_eq, Bool.not_eq_true'] at hk
  obtain ⟨⟨⟨h3, h4⟩, h5⟩, h6⟩ := hk
  exact ⟨v, .inr (.inr ⟨h3, h4, by simpa using h5, h6, h1⟩), h2.out⟩
theorem f_alloc {ia is : Nat} {t : Tmp} {T : TypeId} {S : Array Value} (hk : k = ia) (ho : o.op = .alloc T) (hd : o.dst = some t) (hg : o.guard = none)
    (h : WpV (YF P ops w0 ia is t T S) Fin (k + 1) rest (a.put o.dst undef)) : WpV (YF P ops w0 ia is t T S) Fin k (o :: rest) a :=
  ⟨undef, .inl ⟨hk, ho, hd, hg, rfl⟩, h.out⟩
theorem f_store {ia is : Nat} {t : Tmp} {T : TypeId} {S : Array Value} (y : Tmp) (hk : k = is) (ho : o.op = .store T (.tmp t) (.tmp y)) (hyt : y ≠ t) (hev : a.eval (.tmp y) = .agg S) (hd : o.dst = none) (hg : o.guard = none)
    (h : WpV (YF P ops w0 ia is t T S) Fin (k + 1) rest (a.put o.dst undef)) : WpV (YF P ops w0 ia is t T S) Fin k (o :: rest) a :=
  ⟨undef, .inr (.inl ⟨hk, ⟨y, ho, hyt, hev⟩, hd, hg, rfl⟩), h.out⟩
end
end Go.Proofs.Ytckcdpmfmfpmmaa
