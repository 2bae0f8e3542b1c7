/-
  Regions that draw their order and hold calls whose answers are new slices or pointers: the answers stand behind letters, one walk in the order of the text serves every order.
-/
import Derived.Test.YtckcdpmfmfpmmaaFresh
namespace Go.Proofs.Ytckcdpmfmfpmmaa
open Go.RowKit

section
variable {P : Program} {ops : Array Oper} {md : Region.Mode}
/-- The frame with the letters' values laid over. -/
def ovl (a : Act) (β : Tmp → Value) : List Tmp → Act
  | [] => a
  | t :: D => ovl (a.put (some t) (β t)) β D
theorem ovl_size (β : Tmp → Value) : ∀ (D : List Tmp) (a : Act), (ovl a β D).tmps.size = a.tmps.size
  | [], _ => rfl
  | t :: D, a => by rw [ovl, ovl_size β D, put_size]
theorem eval_put_tmp (a : Act) (d s : Tmp) (v : Value) : (a.put (some d) v).eval (.tmp s) = if d = s ∧ d < a.tmps.size then v else a.eval (.tmp s) := by
  by_cases h : d = s
  · subst h
    by_cases h2 : d < a.tmps.size
    · rw [Act.eval_put_same _ _ _ h2, if_pos ⟨rfl, h2⟩]
    · rw [if_neg (by simp [h2])]
      simp [Act.put, Act.eval, h2]
  · rw [Act.eval_put_ne _ _ _ _ h, if_neg (by simp [h])]
theorem eval_ovl (β : Tmp → Value) (s : Tmp) : ∀ (D : List Tmp) (a : Act), (ovl a β D).eval (.tmp s) = if s ∈ D ∧ s < a.tmps.size then β s else a.eval (.tmp s)
  | [], a => by simp [ovl]
  | t :: D, a => by
    rw [ovl, eval_ovl β s D, put_size, eval_put_tmp]
    by_cases h1 : s < a.tmps.size
    · by_cases h2 : s ∈ D
      · simp [h1, h2]
      · by_cases h3 : t = s
        · subst h3; simp [h1, h2]
        · have : ¬ s = t := fun h => h3 h.symm
          simp [h2, h3, this]
    · have : ¬ (t = s ∧ t < a.tmps.size) := by rintro ⟨rfl, h⟩; exact h1 h
      simp [h1, this]
theorem eval_other {a a' : Act} (x : Operand) (h : ∀ s, x = .tmp s → a'.eval (.tmp s) = a.eval (.tmp s)) : a'.eval x = a.eval x := by
  cases x with
  | tmp s => exact h s rfl
  | const v => rfl
  | global g => rfl
  | func f => rfl
theorem looks_operand {o : Oper} {s : Tmp} (h : Operand.tmp s ∈ o.op.operands) : s ∈ o.looksAt ops :=
  List.mem_append_left _ (List.mem_filterMap.2 ⟨.tmp s, by simpa using h, rfl⟩)
theorem exec_same {o : Oper} (hs : ∀ cs b, o.op ≠ .select cs b) {a a' : Act} (h : ∀ s, s ∈ o.looksAt ops → a'.eval (.tmp s) = a.eval (.tmp s)) : execOp a'.eval o = execOp a.eval o :=
  execOp_congr o hs fun x hx => eval_other x fun s hxs => h s (looks_operand (by subst hxs; exact hx))
/-- Two frames are the same, if each slot reads the same. -/
theorem act_ext {a a' : Act} (hs : a'.tmps.size = a.tmps.size) (hd : a'.defers = a.defers) (h : ∀ s, s < a.tmps.size → a'.eval (.tmp s) = a.eval (.tmp s)) : a' = a := by
  cases a with
  | mk t d =>
    cases a' with
    | mk t' d' =>
      simp only at hs hd h
      subst hd
      congr 1
      refine Array.ext hs fun i h1 h2 => ?_
      have := h i h2
      simpa [Act.eval, h1, h2] using this
theorem ovl_defers (β : Tmp → Value) : ∀ (D : List Tmp) (a : Act), (ovl a β D).defers = a.defers
  | [], _ => rfl
  | t :: D, a => by rw [ovl, ovl_defers β D]; rfl
theorem put_defers (a : Act) (d : Option Tmp) (v : Value) : (a.put d v).defers = a.defers := by cases d <;> rfl
theorem ovl_put (β : Tmp → Value) (D : List Tmp) (a : Act) (d : Option Tmp) (v : Value) (h : ∀ t, d = some t → t ∉ D) : (ovl a β D).put d v = ovl (a.put d v) β D := by
  cases d with
  | none => rfl
  | some t =>
    refine act_ext (by rw [put_size, ovl_size, ovl_size, put_size]) (by rw [put_defers, ovl_defers, ovl_defers, put_defers]) fun s hs => ?_
    rw [ovl_size, put_size] at hs
    rw [eval_put_tmp, eval_ovl, eval_ovl, eval_put_tmp, ovl_size, put_size]
    have ht := h t rfl
    by_cases h1 : t = s
    · subst h1; simp [ht, hs]
    · by_cases h2 : s ∈ D <;> simp [h1, h2, hs]
theorem ovl_more (β : Tmp → Value) (D : List Tmp) (a : Act) (t : Tmp) (u : Value) : (ovl a β D).put (some t) u = ovl (a.put (some t) undef) (fun s => if s = t then u else β s) (t :: D) := by
  refine act_ext (by simp [put_size, ovl_size, ovl]) (by simp [put_defers, ovl_defers, ovl]) fun s hs => ?_
  rw [ovl_size, put_size] at hs
  rw [eval_put_tmp, eval_ovl, eval_ovl, eval_put_tmp, ovl_size, put_size]
  by_cases h1 : t = s
  · subst h1; simp [hs]
  · have h1' : ¬ s = t := fun h => h1 h.symm
    by_cases h2 : s ∈ D <;> simp [h1, h1', h2, hs]
theorem ovl_perm (β : Tmp → Value) (D E : List Tmp) (a : Act) (h : ∀ t, t ∈ D ↔ t ∈ E) : ovl a β D = ovl a β E :=
  act_ext (by rw [ovl_size, ovl_size]) (by rw [ovl_defers, ovl_defers]) fun s _ => by simp only [eval_ovl, h s]

variable (T : List Tmp) (X : Tmp → Value → World → Prop)
/-- The letters that an operation looks at stand for what they should. -/
def GoodAt (ops : Array Oper) (o : Oper) (β : Tmp → Value) (w : World) : Prop := ∀ t, t ∈ T → t ∈ o.looksAt ops → X t (β t) w
/-- A call that answers a letter's value. -/
def ptrUpon (P : Program) (t : Tmp) (w : World) : Result Next → Prop
  | .ok (.enter f args) w' => w' = w ∧ Calls P f args w (fun e w'' => (∃ u, e = .returned u ∧ X t u w'') ∧ Below w.heap.size w w'')
  | .ok (.value u) w' => X t u w' ∧ Below w.heap.size w w'
  | _ => False
def YP (P : Program) (ops : Array Oper) (w0 : World) (_ : Nat) (o : Oper) (v : Value) (a : Act) : Prop :=
  (∃ t, t ∈ T ∧ o.dst = some t ∧ v = undef ∧ Region.wanted o (yielded ops a.tmps) = true ∧ ∀ β w, Cls w0 w → GoodAt T X ops o β w → ptrUpon X P t w ((execOp (ovl a β T).eval o).run P w)) ∨
  ((∀ t, o.dst = some t → t ∉ T) ∧ ((Region.wanted o (yielded ops a.tmps) = true ∧ ∀ β w, Cls w0 w → GoodAt T X ops o β w → o.quietAt P (ovl a β T) (fun w'' => Below w.heap.size w w'') w v) ∨ (Region.wanted o (yielded ops a.tmps) = false ∧ v = undef)))
theorem ovl_exec {o : Oper} (hs : ∀ cs b, o.op ≠ .select cs b) (a : Act) (β : Tmp → Value) (d : Option Tmp) (u : Value) (h : ∀ t, d = some t → t ∉ o.looksAt ops) : execOp (ovl (a.put d u) β T).eval o = execOp (ovl a β T).eval o :=
  exec_same (ops := ops) hs fun s hs' => by
    rw [eval_ovl, eval_ovl, put_size]
    cases d with
    | none => rfl
    | some t =>
      have : t ≠ s := by rintro rfl; exact h t rfl hs'
      rw [Act.eval_put_ne _ _ _ _ this]
theorem yp_looks (w0 : World) : YLooks ops (YP T X P ops w0) := by
  intro i o v a d u _ hs h
  unfold YP Oper.quietAt
  rw [wanted_put o a d u h]
  simp only [ovl_exec T hs a _ d u h]

theorem wanted_one (o : Oper) (a : Act) (d : Tmp) (v : Value) (h : ∀ g want, o.guard = some (g, want) → (ops[g]?).bind (·.dst) ≠ some d) : Region.wanted o (yielded ops (a.put (some d) v).tmps) = Region.wanted o (yielded ops a.tmps) := by
  unfold Region.wanted
  cases hg : o.guard with
  | none => rfl
  | some gw =>
    obtain ⟨g, want⟩ := gw
    have hy : yielded ops (a.put (some d) v).tmps g = yielded ops a.tmps g := by
      unfold yielded
      cases ht : (ops[g]?).bind (·.dst) with
      | none => rfl
      | some t =>
        have hne : d ≠ t := fun e => h g want hg (by rw [ht, e])
        simp [Act.put, Array.getElem?_setIfInBounds_ne hne]
    simp only [hy]
theorem wanted_ovl (o : Oper) (β : Tmp → Value) : ∀ (D : List Tmp) (a : Act), (∀ t ∈ D, ∀ g want, o.guard = some (g, want) → (ops[g]?).bind (·.dst) ≠ some t) → Region.wanted o (yielded ops (ovl a β D).tmps) = Region.wanted o (yielded ops a.tmps)
  | [], _, _ => rfl
  | t :: D, a, h => by
    rw [ovl, wanted_ovl o β D _ fun t ht => h t (by simp [ht]), wanted_one o a t _ (h t (by simp))]

structure PtrOk (md : Region.Mode) (ops : Array Oper) (T : List Tmp) : Prop where
  sel : ∀ (j : Nat) (o : Oper) cs b, ops[j]? = some o → o.op ≠ .select cs b
  one : ∀ t ∈ T, ∃ (i : Nat) (o : Oper), ops[i]? = some o ∧ o.dst = some t ∧ ∀ (j : Nat) (o' : Oper), ops[j]? = some o' → o'.dst = some t → j = i
  dep : ∀ (j : Nat) (o : Oper), ops[j]? = some o → ∀ t ∈ T, t ∈ o.looksAt ops → ∃ (i : Nat) (o' : Oper), ops[i]? = some o' ∧ o'.dst = some t ∧ Region.waitsFor md ops j i = true
  grd : ∀ (j : Nat) (o : Oper), ops[j]? = some o → ∀ t ∈ T, ∀ (g : Nat) (want : Bool), o.guard = some (g, want) → (ops[g]?).bind (·.dst) ≠ some t
variable {T X}
theorem ptr_run {w0 : World} {Fin : Act → Prop} {chk : Array Bool → Bool} {Q : Exit → Act → World → Prop} (hok : PtrOk md ops T) (hX : ∀ t u w w', X t u w → Below w.heap.size w w' → X t u w')
    (hchk : ∀ listed, chk listed = true → Region.ready md ops listed = [] ∧ ∀ j, j < ops.size → listed.getD j false = true)
    (hQ : ∀ β w' a, Cls w0 w' → (∀ t ∈ T, X t (β t) w') → Fin a → Q .normal (ovl a β T) w') :
    ∀ (f : Nat) (listed : Array Bool) (a : Act) (w : World) (β : Tmp → Value) (D : List Tmp), anyYL md ops ops.size (YP T X P ops w0) (fun listed' a' => chk listed' = true ∧ Fin a') f listed a → listed.size = ops.size → Cls w0 w →
      (∀ t ∈ D, t ∈ T) → (∀ t ∈ T, t ∈ D ↔ ∃ (i : Nat) (o : Oper), ops[i]? = some o ∧ o.dst = some t ∧ listed.getD i false = true) → (∀ t ∈ D, X t (β t) w) → wpAny P md ops Q f listed (ovl a β D) w := by
  intro f
  induction f with
  | zero =>
    intro listed a w β D h hsz hC hDT hD hXD
    obtain ⟨h1, h2⟩ := hchk _ h.1
    have hall : ∀ t, t ∈ D ↔ t ∈ T := fun t => ⟨hDT t, fun ht => by
      obtain ⟨i, o, ho, hd, _⟩ := hok.one t ht
      exact (hD t ht).2 ⟨i, o, ho, hd, h2 i (Array.getElem?_eq_some_iff.1 ho).1⟩⟩
    rw [ovl_perm β D T a hall]
    exact ⟨h1, hQ β w a hC (fun t ht => hXD t ((hall t).2 ht)) h.2⟩
  | succ f ih =>
    intro listed a w β D h hsz hC hDT hD hXD
    refine ⟨fun h0 => absurd h0 h.1, fun i hi => ?_⟩
    obtain ⟨_, o, v, ho, hy, hrest⟩ := h.2 i hi
    obtain ⟨hun, o1, ho1, hdeps⟩ := mem_ready.1 hi
    have : o1 = o := Option.some.inj (ho1.symm.trans ho)
    subst this
    have hlook : ∀ t ∈ T, t ∈ o1.looksAt ops → t ∈ D := by
      intro t ht hl
      obtain ⟨j, o', hj, hd, hw⟩ := hok.dep i o1 ho t ht hl
      obtain ⟨o2, ho2, e, he, hb, hon⟩ := Region.waitsFor_spec hw
      have : o2 = o1 := Option.some.inj (ho2.symm.trans ho)
      subst this
      exact (hD t ht).2 ⟨j, o', hj, hd, hon ▸ hdeps e he hb⟩
    have hgood : GoodAt T X ops o1 β w := fun t ht hl => hXD t (hlook t ht hl)
    have hex : execOp (ovl a β D).eval o1 = execOp (ovl a β T).eval o1 := exec_same (ops := ops) (fun cs b => hok.sel i o1 cs b ho) fun s hs => by
      rw [eval_ovl, eval_ovl]
      by_cases h1 : s ∈ T
      · have := hlook s h1 hs; simp [h1, this]
      · have : ¬ s ∈ D := fun h => h1 (hDT s h)
        simp [h1, this]
    have hwant : Region.wanted o1 (yielded ops (ovl a β D).tmps) = Region.wanted o1 (yielded ops a.tmps) := wanted_ovl o1 β D a fun t ht => hok.grd i o1 ho t (hDT t ht)
    have hset : ∀ j, i ≠ j → (listed.setIfInBounds i true).getD j false = listed.getD j false := fun j hij => getD_set_ne false hij
    have his : i < ops.size := (Array.getElem?_eq_some_iff.1 ho).1
    have hself : (listed.setIfInBounds i true).getD i false = true := by simp [hsz, his]
    have hsz' : (listed.setIfInBounds i true).size = ops.size := by simp [hsz]
    rcases hy with ⟨t, htT, hdst, rfl, hw, hcall⟩ | ⟨hdst, hy⟩
    · have htD : t ∉ D := by
        intro ht
        obtain ⟨j, o', hj, hd, hl⟩ := (hD t htT).1 ht
        obtain ⟨k, _, _, _, hu⟩ := hok.one t htT
        have e1 := hu j o' hj hd
        have e2 := hu i o1 ho hdst
        rw [e1, ← e2, getD_both hun] at hl; cases hl
      have hc := hcall β w hC hgood
      rw [← hex] at hc
      have cont : ∀ u w'', X t u w'' → Below w.heap.size w w'' → wpAny P md ops Q f (listed.setIfInBounds i true) ((ovl a β D).put o1.dst u) w'' := by
        intro u w'' hx hb
        rw [hdst, ovl_more β D a t u]
        rw [hdst] at hrest
        refine ih _ _ w'' _ (t :: D) hrest hsz' (Below.chain hC hb) ?_ ?_ ?_
        · intro s hs
          rcases List.mem_cons.1 hs with rfl | hs
          · exact htT
          · exact hDT s hs
        · intro s hsT
          by_cases hst : s = t
          · subst hst; simp only [List.mem_cons, true_or, true_iff]; exact ⟨i, o1, ho, hdst, hself⟩
          · simp only [List.mem_cons, hst, false_or]
            rw [hD s hsT]
            constructor
            · rintro ⟨j, o', hj, hd, hl⟩
              have : i ≠ j := by rintro rfl; rw [getD_both hun] at hl; cases hl
              exact ⟨j, o', hj, hd, by rw [hset j this]; exact hl⟩
            · rintro ⟨j, o', hj, hd, hl⟩
              have : i ≠ j := by
                rintro rfl
                have : o' = o1 := Option.some.inj (hj.symm.trans ho)
                subst this
                rw [hdst] at hd
                exact hst (Option.some.inj hd).symm
              exact ⟨j, o', hj, hd, by rw [hset j this] at hl; exact hl⟩
        · intro s hs
          by_cases hst : s = t
          · subst hst; simp only [if_true]; exact hx
          · rcases List.mem_cons.1 hs with h | hs
            · exact absurd h hst
            · rw [if_neg hst]; exact hX s _ _ _ (hXD s hs) hb
      unfold wpOp
      simp only [ho]
      rw [if_pos (by rw [hwant]; exact hw)]
      refine .inl ?_
      unfold Oper.wp
      generalize (execOp (ovl a β D).eval o1).run P w = r at hc
      cases r with
      | halt x w' => exact hc.elim
      | ok n w' =>
        cases n with
        | enter fn args =>
          obtain ⟨rfl, hcc⟩ := hc
          refine hcc.mono fun e w'' ⟨⟨u, he, hx⟩, hb⟩ => ?_
          subst he
          exact cont u w'' hx hb
        | value u => exact cont u w' hc.1 hc.2
        | _ => exact hc.elim
    · have hnotD : ∀ t, o1.dst = some t → t ∉ D := fun t h1 h2 => hdst t h1 (hDT t h2)
      have hD' : ∀ t ∈ T, t ∈ D ↔ ∃ (j : Nat) (o : Oper), ops[j]? = some o ∧ o.dst = some t ∧ (listed.setIfInBounds i true).getD j false = true := by
        intro s hsT
        rw [hD s hsT]
        constructor
        · rintro ⟨j, o', hj, hd, hl⟩
          have : i ≠ j := by rintro rfl; rw [getD_both hun] at hl; cases hl
          exact ⟨j, o', hj, hd, by rw [hset j this]; exact hl⟩
        · rintro ⟨j, o', hj, hd, hl⟩
          have : i ≠ j := by
            rintro rfl
            have : o' = o1 := Option.some.inj (hj.symm.trans ho)
            subst this
            exact hdst s hd hsT
          exact ⟨j, o', hj, hd, by rw [hset j this] at hl; exact hl⟩
      have hy2 : YB P ops w o1 v (ovl a β D) := by
        unfold YB
        rw [hwant]
        rcases hy with ⟨hw, hq⟩ | hy
        · refine .inl ⟨hw, fun w1 hb1 => ?_⟩
          have h2 := hq β w1 (Below.chain hC hb1) (fun t ht hl => hX t _ _ _ (hgood t ht hl) hb1)
          unfold Oper.quietAt at h2 ⊢
          rw [hex]; exact h2
        · exact .inr hy
      refine hy2.run ho (Below.refl _ _) fun w' hb => ?_
      rw [ovl_put β D a o1.dst v hnotD]
      exact ih _ _ w' β D hrest hsz' (Below.chain hC hb) hDT hD' (fun t ht => hX t _ _ _ (hXD t ht) hb)
end

/-! The law, and its walk. -/
def ptrB (md : Region.Mode) (ops : Array Oper) (T : List Tmp) : Bool :=
  Region.noSelect ops &&
  (T.all fun t => (List.range ops.size).any fun i => ((ops[i]?).bind (·.dst) == some t) && (List.range ops.size).all fun j => ((ops[j]?).bind (·.dst) != some t) || j == i) &&
  ((List.range ops.size).all fun j => match ops[j]? with
    | none => true
    | some o => (T.all fun t => !(o.looksAt ops).contains t || (List.range ops.size).any fun i => ((ops[i]?).bind (·.dst) == some t) && Region.waitsFor md ops j i) && (match o.guard with | none => true | some (g, _) => T.all fun t => (ops[g]?).bind (·.dst) != some t)) &&
  lexHd md ops (fun listed => (Region.ready md ops listed).isEmpty && (List.range ops.size).all fun j => listed.getD j false) ops.size 0 (Array.replicate ops.size false)
theorem ptrB_ok {ops : Array Oper} {md : Region.Mode} {T : List Tmp} (h : ptrB md ops T = true) : PtrOk md ops T := by
  simp only [ptrB, Bool.and_eq_true] at h
  obtain ⟨⟨⟨hsel, hone⟩, hrest⟩, _⟩ := h
  have hin : ∀ (j : Nat) (o : Oper), ops[j]? = some o → j ∈ List.range ops.size := fun j o h => List.mem_range.2 (Array.getElem?_eq_some_iff.1 h).1
  refine ⟨Region.noSelect_spec hsel, fun t ht => ?_, fun j o ho t ht hl => ?_, fun j o ho t ht g want hg => ?_⟩
  · have h1 := List.all_eq_true.1 hone t ht
    obtain ⟨i, hi, h2⟩ := List.any_eq_true.1 h1
    rw [Bool.and_eq_true] at h2
    obtain ⟨h2, h3⟩ := h2
    have h2 := eq_of_beq h2
    cases ho : ops[i]? with
    | none => rw [ho] at h2; cases h2
    | some o =>
      rw [ho] at h2
      refine ⟨i, o, ho, h2, fun j o' ho' hd => ?_⟩
      have h4 := List.all_eq_true.1 h3 j (hin j o' ho')
      rw [ho', Bool.or_eq_true, bne_iff_ne, beq_iff_eq] at h4
      rcases h4 with h4 | h4
      · exact absurd hd h4
      · exact h4
  · have h1 := List.all_eq_true.1 hrest j (hin j o ho)
    rw [ho] at h1
    simp only [Bool.and_eq_true] at h1
    have h2 := List.all_eq_true.1 h1.1 t ht
    rw [Bool.or_eq_true] at h2
    rcases h2 with h2 | h2
    · rw [Bool.not_eq_true', List.contains_iff_mem.2 hl] at h2; cases h2
    · obtain ⟨i, hi, h3⟩ := List.any_eq_true.1 h2
      rw [Bool.and_eq_true] at h3
      have h4 := eq_of_beq h3.1
      cases hoi : ops[i]? with
      | none => rw [hoi] at h4; cases h4
      | some o' => rw [hoi] at h4; exact ⟨i, o', hoi, h4, h3.2⟩
  · have h1 := List.all_eq_true.1 hrest j (hin j o ho)
    rw [ho] at h1
    simp only [Bool.and_eq_true] at h1
    have h2 := h1.2
    rw [hg] at h2
    exact bne_iff_ne.1 (List.all_eq_true.1 h2 t ht)

/-- What the letters stand for, by a list. -/
def Xof (L : List (Tmp × (Value → World → Prop))) (t : Tmp) (u : Value) (w : World) : Prop := ∀ q, L.lookup t = some q → q u w
/-- It stays true in worlds over. -/
def Stays (q : Value → World → Prop) : Prop := ∀ u w w', q u w → Below w.heap.size w w' → q u w'
theorem lookup_mem {L : List (Tmp × (Value → World → Prop))} {t : Tmp} {q : Value → World → Prop} (h : L.lookup t = some q) : ∃ p ∈ L, p.2 = q := by
  induction L with
  | nil => cases h
  | cons p L ih =>
    rw [List.lookup_cons] at h
    split at h
    · exact ⟨p, by simp, Option.some.inj h⟩
    · obtain ⟨p', h1, h2⟩ := ih h
      exact ⟨p', by simp [h1], h2⟩
theorem Xof.stays {L : List (Tmp × (Value → World → Prop))} (h : ∀ p ∈ L, Stays p.2) : ∀ t u w w', Xof L t u w → Below w.heap.size w w' → Xof L t u w' := fun t u w w' hx hb q hq => by
  obtain ⟨p, hp, rfl⟩ := lookup_mem hq
  exact h p hp _ _ _ (hx _ hq) hb
theorem Xof.at_ {L : List (Tmp × (Value → World → Prop))} {t : Tmp} {u : Value} {w : World} {q : Value → World → Prop} (h : Xof L t u w) (hq : L.lookup t = some q) : q u w := h q hq

section
variable {P : Program}
theorem wp_region_ptr {id : Nat} {Q : Exit → Act → World → Prop} {a : Act} {w : World} {l : List Oper} (T : List Tmp) (L : List (Tmp × (Value → World → Prop))) (hm : P.follows .mixedOrders = true) (hB : ptrB .any l.toArray T = true) (hX : ∀ p ∈ L, Stays p.2)
    (h : wpY (YP T (Xof L) P l.toArray w) (fun a' => ∀ β w', Cls w w' → (∀ t ∈ T, Xof L t (β t) w') → Q .normal (ovl a' β T) w') 0 l a) : (Code.region id l.toArray true).wp P Q a w := by
  have hok := ptrB_ok hB
  simp only [ptrB, Bool.and_eq_true] at hB
  obtain ⟨⟨⟨hsel, _⟩, _⟩, hlex⟩ := hB
  have hsz : l.toArray.size = l.length := by simp
  have inv0 : HeadInv .any l.toArray l.toArray.size (Array.replicate l.toArray.size false) :=
    ⟨by simp, fun j oj _ hl => (by rw [getD_replicate_false] at hl; cases hl), fun t h1 h2 => by omega⟩
  have hchk : ∀ listed : Array Bool, ((Region.ready .any l.toArray listed).isEmpty && (List.range l.toArray.size).all fun j => listed.getD j false) = true → Region.ready .any l.toArray listed = [] ∧ ∀ j, j < l.toArray.size → listed.getD j false = true := by
    intro listed hh
    rw [Bool.and_eq_true, List.isEmpty_iff, List.all_eq_true] at hh
    exact ⟨hh.1, fun j hj => hh.2 j (List.mem_range.2 hj)⟩
  have H := anyYL_lex (md := .any) (n := l.toArray.size) (chk := fun listed => (Region.ready .any l.toArray listed).isEmpty && (List.range l.toArray.size).all fun j => listed.getD j false) hsel (yp_looks T (Xof L) w)
    (fun listed _ i _ _ j hj hr => by
      obtain ⟨_, o, ho, _⟩ := mem_ready.1 hr
      have := (Array.getElem?_eq_some_iff.1 ho).1
      omega) (fun listed hc j hj => by rw [(hchk listed hc).1] at hj; cases hj)
    l 0 _ a (fun j hj => by simp) (by simp) inv0 (by rw [← hsz]; exact hlex) h
  refine wp_region_any hm ?_
  rw [← hsz] at H
  exact ptr_run (Q := Q) (Fin := fun a' => ∀ β w', Cls w w' → (∀ t ∈ T, Xof L t (β t) w') → Q .normal (ovl a' β T) w') hok (Xof.stays hX) hchk (fun β w' a' hC hx hf => hf β w' hC hx) _ _ a _ (fun _ => undef) [] H (by simp) (below_drewN (Below.refl w.heap.size w) 1) (fun t ht => by cases ht)
    (fun t _ => ⟨fun h => (by cases h), fun ⟨i, o, _, _, h⟩ => (by rw [getD_replicate_false] at h; cases h)⟩) (fun t ht => by cases ht)
end
section
variable {P : Program} {ops : Array Oper} {w0 : World} {Fin : Act → Prop} {k : Nat} {o : Oper} {rest : List Oper} {a : Act} {T : List Tmp} {X : Tmp → Value → World → Prop}
def freeB (T : List Tmp) (ops : Array Oper) (o : Oper) : Bool := (match o.dst with | none => true | some t => !T.contains t) && (o.looksAt ops).all fun t => !T.contains t
def dstB (T : List Tmp) (o : Oper) : Bool := match o.dst with | none => true | some t => !T.contains t
theorem dstB_spec (h : dstB T o = true) : ∀ t, o.dst = some t → t ∉ T := by
  intro t ht hm
  unfold dstB at h
  rw [ht] at h
  simp only [Bool.not_eq_true'] at h
  rw [List.contains_iff_mem.2 hm] at h; cases h
theorem ovl_free {β : Tmp → Value} (hs : ∀ cs b, o.op ≠ .select cs b) (h : ∀ s ∈ o.looksAt ops, s ∉ T) : execOp (ovl a β T).eval o = execOp a.eval o :=
  exec_same (ops := ops) hs fun s hs' => by rw [eval_ovl, if_neg (by simp [h s hs'])]
def notSelect (o : Oper) : Bool := match o.op with | .select _ _ => false | _ => true
theorem notSelect_spec (h : notSelect o = true) : ∀ cs b, o.op ≠ .select cs b := by
  intro cs b e
  unfold notSelect at h
  rw [e] at h; cases h
/-- An operation that looks at no letter. -/
theorem p_step (hk : (notSelect o && freeB T ops o) = true) (h : ∀ K : Act → Prop, (∀ a, WpV (YP T X P ops w0) Fin (k + 1) rest a → K a) → if Region.wanted o (yielded ops a.tmps) = true then CalmB P o a w0 K else K (a.put o.dst undef)) :
    WpV (YP T X P ops w0) Fin k (o :: rest) a := by
  obtain ⟨v, h1, h2⟩ := yb_of (h _ fun a h => h)
  rw [Bool.and_eq_true] at hk
  obtain ⟨hns, hk⟩ := hk
  unfold freeB at hk
  rw [Bool.and_eq_true, List.all_eq_true] at hk
  have hd := dstB_spec (T := T) (o := o) hk.1
  have hl : ∀ s ∈ o.looksAt ops, s ∉ T := fun s hs hm => by
    have := hk.2 s hs
    simp only [Bool.not_eq_true'] at this
    rw [List.contains_iff_mem.2 hm] at this; cases this
  refine ⟨v, .inr ⟨hd, ?_⟩, h2.out⟩
  rcases h1 with ⟨hw, hq⟩ | h1
  · refine .inl ⟨hw, fun β w hC _ => ?_⟩
    have := hq w hC
    unfold Oper.quietAt at this ⊢
    rw [ovl_free (ops := ops) (notSelect_spec hns) hl]
    exact this
  · exact .inr h1
def CalmL (T : List Tmp) (X : Tmp → Value → World → Prop) (P : Program) (ops : Array Oper) (o : Oper) (a : Act) (w0 : World) (K : Act → Prop) : Prop :=
  ∃ v, (∀ β w, Cls w0 w → GoodAt T X ops o β w → o.quietAt P (ovl a β T) (fun w'' => Below w.heap.size w w'') w v) ∧ K (a.put o.dst v)
theorem CalmL.of {K : Act → Prop} (h : ∃ v, (∀ β w, Cls w0 w → GoodAt T X ops o β w → o.quietAt P (ovl a β T) (fun w'' => Below w.heap.size w w'') w v) ∧ K (a.put o.dst v)) : CalmL T X P ops o a w0 K := h
/-- An operation that looks at letters and yields what is known. -/
theorem p_stepL (hk : dstB T o = true) (h : ∀ K : Act → Prop, (∀ a, WpV (YP T X P ops w0) Fin (k + 1) rest a → K a) → if Region.wanted o (yielded ops a.tmps) = true then CalmL T X P ops o a w0 K else K (a.put o.dst undef)) :
    WpV (YP T X P ops w0) Fin k (o :: rest) a := by
  have h := h _ fun a h => h
  by_cases hw : Region.wanted o (yielded ops a.tmps) = true
  · rw [if_pos hw] at h
    obtain ⟨v, h1, h2⟩ := h
    exact ⟨v, .inr ⟨dstB_spec hk, .inl ⟨hw, h1⟩⟩, h2.out⟩
  · rw [if_neg hw] at h
    exact ⟨undef, .inr ⟨dstB_spec hk, .inr ⟨by simpa using hw, rfl⟩⟩, h.out⟩
/-- An operation that yields a letter. -/
theorem p_call (t : Tmp) (hd : o.dst = some t) (ht : T.contains t = true) (hw : Region.wanted o (yielded ops a.tmps) = true) (h : ∀ β w, Cls w0 w → GoodAt T X ops o β w → ptrUpon X P t w ((execOp (ovl a β T).eval o).run P w)) (hr : WpV (YP T X P ops w0) Fin (k + 1) rest (a.put o.dst undef)) :
    WpV (YP T X P ops w0) Fin k (o :: rest) a :=
  ⟨undef, .inl ⟨t, List.contains_iff_mem.1 ht, hd, rfl, hw, h⟩, hr.out⟩
theorem GoodAt.get {β : Tmp → Value} {w : World} (t : Tmp) (h : GoodAt T X ops o β w) (h1 : T.contains t = true) (h2 : (o.looksAt ops).contains t = true) : X t (β t) w := h t (List.contains_iff_mem.1 h1) (List.contains_iff_mem.1 h2)
/-- The same, where no letter is looked at. -/
theorem p_call0 (t : Tmp) (hd : o.dst = some t) (ht : T.contains t = true) (hl : (notSelect o && (o.looksAt ops).all fun t => !T.contains t) = true) (hw : Region.wanted o (yielded ops a.tmps) = true)
    (h : ∀ w, Cls w0 w → ptrUpon X P t w ((execOp a.eval o).run P w)) (hr : WpV (YP T X P ops w0) Fin (k + 1) rest (a.put o.dst undef)) :
    WpV (YP T X P ops w0) Fin k (o :: rest) a := by
  refine p_call t hd ht hw (fun β w hC _ => ?_) hr
  rw [Bool.and_eq_true] at hl
  have hl2 : ∀ s ∈ o.looksAt ops, s ∉ T := fun s hs hm => by
    have := List.all_eq_true.1 hl.2 s hs
    simp only [Bool.not_eq_true'] at this
    rw [List.contains_iff_mem.2 hm] at this; cases this
  rw [ovl_free (ops := ops) (notSelect_spec hl.1) hl2]
  exact h w hC
theorem ptrUpon_enter {t : Tmp} {w : World} {f : FuncId} {args : Array Value} (h : Calls P f args w (fun e w'' => (∃ u, e = .returned u ∧ X t u w'') ∧ Below w.heap.size w w'')) : ptrUpon X P t w (.ok (.enter f args) w) := ⟨rfl, h⟩
end
end Go.Proofs.Ytckcdpmfmfpmmaa
