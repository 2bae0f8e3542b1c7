/-
  For seisinlaw02.RelPairs: appends that leave the old row owned, an empty literal, rotated lists.
-/
import Derived.Test.YtgegmoedgegkcaaDoorPtrS
import Derived.Test.YtgegmoedgegkcaaDoorLRing
namespace Go.Proofs.YtgegmoedgegkcaaDoor
open Go.RowKit

section
variable {P : Program} (w : World)
theorem run_append_own3 (base : Nat) (t ty e : TypeId) (i : TypeInfo) (z : Value) (size bytes : Nat) (ht : P.underlying t = some (.slice e)) (hi : P.info? e = some i) (hz : i.zero = some z)
    (hsize : i.size = size) (hby : i.bytes = bytes) (hzs : z.cells.size = size) (hsz : 0 < size)
    (v : Value) (n : Nat) (xs : List Value) (hown : w.ownsRow base e size v n xs)
    (a : Addr) (m c : Nat) (news : List Value) (hl : news.length = m * size) (hnews : ∀ j u, news[j]? = some u → w.cell? (a.add j) = some u) (h1 : ∀ u ∈ news, u.oneCell' = true)
    (h63 : n + m ≤ maxLen) (hbytes : (n + m) * bytes ≤ 140737488355328) (hbase : base ≤ w.heap.size) :
    ∃ v' w', (Builtin.append_ #[t, t] ty #[v, .slice (some a) m c]).run P w = .ok v' w' ∧ w'.ownsRow base e size v' (n + m) (xs ++ news) ∧ w.grownBy w' v.ownBlock ∧ w'.ownsRow base e size v n xs := by
  obtain ⟨v', w', hr, ho, hg, _⟩ := run_append_own (P := P) w base t ty e i z size bytes ht hi hz hsize hby hzs hsz v n xs hown a m c news hl hnews h1 h63 hbytes hbase
  refine ⟨v', w', hr, ho, hg, ?_⟩
  have hown' := hown
  obtain ⟨_, ⟨rfl, rfl⟩ | ⟨g, cap, cur, rfl, hb, hh, hnc, hcm, hcs, htk⟩⟩ := hown
  · have hx : xs = [] := List.eq_nil_of_length_eq_zero (by simpa using hown'.1)
    subst hx
    exact World.ownsRow_nil _ _ _ _
  · by_cases hroom : n + m ≤ cap
    · subst hsize
      have hr2 := run_append_room_cells (P := P) w t ty e i ht hi g 0 n cap a m c news hl hnews h1 hroom
        (fun j hj => by
          have hlt : 0 + n * i.size + j < cur.size := by
            rw [hcs]
            have : (n + m) * i.size ≤ cap * i.size := Nat.mul_le_mul_right _ hroom
            rw [Nat.add_mul] at this
            omega
          rw [cell_of_row w g _ cur e (0, 0) hh, Array.getElem?_eq_getElem hlt]; rfl)
        (fun j hj => by simp [World.frozen?, hh])
      rw [hr] at hr2
      simp only [Result.ok.injEq] at hr2
      obtain ⟨_, ⟨e1, _⟩ | ⟨g', cap', cur', e1, hb', hh', hnc', hcm', hcs', htk'⟩⟩ := ho
      · rw [hr2.1] at e1; simp at e1
      · rw [hr2.1] at e1
        simp only [Value.slice.injEq, Option.some.injEq, Addr.mk.injEq] at e1
        obtain ⟨⟨rfl, _⟩, _, rfl⟩ := e1
        refine ⟨hown'.1, .inr ⟨g, cap, cur', rfl, hb, hh', hnc, hcm, hcs', ?_⟩⟩
        have hx : xs.length = n * i.size := hown'.1
        have := congrArg (List.take (n * i.size)) htk'
        rw [List.take_take, Nat.min_eq_left (Nat.mul_le_mul_right _ (Nat.le_add_right n m)), ← hx, List.take_left] at this
        rw [← hx]; exact this
    · obtain ⟨v2, w2, hr2, ho2, hg2⟩ := run_append_arg_grows (P := P) w t ty e i z size bytes ht hi hz hsize hby hzs hsz ⟨g, 0, none⟩ n cap xs hown'.1 (hown'.cells (g := g) rfl) a m c news hl hnews (by omega) h63 hbytes
      rw [hr] at hr2
      simp only [Result.ok.injEq] at hr2
      obtain ⟨rfl, rfl⟩ := hr2
      exact hown'.kept hg2 (.inr (by simp [Value.ownBlock]))
end
theorem run_build0 (w : World) : (Instr.buildSlice 72 0 #[]).run Tryd.prog w = .ok (.slice (some ⟨w.heap.size, 0, none⟩) 0 0) (w.alloc (.cells #[] 74)) := by
  have hs : ∃ i, Tryd.prog.info? 74 = some i := by
    have h : ((Tryd.prog.info? 74).map (·.size)) = some 2 := by kernel_rfl
    cases hq : Tryd.prog.info? 74 with
    | none => simp [hq] at h
    | some i => exact ⟨i, rfl⟩
  obtain ⟨i, hi⟩ := hs
  simp [Instr.buildSlice, run_underlying Tryd.underlying72, sizeOf, typeInfo, hi, Instr.fill, newRow]
  have h0 : Array.range 0 = #[] := by simp [Array.range]
  rw [h0]; simp
theorem owns_build0 (w : World) (N : Nat) (h : N ≤ w.heap.size) : (w.alloc (.cells #[] 74)).ownsRow N 74 2 (.slice (some ⟨w.heap.size, 0, none⟩) 0 0) 0 [] :=
  World.ownsRow_lit w #[] 0 h (Nat.zero_le _) rfl

theorem vpr_append (l r : List (Nat × Nat)) : vpr (l ++ r) = vpr l ++ vpr r := by unfold vpr; rw [List.flatMap_append]
theorem vpr_length (l : List (Nat × Nat)) : (vpr l).length = l.length * 2 := by
  induction l with
  | nil => rfl
  | cons p l ih => rw [show vpr (p :: l) = [.int .i64 (p.1 : Int), .int .i64 (p.2 : Int)] ++ vpr l from rfl, List.length_append, ih, List.length_cons]; simp; omega
theorem vpr_one (l : List (Nat × Nat)) : ∀ u ∈ vpr l, u.oneCell' = true := by
  intro u hu
  unfold vpr at hu
  obtain ⟨p, _, hp⟩ := List.mem_flatMap.1 hu
  simp only [List.mem_cons, List.not_mem_nil, or_false] at hp
  rcases hp with rfl | rfl <;> rfl
/-- The cells of a part of a list that lies somewhere. -/
theorem PrAt.part {w : World} {N c : Nat} {l : List (Nat × Nat)} (h : PrAt w N (some ⟨c, 0, none⟩) l) (d e : Nat) : ∀ j u, (vpr ((l.drop d).take e))[j]? = some u → w.cell? ((⟨c, d * 2, none⟩ : Addr).add j) = some u := by
  have key : ∀ (q : List (Nat × Nat)) (d : Nat), (∀ i p, q[i]? = some p → w.cell? ⟨c, (d + i) * 2, none⟩ = some (.int .i64 (p.1 : Int)) ∧ w.cell? ⟨c, (d + i) * 2 + 1, none⟩ = some (.int .i64 (p.2 : Int))) →
      ∀ j u, (vpr q)[j]? = some u → w.cell? ((⟨c, d * 2, none⟩ : Addr).add j) = some u := by
    intro q
    induction q with
    | nil => intro d _ j u hu; simp [vpr] at hu
    | cons p q ih =>
      intro d hq j u hu
      rw [show vpr (p :: q) = .int .i64 (p.1 : Int) :: .int .i64 (p.2 : Int) :: vpr q from rfl] at hu
      obtain ⟨h1, h2⟩ := hq 0 p rfl
      simp only [Nat.add_zero] at h1 h2
      match j, hu with
      | 0, hu => simp only [List.getElem?_cons_zero, Option.some.injEq] at hu; subst hu; exact h1
      | 1, hu => simp only [List.getElem?_cons_succ, List.getElem?_cons_zero, Option.some.injEq] at hu; subst hu; exact h2
      | j + 2, hu =>
        simp only [List.getElem?_cons_succ] at hu
        have := ih (d + 1) (fun i p hp => by
          have := hq (i + 1) p (by simpa using hp)
          rw [show d + (i + 1) = d + 1 + i by omega] at this
          exact this) j u hu
        simp only [Addr.add_lit] at this ⊢
        rw [show d * 2 + (j + 2) = (d + 1) * 2 + j by omega]
        exact this
  refine key _ d fun i p hp => ?_
  have hp' : l[d + i]? = some p := by
    rw [List.getElem?_take] at hp
    split at hp
    · rw [List.getElem?_drop] at hp; exact hp
    · cases hp
  obtain ⟨c', e, _, h1, h2⟩ := h _ p hp'
  simp only [Option.some.injEq, Addr.mk.injEq] at e
  obtain ⟨rfl, _⟩ := e
  exact ⟨h1, h2⟩
theorem run_app {P : Program} {o : Oper} {a : Act} {w w' : World} {v' : Value} (x y : Operand) (t : TypeId) (v u : Value) (hop : o.op = .call { callee := .builtin .append, args := #[x, y], argTypes := #[t, t] }) (hx : a.eval x = v) (hy : a.eval y = u)
    (hrun : (Builtin.append_ #[t, t] o.type #[v, u]).run P w = .ok v' w') : (execOp a.eval o).run P w = .ok (.value v') w' := by
  simp [execOp, hop, resolve, invoke, builtin, hx, hy, hrun, Result.andThen]
/-- A part of a list that lies somewhere is appended onto an own row. -/
theorem app_part {wA wc : World} {l : List (Nat × Nat)} {c m : Nat} (ty : TypeId) (hC : Cls wA wc) (hP : PrAt wA wA.heap.size (some ⟨c, 0, none⟩) l) (hl : l.length = m) (v : Value) (n : Nat) (xs : List Value) (h0 : wc.ownsRow wA.heap.size 74 2 v n xs)
    (d e cap : Nat) (hde : d + e ≤ m) (hn : n + e ≤ 6144) :
    ∃ v' w', (Builtin.append_ #[72, 72] ty #[v, .slice (some ⟨c, d * 2, none⟩) e cap]).run Tryd.prog wc = .ok v' w' ∧ w'.ownsRow wA.heap.size 74 2 v' (n + e) (xs ++ vpr ((l.drop d).take e)) ∧ Cls wA w' ∧ w'.ownsRow wA.heap.size 74 2 v n xs := by
  obtain ⟨i0, hi, hz0, hz1, hz2⟩ := info_parts info74
  obtain ⟨v', w', h1, h2, h3, h4⟩ := run_append_own3 wc wA.heap.size 72 ty 74 i0 _ 2 16 Tryd.underlying72 hi hz0 hz1 hz2 rfl (by decide) v n xs h0 ⟨c, d * 2, none⟩ e cap (vpr ((l.drop d).take e))
    (by rw [vpr_length, List.length_take, List.length_drop, Nat.min_eq_left (by omega)]) ((hP.below hC).part d e) (vpr_one _) (by unfold maxLen; omega) (by omega) hC.size
  exact ⟨v', w', h1, h2, hC.grown h3 hC.size fun k hk => (owned_block h0 hk).1, h4⟩
end Go.Proofs.YtgegmoedgegkcaaDoor
