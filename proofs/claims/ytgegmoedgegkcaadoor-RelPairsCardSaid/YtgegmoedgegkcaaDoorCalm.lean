/-
  A region that draws its order and whose callees answer the same in every world over a base: one walk, in the order of the text.
-/
import Derived.Test.YtgegmoedgegkcaaDoorBase
import Derived.Test.YtgegmoedgegkcaaDoorAw1
import Derived.Deep.QuietTactic
namespace Go.Proofs.YtgegmoedgegkcaaDoor
open Go.RowKit

/-- The worlds over a base. -/
abbrev Cls (w0 w1 : World) : Prop := Below w0.heap.size w0 w1
/-- 'wpQuiet', closed to unfolding. -/
structure WpCalm (P : Program) (ops : Array Oper) (C : World → Prop) (Q : Act → Prop) (l : List Oper) (a : Act) : Prop where
  out : wpQuiet P ops C Q l a
def Calm (P : Program) (o : Oper) (a : Act) (C : World → Prop) (K : Act → Prop) : Prop := o.quiet P a C K

section
variable {P : Program} {ops : Array Oper} {C : World → Prop}
theorem calm_step {Q : Act → Prop} {a : Act} {o : Oper} {rest : List Oper}
    (h : ∀ K : Act → Prop, (∀ a, WpCalm P ops C Q rest a → K a) → if Region.wanted o (yielded ops a.tmps) = true then Calm P o a C K else K (a.put o.dst undef)) : WpCalm P ops C Q (o :: rest) a :=
  ⟨h _ (fun _ h => h.out)⟩
theorem calm_nil {Q : Act → Prop} {a : Act} (h : Q a) : WpCalm P ops C Q [] a := ⟨h⟩
theorem Calm.of {o : Oper} {a : Act} {K : Act → Prop} (h : ∃ v, (∀ w, C w → o.quietAt P a C w v) ∧ K (a.put o.dst v)) : Calm P o a C K := h
theorem wp_region_calm {id : Nat} {Q : Exit → Act → World → Prop} {a : Act} {w : World} {l : List Oper} (hm : P.follows .mixedOrders = true) (hB : Region.lexB .any l.toArray = true)
    (h : WpCalm P l.toArray (Cls w) (fun a' => ∀ w', Cls w w' → Q .normal a' w') l a) : (Code.region id l.toArray true).wp P Q a w :=
  wp_region_quiet (C := Cls w) hm hB (below_drewN (Below.refl w.heap.size w) 1) (by simpa using h.out)
/-- A contract that leaves a world over the one it got. -/
theorem calm_below {w0 w1 : World} {f : FuncId} {args : Array Value} {v : Value} (hC : Cls w0 w1)
    (h : Calls P f args w1 fun e w' => e = .returned v ∧ Below w1.heap.size w1 w') : Calls P f args w1 fun e w' => e = .returned v ∧ Cls w0 w' :=
  h.mono fun _ _ ⟨he, hb⟩ => ⟨he, Below.chain hC hb⟩
theorem calm_same {w0 w1 : World} {f : FuncId} {args : Array Value} {v : Value} (hC : Cls w0 w1)
    (h : Calls P f args w1 fun e w' => e = .returned v ∧ w1 = w') : Calls P f args w1 fun e w' => e = .returned v ∧ Cls w0 w' :=
  h.mono fun _ _ ⟨he, hb⟩ => ⟨he, hb ▸ hC⟩
theorem calm_drew {w0 w1 : World} {f : FuncId} {args : Array Value} {v : Value} (hC : Cls w0 w1)
    (h : Calls P f args w1 fun e w' => e = .returned v ∧ ∃ k, w' = w1.drewN k) : Calls P f args w1 fun e w' => e = .returned v ∧ Cls w0 w' :=
  h.mono fun _ _ ⟨he, k, hb⟩ => ⟨he, hb ▸ below_drewN hC k⟩
end
end Go.Proofs.YtgegmoedgegkcaaDoor
