/- Regions that draw their order, walked once. -/
import Derived.Test.YtlpbmnmhpknppaaMem
import Derived.BigQuiet
import Derived.Deep.QuietTactic
set_option linter.unusedVariables false
set_option linter.unusedSimpArgs false
namespace Go.Proofs.Ytlpbmnmhpknppaa
open Go.RowKit

/-! A region that draws its order, whose operations only read and whose callees' contracts end in 'Below': walked once, in the order of the text. The class of worlds: the world with new blocks behind it. -/
structure PD where
  os : Array Obj
  d : Nat
instance : Inhabited PD := ⟨⟨#[], 0⟩⟩

theorem wp_region_plus {P : Program} {id : Nat} {Q : Exit → Act → World → Prop} {a : Act} {W : World} {l : List Oper} (hm : P.follows .mixedOrders = true) (hB : Region.lexB .any l.toArray = true)
    (h : wpQuiet P l.toArray (fun w' => ∃ p : PD, w' = plus W p.os p.d) (fun a' => ∀ w', (∃ p : PD, w' = plus W p.os p.d) → Q .normal a' w') l a) : (Code.region id l.toArray true).wp P Q a W :=
  wp_region_quiet (C := fun w' => ∃ p : PD, w' = plus W p.os p.d) hm hB ⟨⟨#[], W.drawn + 1⟩, by
    show _ = ({ W with heap := W.heap ++ #[], drawn := W.drawn + 1 } : World)
    rw [Array.append_empty]⟩ (by simpa using h)

theorem quiet_plus {P : Program} {f : FuncId} {args : Array Value} {W : World} {x : PD} {v : Value}
    (h : Calls P f args (plus W x.os x.d) fun e w' => e = .returned v ∧ Below (plus W x.os x.d).heap.size (plus W x.os x.d) w') :
    Calls P f args (plus W x.os x.d) fun e w'' => e = .returned v ∧ ∃ p : PD, w'' = plus W p.os p.d :=
  h.mono fun _ _ ⟨he, hb⟩ => by
    obtain ⟨os, d, rfl⟩ := is_plus hb
    exact ⟨he, ⟨x.os ++ os, d⟩, plus_plus _ _ _ _ _⟩
theorem quiet_plus2 {P : Program} {f : FuncId} {args : Array Value} {W : World} {o1 : Array Obj} {x : PD} {v : Value}
    (h : Calls P f args (plus W (o1 ++ x.os) x.d) fun e w' => e = .returned v ∧ Below (plus W (o1 ++ x.os) x.d).heap.size (plus W (o1 ++ x.os) x.d) w') :
    Calls P f args (plus W (o1 ++ x.os) x.d) fun e w'' => e = .returned v ∧ ∃ p : PD, w'' = plus W (o1 ++ p.os) p.d :=
  h.mono fun _ _ ⟨he, hb⟩ => by
    obtain ⟨os, d, rfl⟩ := is_plus hb
    exact ⟨he, ⟨x.os ++ os, d⟩, by rw [plus_plus, Array.append_assoc]⟩
/-- A callee that leaves the world alone. -/
theorem quiet_same {P : Program} {f : FuncId} {args : Array Value} {W : World} {C : World → Prop} {v : Value} (hC : C W)
    (h : Calls P f args W fun e w' => e = .returned v ∧ W = w') : Calls P f args W fun e w'' => e = .returned v ∧ C w'' :=
  h.mono fun _ _ ⟨he, hw⟩ => ⟨he, hw ▸ hC⟩
end Go.Proofs.Ytlpbmnmhpknppaa
