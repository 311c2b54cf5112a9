/- An operation behind a guard that says yes. -/
import Derived.Test.YtlpbmnmhpknppaaStp
set_option linter.unusedVariables false
set_option linter.unusedSimpArgs false
namespace Go.Proofs.Ytlpbmnmhpknppaa
open Go.RowKit

theorem wpList_unguard {P : Program} {ops : Array Oper} {Q : Exit → Act → World → Prop} {a : Act} {w : World} {rest : List Oper} {dst : Option Tmp} {op : Op} {type : TypeId} {pos : String} {after : Array Edge} {guard : Option (Nat × Bool)}
    (hw : Region.wanted { dst, op, type, pos, after, guard } (yielded ops a.tmps) = true) (h : wpList P ops Q ({ dst, op, type, pos, after, guard := none } :: rest) a w) : wpList P ops Q ({ dst, op, type, pos, after, guard } :: rest) a w := by
  unfold wpList at h ⊢
  rw [if_pos hw]
  rw [if_pos (by simp [Region.wanted])] at h
  exact h
end Go.Proofs.Ytlpbmnmhpknppaa
