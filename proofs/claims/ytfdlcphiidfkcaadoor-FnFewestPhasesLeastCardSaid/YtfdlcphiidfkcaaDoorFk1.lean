/- What the rows' listed tables give the walks; the heap that the door leaves. -/
import Derived.Test.YtfdlcphiidfkcaaDoorRows
import Derived.Test.YtfdlcphiidfkcaaDoorFa1
import Derived.LaidMore
import Derived.OpenShut
import Derived.Stop.Joined
import Derived.ProofKit
import Derived.MakeChecks
set_option linter.unusedVariables false
set_option linter.unusedSimpArgs false
namespace Go.Proofs.YtfdlcphiidfkcaaDoor
open Go.ChangeShapes Go.WideShapes Go.ChangeAt Go.RowKit

theorem g32 : Tryd.prog.globalNamed "math/bits.deBruijn32tab" = some 0 := by kernel_rfl
theorem g64 : Tryd.prog.globalNamed "math/bits.deBruijn64tab" = some 1 := by kernel_rfl
theorem tab32 : (Tryd.prog.globals[(0 : Nat)]?).map (·.type) = some 85 := by kernel_rfl
theorem tab64 : (Tryd.prog.globals[(1 : Nat)]?).map (·.type) = some 86 := by kernel_rfl
def laidT : List (String × DataW Unit) := [("math/bits.deBruijn32tab", Rows.laid_math_bits_deBruijn32tab), ("math/bits.deBruijn64tab", Rows.laid_math_bits_deBruijn64tab)]
theorem laid64_eq : (Rows.laid_math_bits_deBruijn64tab : DataW Unit) = .agg (Lib.deBruijn64tab.map fun (k : Nat) => .lit (.int .u8 k)) := by kernel_rfl

/-- The door's own heap meets the condition. -/
theorem door_met (os : Os) (args : Array Value) : laidMetH Tryd.prog laidT ((World.doorLaid Tryd.prog 400 os).forCall (fun _ _ => 0) ⟨#[], args, []⟩).memory :=
  laidMetH_of_parts3 (fuel := 8) (laidMet_of_run' 8 (by kernel_rfl) (by kernel_rfl)) (by kernel_rfl) (by kernel_rfl)

theorem take1 {α : Type} {l : List α} {j : Nat} {v : α} (h : (l.drop j).take 1 = [v]) : l[j]? = some v := by
  have h0 : ((l.drop j).take 1)[0]? = some v := by rw [h]; rfl
  rw [List.getElem?_take, if_pos (by omega), List.getElem?_drop] at h0
  simpa using h0

/-- The table lies in its variable. -/
theorem of_laid {W : World} (h : laidMetH Tryd.prog laidT W) : TabB W := by
  rw [MakeChecks.laidMetH_plain _ _ _ (by kernel_rfl)] at h
  obtain ⟨ps, ⟨g0, t0, cs0, f0, p0, q0, hg0, ht0, hv0, hd0, ⟨g1, t1, cs1, f1, p1, q1, hg1, ht1, hv1, hd1, _, _⟩, _⟩, _, _⟩ := h
  obtain rfl := Option.some.inj (g64.symm.trans hg1)
  obtain rfl := Option.some.inj (tab64.symm.trans ht1)
  obtain ⟨xs, m1, rfl, hx1, hlen, hn3, hel⟩ := DataW.trod_array Tryd.underlying86 hd1
  have c5 : Tryd.prog.cellsOf 5 = 1 := by kernel_rfl
  simp only [Prod.mk.injEq] at hx1
  have hx2 := hx1.1
  rw [laid64_eq] at hx2
  injection hx2 with hx2
  intro j hj
  have hj64 : j < 64 := hj
  have he := hel j hj64
  rw [c5, Nat.mul_one] at he
  obtain ⟨x, hx⟩ : ∃ x, xs[j]? = some x := ⟨_, List.getElem?_eq_getElem (by omega)⟩
  rw [hx] at he
  obtain ⟨k, e1, e2, _⟩ := DataW.trod_int Tryd.underlying5 he
  have h3 := congrArg (fun l => l[j]?) hx2
  simp only [List.getElem?_map, hx, Option.map_some, e2] at h3
  rw [List.getElem?_eq_getElem hj] at h3
  simp only [Option.map_some, Option.some.injEq] at h3
  have hk : k = ((Lib.deBruijn64tab.getD j 0 : Nat) : Int) := by
    rw [List.getD_eq_getElem?_getD, List.getElem?_eq_getElem hj]
    injection h3 with h3
    injection h3 with _ h3
    exact h3.symm
  rw [hk] at e1
  have h4 := World.var?_cell hg1 hv1 j
  rw [h4]
  have h5 := take1 e1
  simpa using h5
end Go.Proofs.YtfdlcphiidfkcaaDoor
