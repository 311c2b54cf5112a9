/- Appends inside a region that draws its order: the step forms. -/
import Derived.Test.YtlpbmnmhpknppaaApp
import Derived.Deep.RegionHeld3
import Derived.Deep.AppendLies
import Derived.Deep.DrawnRows
set_option linter.unusedVariables false
set_option linter.unusedSimpArgs false
namespace Go.Proofs.Ytlpbmnmhpknppaa
open Go.RowKit

theorem run_appS {P : Program} {α : Type} (w0 w : World) {o : Oper} {a : Act} {K : Act → World → Prop} {Q : Exit → Act → World → Prop} (s x : Operand) (t : TypeId)
    (ho : o.op = .call { callee := .builtin .append, args := #[s, x], argTypes := #[t, t] })
    (e : TypeId) (i : TypeInfo) (z : Value) (bytes : Nat) (ht : P.underlying t = some (.slice e)) (hi : P.info? e = some i) (hz : i.zero = some z) (hsize : i.size = 1) (hby : i.bytes = bytes) (hzs : z.cells.size = 1) (hbb : bytes ≤ 64)
    (base : Nat) (v : Value) (n : Nat) (xs : List Value) (hs : a.eval s = v) (hown : w.ownsRow base e 1 v n xs)
    (A : Option Addr) (m c B : Nat) (f : α → Value) (ys : List α) (hx : a.eval x = .slice A m c) (hSl : Sl w B f A m c ys) (h1 : ∀ y, (f y).oneCell' = true)
    (hn : n ≤ 1099511627776) (hm : m ≤ 1099511627776) (hb : Below base w0 w) (hB : base ≤ w.heap.size)
    (h : ∀ v' w1, w1.ownsRow base e 1 v' (n + m) (xs ++ ys.map f) → Below base w0 w1 → w.grownBy w1 v.ownBlock → K (a.put o.dst v') w1) : o.wp P a w K Q := by
  have hlen := hSl.len
  have hbyt : (n + m) * bytes ≤ 140737488355328 := by
    have : (n + m) * bytes ≤ (1099511627776 + 1099511627776) * 64 := Nat.mul_le_mul (by omega) hbb
    omega
  have h63 : n + m ≤ maxLen := by unfold maxLen; omega
  cases A with
  | none =>
    have hm0 : m = 0 := by
      rcases Nat.eq_zero_or_pos m with h0 | h0
      · exact h0
      · obtain ⟨b, o, hA, -⟩ := hSl.2.2.2 h0
        cases hA
    subst hm0
    have hys : ys = [] := List.eq_nil_of_length_eq_zero hlen
    subst hys
    have hrun := run_append_none_c (P := P) (w := w) base t o.type e i 1 ht hi v n c xs hown
    unfold Oper.wp
    simp [execOp, ho, resolve, invoke, builtin, hs, hx, hrun, Result.andThen]
    exact h v w (by simpa using hown) hb ⟨rfl, rfl, rfl, Nat.le_refl _, fun _ _ _ => rfl⟩
  | some ad =>
    refine wp_append_own w s x t ho base e i z 1 bytes ht hi hz hsize hby hzs (by decide) v n xs hs hown ad m c (ys.map f) hx (by simpa using hlen) ?_ ?_ h63 hbyt hB ?_
    · intro j y hj
      rw [List.getElem?_map] at hj
      cases hyj : ys[j]? with
      | none => rw [hyj] at hj; cases hj
      | some y0 =>
        rw [hyj] at hj
        injection hj with hj
        have hjl : j < ys.length := (List.getElem?_eq_some_iff.1 hyj).1
        obtain ⟨b, o2, hA, hlt, hc⟩ := hSl.2.2.2 (by omega)
        injection hA with hA
        subst hA
        have := hc j y0 hyj
        rw [← hj, ← this]
        simp only [Addr.add]
        try split
        all_goals first | rfl | (subst_vars; rfl)
    · intro u hu
      obtain ⟨y0, -, rfl⟩ := List.mem_map.1 hu
      exact h1 y0
    · intro v' w1 k1 k2 _
      exact h v' w1 k1 (hb.grown k2 hB fun k hk => (hown.lt k hk).1) k2

theorem heap_two1 (w : World) (o1 o2 : Obj) : ((w.alloc o1).alloc o2).heap[w.heap.size + 1]? = some o2 := by
  have := heap_alloc_new (w.alloc o1) o2
  simpa using this
theorem heap_two0 (w : World) (o1 o2 : Obj) : ((w.alloc o1).alloc o2).heap[w.heap.size]? = some o1 := by
  have := heap_alloc_old (w.alloc o1) o2 (r := w.heap.size) (by simp)
  rw [this]; exact heap_alloc_new w o1
theorem cell_two1 (w : World) (o1 : Obj) (u : Value) (E : TypeId) : ((w.alloc o1).alloc (.cells #[u] E)).cell? ⟨w.heap.size + 1, 0, none⟩ = some u := by
  rw [cell_of_row _ _ 0 #[u] E (0, 0) (heap_two1 w o1 _)]; rfl
theorem cell_two0 (w : World) (o2 : Obj) (u : Value) (E : TypeId) : ((w.alloc (.cells #[u] E)).alloc o2).cell? ⟨w.heap.size, 0, none⟩ = some u := by
  rw [cell_of_row _ _ 0 #[u] E (0, 0) (heap_two0 w _ o2)]; rfl
/-- A row of no element in a block that is known. -/
theorem own_empty {w : World} {base g E : Nat} (h : w.heap[g]? = some (.cells #[] E (0, 0))) (hb : base ≤ g) : w.ownsRow base E 1 (.slice (some ⟨g, 0, none⟩) 0 0) 0 [] :=
  ⟨rfl, .inr ⟨g, 0, #[], rfl, hb, h, Nat.le_refl _, by unfold maxLen; omega, rfl, rfl⟩⟩

/-- A list appended. -/
theorem step_appS {P : Program} {α : Type} (w0 w : World) {ops : Array Oper} {o : Oper} {a : Act} {K : Act → World → Prop} {Q : Exit → Act → World → Prop} {E : Prop} (hgd : o.guard = none) (s x : Operand) (t : TypeId)
    (ho : o.op = .call { callee := .builtin .append, args := #[s, x], argTypes := #[t, t] })
    (e : TypeId) (i : TypeInfo) (z : Value) (bytes : Nat) (ht : P.underlying t = some (.slice e)) (hi : P.info? e = some i) (hz : i.zero = some z) (hsize : i.size = 1) (hby : i.bytes = bytes) (hzs : z.cells.size = 1) (hbb : bytes ≤ 64)
    (base : Nat) (v : Value) (n : Nat) (xs : List Value) (hs : a.eval s = v) (hown : w.ownsRow base e 1 v n xs)
    (A : Option Addr) (m c B : Nat) (f : α → Value) (ys : List α) (hx : a.eval x = .slice A m c) (hSl : Sl w B f A m c ys) (h1 : ∀ y, (f y).oneCell' = true)
    (hn : n ≤ 1099511627776) (hm : m ≤ 1099511627776) (hb : Below base w0 w) (hB : base ≤ w.heap.size)
    (h : ∀ v' w1, w1.ownsRow base e 1 v' (n + m) (xs ++ ys.map f) → Below base w0 w1 → w.grownBy w1 v.ownBlock → K (a.put o.dst v') w1) :
    if Region.wanted o (yielded ops a.tmps) = true then Oper.wp P o a w K Q else E := by
  rw [if_pos (by simp [Region.wanted, hgd])]
  exact run_appS w0 w s x t ho e i z bytes ht hi hz hsize hby hzs hbb base v n xs hs hown A m c B f ys hx hSl h1 hn hm hb hB h

/-- One element appended, which lies in a block that is known. -/
theorem step_app1 {P : Program} (w0 w : World) {ops : Array Oper} {o : Oper} {a : Act} {K : Act → World → Prop} {Q : Exit → Act → World → Prop} {E : Prop} (hgd : o.guard = none) (s x : Operand) (t : TypeId)
    (ho : o.op = .call { callee := .builtin .append, args := #[s, x], argTypes := #[t, t] })
    (e : TypeId) (i : TypeInfo) (z : Value) (bytes : Nat) (ht : P.underlying t = some (.slice e)) (hi : P.info? e = some i) (hz : i.zero = some z) (hsize : i.size = 1) (hby : i.bytes = bytes) (hzs : z.cells.size = 1) (hbb : bytes ≤ 64)
    (base : Nat) (v : Value) (n : Nat) (xs : List Value) (hs : a.eval s = v) (hown : w.ownsRow base e 1 v n xs) (u : Value) (hu : u.oneCell' = true) (g : Nat) (hx : a.eval x = .slice (some ⟨g, 0, none⟩) 1 1) (hg : w.cell? ⟨g, 0, none⟩ = some u)
    (hn : n ≤ 1099511627776) (hb : Below base w0 w) (hB : base ≤ w.heap.size)
    (h : ∀ v' w1, w1.ownsRow base e 1 v' (n + 1) (xs ++ [u]) → Below base w0 w1 → w.grownBy w1 v.ownBlock → K (a.put o.dst v') w1) :
    if Region.wanted o (yielded ops a.tmps) = true then Oper.wp P o a w K Q else E := by
  have hS : Sl w w.heap.size id (some ⟨g, 0, none⟩) 1 1 [u] := ⟨rfl, Nat.le_refl _, by omega, fun _ => ⟨g, 0, rfl, World.block_lt_of_cell? w _ hg, fun j y hj => by
    match j, hj with
    | 0, hj => simp at hj; subst hj; exact hg⟩⟩
  rw [if_pos (by simp [Region.wanted, hgd])]
  refine wp_append_own w s x t ho base e i z 1 bytes ht hi hz hsize hby hzs (by decide) v n xs hs hown ⟨g, 0, none⟩ 1 1 [u] hx rfl ?_ ?_ (by unfold maxLen; omega) ?_ hB ?_
  · intro j y hj
    match j, hj with
    | 0, hj => simp at hj; subst hj; simpa [Addr.add] using hg
  · intro y hy
    simp at hy; subst hy; exact hu
  · have : (n + 1) * bytes ≤ (1099511627776 + 1) * 64 := Nat.mul_le_mul (by omega) hbb
    omega
  · intro v' w1 k1 k2 _
    exact h v' w1 k1 (hb.grown k2 hB fun k hk => (hown.lt k hk).1) k2
end Go.Proofs.Ytlpbmnmhpknppaa
