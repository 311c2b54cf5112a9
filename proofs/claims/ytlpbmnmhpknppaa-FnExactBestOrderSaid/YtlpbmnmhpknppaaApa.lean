/- A whole slice appended to the call's own row, and where the new row lies. -/
import Derived.Test.YtlpbmnmhpknppaaApp
import Derived.Maps.AppendAt
set_option linter.unusedVariables false
set_option linter.unusedSimpArgs false
namespace Go.Proofs.Ytlpbmnmhpknppaa
open Go.RowKit

theorem wpList_appS_at {P : Program} {α : Type} (w0 w : World) {ops : Array Oper} {rest : List Oper} {o : Oper} {a : Act} {Q : Exit → Act → World → Prop} (hgd : o.guard = none) (s x : Operand) (t : TypeId)
    (ho : o.op = .call { callee := .builtin .append, args := #[s, x], argTypes := #[t, t] })
    (e : TypeId) (i : TypeInfo) (z : Value) (bytes : Nat) (ht : P.underlying t = some (.slice e)) (hi : P.info? e = some i) (hz : i.zero = some z) (hsize : i.size = 1) (hby : i.bytes = bytes) (hzs : z.cells.size = 1) (hbb : bytes ≤ 64)
    (base : Nat) (v : Value) (n : Nat) (xs : List Value) (hs : a.eval s = v) (hown : w.ownsRow base e 1 v n xs)
    (A : Option Addr) (m c B : Nat) (f : α → Value) (ys : List α) (hx : a.eval x = .slice A m c) (hSl : Sl w B f A m c ys) (h1 : ∀ y, (f y).oneCell' = true)
    (hn : n ≤ 1099511627776) (hm : m ≤ 1099511627776) (hb : Below base w0 w) (hB : base ≤ w.heap.size)
    (h : ∀ v' w1, w1.ownsRow base e 1 v' (n + m) (xs ++ ys.map f) → Below base w0 w1 → w.grownBy w1 v.ownBlock → (∀ b, v'.ownBlock = some b → v.ownBlock = some b ∨ w.heap.size ≤ b) → wpList P ops Q rest (a.put o.dst v') w1) : wpList P ops Q (o :: rest) a w := by
  have hlen := hSl.len
  have hbyt : (n + m) * bytes ≤ 140737488355328 := by
    have : (n + m) * bytes ≤ (1099511627776 + 1099511627776) * 64 := Nat.mul_le_mul (by omega) hbb
    omega
  have h63 : n + m ≤ maxLen := by unfold maxLen; omega
  cases A with
  | none =>
    have hm0 : m = 0 := by
      rcases Nat.eq_zero_or_pos m with h0 | h0
      · exact h0
      · obtain ⟨b, o, hA, -⟩ := hSl.2.2.2 h0
        cases hA
    subst hm0
    have hys : ys = [] := List.eq_nil_of_length_eq_zero hlen
    subst hys
    refine wpList_plain hgd fun K hK => ?_
    have hrun := run_append_none_c (P := P) (w := w) base t o.type e i 1 ht hi v n c xs hown
    unfold Oper.wp
    simp [execOp, ho, resolve, invoke, builtin, hs, hx, hrun, Result.andThen]
    refine hK _ _ (h v w (by simpa using hown) hb ⟨rfl, rfl, rfl, Nat.le_refl _, fun _ _ _ => rfl⟩ fun b hb => .inl hb)
  | some ad =>
    refine wpList_append_own_at w hgd s x t ho base e i z 1 bytes ht hi hz hsize hby hzs (by decide) v n xs hs hown ad m c (ys.map f) hx (by simpa using hlen) ?_ ?_ h63 hbyt hB ?_
    · intro j y hj
      rw [List.getElem?_map] at hj
      cases hyj : ys[j]? with
      | none => rw [hyj] at hj; cases hj
      | some y0 =>
        rw [hyj] at hj
        injection hj with hj
        have hjl : j < ys.length := (List.getElem?_eq_some_iff.1 hyj).1
        obtain ⟨b, o2, hA, hlt, hc⟩ := hSl.2.2.2 (by omega)
        injection hA with hA
        subst hA
        have := hc j y0 hyj
        rw [← hj, ← this]
        simp only [Addr.add]
        try split
        all_goals first | rfl | (subst_vars; rfl)
    · intro u hu
      obtain ⟨y0, -, rfl⟩ := List.mem_map.1 hu
      exact h1 y0
    · intro v' w1 k1 k2 _ k3
      refine h v' w1 k1 (hb.grown k2 hB fun k hk => (hown.lt k hk).1) k2 fun b hb => ?_
      rcases k3 with e | e
      · exact .inl (e ▸ hb)
      · rw [e] at hb; injection hb with hb; right; omega

end Go.Proofs.Ytlpbmnmhpknppaa
