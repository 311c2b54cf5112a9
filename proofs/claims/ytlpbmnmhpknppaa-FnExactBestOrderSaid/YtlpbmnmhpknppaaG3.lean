/- Slices of slices that are built by appends: the outer row's block is none of the rows'. -/
import Derived.Test.YtlpbmnmhpknppaaG2
import Derived.Test.YtlpbmnmhpknppaaApp
import Derived.Maps.AppendAt
set_option linter.unusedVariables false
set_option linter.unusedSimpArgs false
namespace Go.Proofs.Ytlpbmnmhpknppaa
open Go.RowKit

/-- 'out = append(out, u)' as wpList_app1 has it, and where the new row lies. -/
theorem wpList_app1_at {P : Program} (w0 wr : World) {ops : Array Oper} {rest : List Oper} {o : Oper} {a : Act} {Q : Exit → Act → World → Prop} (hgd : o.guard = none) (s x : Operand) (t : TypeId)
    (ho : o.op = .call { callee := .builtin .append, args := #[s, x], argTypes := #[t, t] })
    (e : TypeId) (i : TypeInfo) (z : Value) (bytes : Nat) (ht : P.underlying t = some (.slice e)) (hi : P.info? e = some i) (hz : i.zero = some z) (hsize : i.size = 1) (hby : i.bytes = bytes) (hzs : z.cells.size = 1) (hbb : bytes ≤ 64)
    (base : Nat) (v : Value) (n : Nat) (xs : List Value) (hs : a.eval s = v) (hown : wr.ownsRow base e 1 v n xs) (u : Value) (hu : u.oneCell' = true) (g : Nat) (hx : a.eval x = .slice (some ⟨g, 0, none⟩) 1 1) (hg : g = wr.heap.size)
    (hn : n ≤ 1099511627776) (hb : Below base w0 wr) (hB : base ≤ wr.heap.size)
    (h : ∀ v' w1, w1.ownsRow base e 1 v' (n + 1) (xs ++ [u]) → Below base w0 w1 → wr.grownBy w1 v.ownBlock → (v'.ownBlock = v.ownBlock ∨ v'.ownBlock = some (wr.heap.size + 1)) → wpList P ops Q rest (a.put o.dst v') w1) : wpList P ops Q (o :: rest) a (wr.alloc (.cells #[u] e)) := by
  subst hg
  refine wpList_append_own_at (wr.alloc (.cells #[u] e)) hgd s x t ho base e i z 1 bytes ht hi hz hsize hby hzs (by decide) v n xs hs (hown.alloc _) ⟨wr.heap.size, 0, none⟩ 1 1 [u] hx rfl ?_ ?_ ?_ ?_ (by simp; omega) ?_
  · intro j y hj
    match j, hj with
    | 0, hj =>
      simp at hj
      subst hj
      simp [Addr.add, World.cell?_alloc_new]
  · intro y hy
    simp at hy
    subst hy
    exact hu
  · unfold maxLen; omega
  · have : (n + 1) * bytes ≤ (1099511627776 + 1) * 64 := Nat.mul_le_mul (by omega) hbb
    omega
  · intro v' w1 h1 h2 _ h3
    refine h v' w1 h1 ((hb.alloc hB _).grown h2 (by simp; omega) fun k hk => (hown.lt k hk).1) ?_ (by simpa using h3)
    exact ⟨h2.os, h2.tape, h2.output, Nat.le_trans (by simp) h2.size, fun k hk hne => (h2.block k (by simp; omega) hne).trans (Below.heap_alloc wr _ k hk)⟩

theorem own_below {w w' : World} {base e k n : Nat} {v : Value} {xs : List Value} (h : w.ownsRow base e k v n xs) (hb : Below w.heap.size w w') : w'.ownsRow base e k v n xs :=
  h.kept (row := none) ⟨hb.os, hb.tape, hb.output, hb.size, fun b hb2 _ => hb.block b hb2⟩ (by cases hv : v.ownBlock <;> simp)

/-- A slice of slices under way: v owns the outer row, the rows lie in blocks of their own. -/
def Bld {α : Type} (w : World) (lo E2 E : Nat) (f : α → Value) (v : Value) (k : Nat) (xss : List (List α)) : Prop :=
  ∃ vs : List Value, w.ownsRow lo E2 1 v k vs ∧ Rws w lo w.heap.size E f vs xss ∧ ∀ u ∈ vs, u.ownBlock = none ∨ u.ownBlock ≠ v.ownBlock

section
variable {α : Type} {w w' w8 : World} {lo E2 E k : Nat} {f : α → Value} {v v' : Value} {xss : List (List α)}
theorem Bld.own (h : Bld w lo E2 E f v k xss) : ∃ vs, w.ownsRow lo E2 1 v k vs ∧ vs.length = k := by
  obtain ⟨vs, h1, -, -⟩ := h
  exact ⟨vs, h1, by simpa using h1.1⟩
theorem Bld.nil (w : World) (lo E2 E : Nat) (f : α → Value) (v : Value) (h : w.ownsRow lo E2 1 v 0 []) : Bld w lo E2 E f v 0 ([] : List (List α)) := ⟨[], h, Rws.nil _ _ _ _ _, fun u hu => by cases hu⟩
theorem Bld.below (h : Bld w lo E2 E f v k xss) (hb : Below w.heap.size w w') : Bld w' lo E2 E f v k xss := by
  obtain ⟨vs, h1, h2, h3⟩ := h
  refine ⟨vs, h1.kept (row := none) ⟨hb.os, hb.tape, hb.output, hb.size, fun b hb2 _ => hb.block b hb2⟩ (by cases hv : v.ownBlock <;> simp), (h2.below (Nat.le_refl _) hb).more hb.size, h3⟩
/-- One row more: it lies in blocks from hi0 on, where the outer row and the others end. -/
theorem Bld.app {hi0 : Nat} {vs : List Value} (h1 : w.ownsRow lo E2 1 v k vs) (h2 : Rws w lo hi0 E f vs xss) (h3 : ∀ u ∈ vs, u.ownBlock = none ∨ u.ownBlock ≠ v.ownBlock)
    (hv0 : ∀ b, v.ownBlock = some b → b < hi0) (hhi : hi0 ≤ w.heap.size) (hlo : lo ≤ hi0)
    {A1 : Option Addr} {n1 c1 : Nat} {xs : List α} (hO : Ow w hi0 E f A1 n1 c1 xs) (hub : ∀ b, (Value.slice A1 n1 c1).ownBlock = some b → hi0 ≤ b ∧ b < w.heap.size)
    (hO8 : w8.ownsRow lo E2 1 v' (k + 1) (vs ++ [.slice A1 n1 c1])) (hg : w.grownBy w8 v.ownBlock) (hv' : v'.ownBlock = v.ownBlock ∨ v'.ownBlock = some (w.heap.size + 1)) : Bld w8 lo E2 E f v' (k + 1) (xss ++ [xs]) := by
  have hz := hg.size
  have hR : Rws w8 lo w8.heap.size E f vs xss := (h2.keep fun b b1 b2 hbv => hg.block b (by omega) (fun e => by
    obtain ⟨u, hu, hub2⟩ := hbv
    rcases h3 u hu with h | h
    · rw [h] at hub2; cases hub2
    · exact h (hub2.trans e))).more (by omega)
  have hunew : ∀ b, (Value.slice A1 n1 c1).ownBlock = some b → some b ≠ v.ownBlock := fun b hb e => by
    have := hv0 b e.symm
    have := (hub b hb).1
    omega
  refine ⟨vs ++ [.slice A1 n1 c1], hO8, hR.snoc ((hO.keep fun g _ hg2 hA => hg.block g hg2 (hunew g (by subst hA; rfl))).mono hlo) fun b hb => ?_, fun u hu => ?_⟩
  · obtain ⟨e1, e2⟩ := hub b hb
    refine ⟨by omega, by omega, fun u hu e => ?_⟩
    obtain ⟨j, hj⟩ := List.getElem?_of_mem hu
    obtain ⟨_, A, n', c', -, rfl, -, hbl⟩ := h2.at_ hj
    have := (hbl _ e).2
    omega
  · rcases List.mem_append.1 hu with hu | hu
    · rcases hv' with e | e
      · rw [e]; exact h3 u hu
      · rw [e]
        obtain ⟨j, hj⟩ := List.getElem?_of_mem hu
        obtain ⟨_, A, n', c', -, rfl, -, hbl⟩ := h2.at_ hj
        cases hb : (Value.slice A n' c').ownBlock with
        | none => exact .inl rfl
        | some b =>
          have := (hbl b hb).2
          right
          intro e2
          injection e2 with e2
          omega
    · simp only [List.mem_singleton] at hu
      subst hu
      cases hb : (Value.slice A1 n1 c1).ownBlock with
      | none => exact .inl rfl
      | some b =>
        right
        rcases hv' with e | e
        · rw [e]; exact hunew b hb
        · rw [e]
          have := (hub b hb).2
          intro e2
          injection e2 with e2
          omega
theorem Bld.ow2 (h : Bld w lo E2 E f v k xss) : ∃ A c, v = .slice A k c ∧ Ow2 w lo w.heap.size E2 E f A k c xss := by
  obtain ⟨vs, h1, h2, h3⟩ := h
  have h1' : w.ownsRow lo E2 1 v k (vs.map id) := by simpa using h1
  obtain ⟨A, c, rfl, hO⟩ := Ow.of_own h1'
  exact ⟨A, c, rfl, vs, hO, h2, fun b o hA => by
    subst hA
    exact (h1.lt b rfl).2⟩
end
end Go.Proofs.Ytlpbmnmhpknppaa
