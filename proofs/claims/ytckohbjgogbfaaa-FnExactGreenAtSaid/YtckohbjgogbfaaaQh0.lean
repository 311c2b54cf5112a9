/- The opening of a Plan. -/
import Derived.Test.YtckohbjgogbfaaaQa1
import Derived.Test.YtckohbjgogbfaaaBc
import Derived.Deep.Slices
import Derived.Deep.Fields
import Derived.ChangeSame
set_option linter.unusedVariables false
set_option linter.unusedSimpArgs false
namespace Go.Proofs.Ytckohbjgogbfaaa
open Go.ChangeShapes Go.WideShapes Go.ChangeAt Go.RowKit Go.Joins Go.Deep

section
variable {H : Type} {enc : TypeId × Value → H} {P : Program} {w : World} {base : Nat} {spare : Nat → Bool} {held : Bool}
theorem open_slice_fields {t e : TypeId} {fs : Array Field} {fuel : Nat} {cs : List Value} {x : DataW H × List MemPlace} (ht : P.underlying t = some (.slice e)) (he : P.underlying e = some (.struct fs))
    (hone : oneCellFields P fs = true) (hC : P.cellsOf e = fs.size) (h : DataW.trod enc P w base spare held fuel t cs = some x) :
    (cs = [.slice none 0 0] ∧ x = (.nil, [])) ∨
    ∃ (a : Addr) (len cap m : Nat), cs = [.slice (some a) len cap] ∧ len ≤ cap ∧ cap ≤ maxLen ∧ m = (if spare a.block then cap else len) ∧
      ∀ i, i < m → ∃ (n : Nat), ∀ (j : Nat) (f : Field), fs[j]? = some f → ∃ (v : Value) (y : DataW H × List MemPlace), w.cell? (a.add (i * fs.size + j)) = some v ∧ DataW.trod enc P w base spare held n f.type [v] = some y := by
  rcases open_slice ht h with h0 | ⟨a, len, cap, m, n, D, Pl, hcs, hb, hl, hm, hmm, hx, hi⟩
  · exact .inl h0
  · refine .inr ⟨a, len, cap, m, hcs, hl, hm, hmm, fun i him => ?_⟩
    obtain ⟨cs', hc, ht'⟩ := hi i him
    rw [hC] at hc
    obtain ⟨ys, n', hn', hy, hlen, hyl, hf⟩ := DataW.trod_struct he ht'
    obtain ⟨_, hcl, hat⟩ := World.cells?_some hc
    refine ⟨n', fun j f hj => ?_⟩
    obtain ⟨ho, hk⟩ := hone_of hone j f hj
    have hjl : j < fs.size := (Array.getElem?_eq_some_iff.1 hj).1
    have hcell := hat j hjl
    have hv : cs'[j]? = some (cs'[j]'(by omega)) := List.getElem?_eq_getElem (by omega)
    have h1 := hf j f hj
    rw [ho, hk] at h1
    have hone' : (cs'.drop j).take 1 = [cs'[j]'(by omega)] := by
      rw [List.drop_eq_getElem_cons (by omega)]
      rfl
    rw [hone'] at h1
    have hys : ys[j]? = some (ys[j]'(by omega)) := List.getElem?_eq_getElem (by omega)
    refine ⟨_, _, ?_, h1.trans hys⟩
    rw [← Go.Deep.add_add, hcell, hv]
end
section
variable {H : Type} {enc : TypeId × Value → H} {P : Program} {w : World} {base : Nat} {held : Bool}
theorem open_Ints' {t e : TypeId} {v : Value} {fuel : Nat} {x : DataW H × List MemPlace} (ht : P.underlying t = some (.slice e)) (he : P.underlying e = some (.int .i64)) (hC : P.cellsOf e = 1)
    (hf : DataW.trod enc P w base (fun _ => true) held fuel t [v] = some x) : ∃ (A : Option Addr) (n c : Nat) (xs : List Int), v = .slice A n c ∧ Sl w w.heap.size ILit A n c xs := by
  rcases open_ints ht he hC hf with ⟨hcs, _⟩ | ⟨a, len, cap, zs, hcs, _, hl, hm, hz, _, hcell, hwz⟩
  · simp at hcs
    subst hcs
    exact ⟨none, 0, 0, [], rfl, Sl.nil _ _ _⟩
  · simp at hcs
    subst hcs
    simp only [if_true] at hz
    refine ⟨some a, len, cap, zs.take len, rfl, sl_of_cells (by rw [List.length_take]; omega) hl hm (fun j x hj => ?_)⟩
    rw [List.getElem?_take] at hj
    split at hj
    · have hj2 : j < zs.length := by omega
      have := hcell j hj2
      rw [List.getD_eq_getElem?_getD, hj] at this
      exact this
    · cases hj
theorem open_Stages {t e i : TypeId} {v : Value} {fuel : Nat} {x : DataW H × List MemPlace} {f0 f1 : Field} (ht : P.underlying t = some (.slice e)) (he : P.underlying e = some (.struct #[f0, f1])) (hone : oneCellFields P #[f0, f1] = true) (hC : P.cellsOf e = 2)
    (h0 : P.underlying f0.type = some (.slice i)) (hi : P.underlying i = some (.int .i64)) (ci : P.cellsOf i = 1) (h1 : P.underlying f1.type = some (.int .i64))
    (hf : DataW.trod enc P w base (fun _ => true) held fuel t [v] = some x) : ∃ (A : Option Addr) (n c : Nat) (ss : List (List Int × Int)), v = .slice A n c ∧ SlS w w.heap.size A n c ss := by
  rcases open_slice_fields ht he hone hC hf with ⟨hcs, _⟩ | ⟨a, len, cap, m, hcs, hl, hm, hmm, hcell⟩
  · simp at hcs
    subst hcs
    exact ⟨none, 0, 0, [], rfl, SlS.nil _ _⟩
  · simp at hcs
    subst hcs
    simp only [if_true] at hmm
    have hst : ∀ j, j < len → ∃ (s : List Int × Int) (A' : Option Addr) (n' c' : Nat), w.cell? (a.add (j * 2)) = some (.slice A' n' c') ∧ w.cell? (a.add (j * 2 + 1)) = some (.int .i64 s.2) ∧ Sl w w.heap.size ILit A' n' c' s.1 := fun j hj => by
      obtain ⟨n, hn⟩ := hcell j (by omega)
      obtain ⟨v0, y0, c0, t0⟩ := hn 0 f0 rfl
      obtain ⟨v1, y1, c1, t1⟩ := hn 1 f1 rfl
      obtain ⟨A', n', c', xs, rfl, hS⟩ := open_Ints' h0 hi ci t0
      obtain ⟨z, e1, -, -⟩ := DataW.trod_int h1 t1
      simp at e1
      subst e1
      exact ⟨(xs, z), A', n', c', by simpa using c0, by simpa using c1, hS⟩
    have hall : ∀ k, k ≤ len → ∃ ss : List (List Int × Int), ss.length = k ∧ ∀ (j : Nat) (s : List Int × Int), ss[j]? = some s → ∃ (A' : Option Addr) (n' c' : Nat), w.cell? (a.add (j * 2)) = some (.slice A' n' c') ∧ w.cell? (a.add (j * 2 + 1)) = some (.int .i64 s.2) ∧ Sl w w.heap.size ILit A' n' c' s.1 := by
      intro k
      induction k with
      | zero => intro _; exact ⟨[], rfl, fun j s h => by simp at h⟩
      | succ k ih =>
        intro hk
        obtain ⟨ss, e1, e2⟩ := ih (by omega)
        obtain ⟨s0, hs0⟩ := hst k (by omega)
        refine ⟨ss ++ [s0], by simp [e1], fun j s hs => ?_⟩
        rcases Nat.lt_or_ge j k with hl2 | hl2
        · rw [List.getElem?_append_left (by omega)] at hs
          exact e2 j s hs
        · have hj : j = k := by
            have := (List.getElem?_eq_some_iff.1 hs).1
            simp at this; omega
          subst hj
          rw [List.getElem?_append_right (by omega), e1, Nat.sub_self] at hs
          simp at hs
          subst hs
          exact hs0
    obtain ⟨ss, e1, e2⟩ := hall len (Nat.le_refl _)
    refine ⟨some a, len, cap, ss, rfl, e1, hl, by unfold maxLen at hm; exact hm, fun hp => ?_⟩
    obtain ⟨A0, n0, c0, d0, -, -⟩ := e2 0 ss[0] (List.getElem?_eq_getElem (by omega))
    obtain ⟨b, o, sp⟩ := a
    have hsp : sp = none := by simpa [Addr.add] using World.cell?_spot d0
    subst hsp
    have hlt := World.block_lt_of_cell? w _ d0
    refine ⟨b, o, rfl, by simpa [Addr.add] using hlt, fun j s hs => ?_⟩
    obtain ⟨A', n', c', k1, k2, k3⟩ := e2 j s hs
    rw [Addr.add_lit] at k1 k2
    exact ⟨A', n', c', k1, by rw [Nat.add_assoc]; exact k2, k3⟩
theorem open_IntSS' {t e q : TypeId} {v : Value} {fuel : Nat} {x : DataW H × List MemPlace} (ht : P.underlying t = some (.slice e)) (he : P.underlying e = some (.slice q)) (hq : P.underlying q = some (.int .i64)) (ce : P.cellsOf e = 1) (cq : P.cellsOf q = 1)
    (hf : DataW.trod enc P w base (fun _ => true) held fuel t [v] = some x) : ∃ (A : Option Addr) (n c : Nat) (xss : List (List Int)), v = .slice A n c ∧ Sl2 w w.heap.size ILit A n c xss := by
  rcases open_int_rows ht he hq ce cq hf with ⟨hcs, _⟩ | ⟨a, len, cap, A', L, C, Z, hcs, _, hl, hm, _, hcell⟩
  · simp at hcs
    subst hcs
    exact ⟨none, 0, 0, [], rfl, Sl2.nil _ _ _⟩
  · simp at hcs
    subst hcs
    refine ⟨some a, len, cap, (List.range len).map fun r => (List.range (L r)).map fun i => (Z r).getD i 0, rfl, sl2_of_cells (by simp) hl hm (fun j xs hj => ?_)⟩
    rw [List.getElem?_map] at hj
    by_cases hjn : j < len
    · rw [List.getElem?_range hjn] at hj
      simp at hj
      subst hj
      obtain ⟨h1, h2, h3, hZ, hw, h4, h5⟩ := hcell j (by omega)
      refine ⟨A' j, L j, C j, h1, ?_⟩
      cases hA : A' j with
      | none =>
        have hC := h4 hA
        have hL : L j = 0 := by omega
        rw [hC, hL]
        exact Sl.nil _ _ _
      | some a' =>
        refine sl_of_cells (by simp) h2 h3 (fun i x hi => ?_)
        rw [List.getElem?_map] at hi
        by_cases hil : i < L j
        · rw [List.getElem?_range hil] at hi
          simp at hi
          subst hi
          simpa [ILit] using (h5 a' hA).2 i (by omega)
        · rw [List.getElem?_eq_none (by simp; omega)] at hi
          cases hi
    · rw [List.getElem?_eq_none (by simp; omega)] at hj
      cases hj
end
theorem open_PlanTry {H : Type} {enc : TypeId × Value → H} {w : World} {base : Nat} {held : Bool} {r : Reach} {b0 : Nat} {v : Value} {d : DataW H} {p : List MemPlace}
    (hv : Value.okWide Try.prog w r b0 42 v) (h : DataW.Trod enc Try.prog w base (fun _ => true) held 42 v d p) :
    ∃ (A : Option Addr) (n c : Nat) (S : Option Addr) (m k : Nat) (t : List (List Int)) (ss : List (List Int × Int)), v = .agg #[.slice A n c, .slice S m k] ∧ Sl2 w w.heap.size ILit A n c t ∧ SlS w w.heap.size S m k ss := by
  obtain ⟨v0, v1, y0, y1, fu, rfl, -, -, h0, h1⟩ := open_agg2 Try.underlying42 (by kernel_rfl) (by kernel_rfl) hv h
  obtain ⟨A, n, c, t, rfl, hT⟩ := open_IntSS' Try.underlying23 Try.underlying29 Try.underlying3 (by kernel_rfl) (by kernel_rfl) h0
  obtain ⟨S, m, k, ss, rfl, hS⟩ := open_Stages Try.underlying40 Try.underlying82 (by kernel_rfl) (by kernel_rfl) Try.underlying29 Try.underlying3 (by kernel_rfl) Try.underlying3 h1
  exact ⟨A, n, c, S, m, k, t, ss, rfl, hT, hS⟩
end Go.Proofs.Ytckohbjgogbfaaa
