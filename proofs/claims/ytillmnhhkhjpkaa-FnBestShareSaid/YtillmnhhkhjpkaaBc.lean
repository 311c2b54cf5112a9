/- My words and contracts, laid together: Gr, Gi, G2, G3, G4, G5, Eq, Eqb, Sh, Mix, Srt, Grd. -/
import Derived.Test.YtillmnhhkhjpkaaBa
import Derived.Test.YtillmnhhkhjpkaaBb
import Derived.Maps.AppendAt
set_option linter.unusedVariables false
set_option linter.unusedSimpArgs false
/- Slices of slices: 'Sl2 w B f A n c xss'; the opening of [][]bool and [][]int. -/
namespace Go.Proofs.Ytillmnhhkhjpkaa
open Go.ChangeShapes Go.WideShapes Go.ChangeAt Go.RowKit Go.Joins Go.Deep

/-- The slice (A, n, c) of slices, whose rows hold the lists of xss; all blocks below B. -/
def Sl2 {α : Type} (w : World) (B : Nat) (f : α → Value) (A : Option Addr) (n c : Nat) (xss : List (List α)) : Prop :=
  xss.length = n ∧ n ≤ c ∧ c ≤ 9223372036854775807 ∧
  (0 < n → ∃ b o, A = some ⟨b, o, none⟩ ∧ b < B ∧ ∀ (j : Nat) (xs : List α), xss[j]? = some xs → ∃ A' n' c', w.cell? ⟨b, o + j, none⟩ = some (.slice A' n' c') ∧ Sl w B f A' n' c' xs)

section
variable {α : Type} {w w' : World} {B B' n c : Nat} {f : α → Value} {A : Option Addr} {xss : List (List α)}
theorem Sl2.len (h : Sl2 w B f A n c xss) : xss.length = n := h.1
theorem Sl2.cap (h : Sl2 w B f A n c xss) : n ≤ c ∧ c ≤ 9223372036854775807 := ⟨h.2.1, h.2.2.1⟩
theorem Sl2.at_ (h : Sl2 w B f A n c xss) {k : Nat} (hk : k < n) : ∃ b o xs A' n' c', A = some ⟨b, o, none⟩ ∧ b < B ∧ xss[k]? = some xs ∧ w.cell? ⟨b, o + k, none⟩ = some (.slice A' n' c') ∧ Sl w B f A' n' c' xs := by
  obtain ⟨h1, _, _, h4⟩ := h
  obtain ⟨b, o, hA, hb, hc⟩ := h4 (by omega)
  have hl : k < xss.length := by omega
  obtain ⟨A', n', c', e1, e2⟩ := hc k _ (List.getElem?_eq_getElem hl)
  exact ⟨b, o, xss[k], A', n', c', hA, hb, List.getElem?_eq_getElem hl, e1, e2⟩
theorem Sl2.more (h : Sl2 w B f A n c xss) (hB : B ≤ B') : Sl2 w B' f A n c xss := by
  obtain ⟨h1, h2, h3, h4⟩ := h
  refine ⟨h1, h2, h3, fun hn => ?_⟩
  obtain ⟨b, o, hA, hb, hc⟩ := h4 hn
  refine ⟨b, o, hA, by omega, fun j xs hj => ?_⟩
  obtain ⟨A', n', c', e1, e2⟩ := hc j xs hj
  exact ⟨A', n', c', e1, e2.more hB⟩
theorem Sl2.keep (h : Sl2 w B f A n c xss) (hk : ∀ b o, b < B → w'.cell? ⟨b, o, none⟩ = w.cell? ⟨b, o, none⟩) : Sl2 w' B f A n c xss := by
  obtain ⟨h1, h2, h3, h4⟩ := h
  refine ⟨h1, h2, h3, fun hn => ?_⟩
  obtain ⟨b, o, hA, hb, hc⟩ := h4 hn
  refine ⟨b, o, hA, hb, fun j xs hj => ?_⟩
  obtain ⟨A', n', c', e1, e2⟩ := hc j xs hj
  exact ⟨A', n', c', (hk _ _ hb).trans e1, e2.keep hk⟩
theorem Sl2.below (h : Sl2 w B f A n c xss) (hb : Below B w w') : Sl2 w' B f A n c xss := h.keep fun b i hlt => hb.cell (p := ⟨b, i, none⟩) hlt
theorem Sl2.nil (w : World) (B : Nat) (f : α → Value) : Sl2 w B f none 0 0 ([] : List (List α)) := ⟨rfl, Nat.le_refl _, by omega, fun h => absurd h (by omega)⟩
end

section
variable {H : Type} {enc : TypeId × Value → H} {P : Program} {w : World} {base : Nat} {held : Bool}
theorem sl2_of_cells {α : Type} {f : α → Value} {a : Addr} {n c : Nat} {xss : List (List α)} (hl : xss.length = n) (hn : n ≤ c) (hc : c ≤ maxLen)
    (hx : ∀ (j : Nat) (xs : List α), xss[j]? = some xs → ∃ A' n' c', w.cell? (a.add j) = some (.slice A' n' c') ∧ Sl w w.heap.size f A' n' c' xs) : Sl2 w w.heap.size f (some a) n c xss := by
  refine ⟨hl, hn, by unfold maxLen at hc; exact hc, fun hp => ?_⟩
  obtain ⟨A0, n0, c0, h0, -⟩ := hx 0 xss[0] (List.getElem?_eq_getElem (by omega))
  obtain ⟨b, o, sp⟩ := a
  have hsp : sp = none := by simpa [Addr.add] using World.cell?_spot h0
  subst hsp
  have hlt := World.block_lt_of_cell? w _ h0
  refine ⟨b, o, rfl, by simpa [Addr.add] using hlt, fun j xs hj => ?_⟩
  obtain ⟨A', n', c', this, h2⟩ := hx j xs hj
  refine ⟨A', n', c', ?_, h2⟩
  unfold Addr.add at this
  split at this
  · subst_vars; simpa using this
  · exact this

theorem open_BoolSS {r : Reach} {b0 : Nat} {t e q : TypeId} {v : Value} {d : DataW H} {p : List MemPlace} (ht : P.underlying t = some (.slice e)) (he : P.underlying e = some (.slice q)) (hq : P.underlying q = some .bool) (ce : P.cellsOf e = 1) (cq : P.cellsOf q = 1)
    (hv : Value.okWide P w r b0 t v) (h : DataW.Trod enc P w base (fun _ => true) held t v d p) :
    ∃ (A : Option Addr) (n c : Nat) (xss : List (List Bool)), v = .slice A n c ∧ Sl2 w w.heap.size OLit A n c xss := by
  obtain ⟨A, n, c, rfl⟩ := okWide_slice ht hv
  obtain ⟨fuel, hf⟩ := h
  rcases open_bool_rows ht he hq ce cq hf with ⟨hcs, _⟩ | ⟨a, len, cap, A', L, C, Bf, hcs, _, hl, hm, _, hcell⟩
  · simp [Value.cells] at hcs
    obtain ⟨rfl, rfl, rfl⟩ := hcs
    exact ⟨none, 0, 0, [], rfl, Sl2.nil _ _ _⟩
  · simp [Value.cells] at hcs
    obtain ⟨rfl, rfl, rfl⟩ := hcs
    refine ⟨some a, n, c, (List.range n).map fun r => (List.range (L r)).map (Bf r), rfl, sl2_of_cells (by simp) hl hm (fun j xs hj => ?_)⟩
    rw [List.getElem?_map] at hj
    by_cases hjn : j < n
    · rw [List.getElem?_range hjn] at hj
      simp at hj
      subst hj
      obtain ⟨h1, h2, h3, h4, h5⟩ := hcell j (by omega)
      refine ⟨A' j, L j, C j, h1, ?_⟩
      cases hA : A' j with
      | none =>
        have hC := h4 hA
        have hL : L j = 0 := by omega
        rw [hC, hL]
        exact Sl.nil _ _ _
      | some a' =>
        refine sl_of_cells (by simp) h2 h3 (fun i x hi => ?_)
        rw [List.getElem?_map] at hi
        by_cases hil : i < L j
        · rw [List.getElem?_range hil] at hi
          simp at hi
          subst hi
          exact (h5 a' hA).2 i (by omega)
        · rw [List.getElem?_eq_none (by simp; omega)] at hi
          cases hi
    · rw [List.getElem?_eq_none (by simp; omega)] at hj
      cases hj
end
end Go.Proofs.Ytillmnhhkhjpkaa

/- The opening of [][]int. -/
namespace Go.Proofs.Ytillmnhhkhjpkaa
open Go.ChangeShapes Go.WideShapes Go.ChangeAt Go.RowKit Go.Joins Go.Deep
section
variable {H : Type} {enc : TypeId × Value → H} {P : Program} {w : World} {base : Nat} {held : Bool}
theorem open_IntSS {r : Reach} {b0 : Nat} {t e q : TypeId} {v : Value} {d : DataW H} {p : List MemPlace} (ht : P.underlying t = some (.slice e)) (he : P.underlying e = some (.slice q)) (hq : P.underlying q = some (.int .i64)) (ce : P.cellsOf e = 1) (cq : P.cellsOf q = 1)
    (hv : Value.okWide P w r b0 t v) (h : DataW.Trod enc P w base (fun _ => true) held t v d p) :
    ∃ (A : Option Addr) (n c : Nat) (xss : List (List Int)), v = .slice A n c ∧ Sl2 w w.heap.size ILit A n c xss := by
  obtain ⟨A, n, c, rfl⟩ := okWide_slice ht hv
  obtain ⟨fuel, hf⟩ := h
  rcases open_int_rows ht he hq ce cq hf with ⟨hcs, _⟩ | ⟨a, len, cap, A', L, C, Z, hcs, _, hl, hm, _, hcell⟩
  · simp [Value.cells] at hcs
    obtain ⟨rfl, rfl, rfl⟩ := hcs
    exact ⟨none, 0, 0, [], rfl, Sl2.nil _ _ _⟩
  · simp [Value.cells] at hcs
    obtain ⟨rfl, rfl, rfl⟩ := hcs
    refine ⟨some a, n, c, (List.range n).map fun r => (List.range (L r)).map fun i => (Z r).getD i 0, rfl, sl2_of_cells (by simp) hl hm (fun j xs hj => ?_)⟩
    rw [List.getElem?_map] at hj
    by_cases hjn : j < n
    · rw [List.getElem?_range hjn] at hj
      simp at hj
      subst hj
      obtain ⟨h1, h2, h3, hZ, hw, h4, h5⟩ := hcell j (by omega)
      refine ⟨A' j, L j, C j, h1, ?_⟩
      cases hA : A' j with
      | none =>
        have hC := h4 hA
        have hL : L j = 0 := by omega
        rw [hC, hL]
        exact Sl.nil _ _ _
      | some a' =>
        refine sl_of_cells (by simp) h2 h3 (fun i x hi => ?_)
        rw [List.getElem?_map] at hi
        by_cases hil : i < L j
        · rw [List.getElem?_range hil] at hi
          simp at hi
          subst hi
          simpa [ILit] using (h5 a' hA).2 i (by omega)
        · rw [List.getElem?_eq_none (by simp; omega)] at hi
          cases hi
    · rw [List.getElem?_eq_none (by simp; omega)] at hj
      cases hj
end
end Go.Proofs.Ytillmnhhkhjpkaa

/- Slices of slices that the call itself made: 'Ow2'; from them 'Sl2'. -/
namespace Go.Proofs.Ytillmnhhkhjpkaa
open Go.RowKit

/-- Rows: each value of vs is a slice at the head of a block of its own in lo..hi-1 (element type E), which holds the list of xss at its place; no two share a block. -/
def Rws {α : Type} (w : World) (lo hi E : Nat) (f : α → Value) (vs : List Value) (xss : List (List α)) : Prop :=
  vs.length = xss.length ∧
  (∀ (j : Nat) (v : Value) (xs : List α), vs[j]? = some v → xss[j]? = some xs → ∃ A n c, v = .slice A n c ∧ Ow w lo E f A n c xs ∧ ∀ b, v.ownBlock = some b → lo ≤ b ∧ b < hi) ∧
  vs.Pairwise (fun u v => u.ownBlock = none ∨ u.ownBlock ≠ v.ownBlock)

/-- A slice of slices of the call's own, all blocks in lo..hi-1, the outer one of element type E2. -/
def Ow2 {α : Type} (w : World) (lo hi E2 E : Nat) (f : α → Value) (A : Option Addr) (n c : Nat) (xss : List (List α)) : Prop :=
  ∃ vs : List Value, Ow w lo E2 id A n c vs ∧ Rws w lo hi E f vs xss ∧ (∀ b o, A = some ⟨b, o, none⟩ → b < hi)

section
variable {α : Type} {w w' : World} {lo hi E E2 n c : Nat} {f : α → Value} {A : Option Addr} {xss : List (List α)} {vs : List Value}

theorem Rws.nil (w : World) (lo hi E : Nat) (f : α → Value) : Rws w lo hi E f [] ([] : List (List α)) := ⟨rfl, fun j v xs h => (by cases h), List.Pairwise.nil⟩
theorem Rws.at_ (h : Rws w lo hi E f vs xss) {j : Nat} {v : Value} (hj : vs[j]? = some v) : ∃ xs A n c, xss[j]? = some xs ∧ v = .slice A n c ∧ Ow w lo E f A n c xs ∧ ∀ b, v.ownBlock = some b → lo ≤ b ∧ b < hi := by
  have hl := (List.getElem?_eq_some_iff.1 hj).1
  rw [h.1] at hl
  obtain ⟨A, n, c, e1, e2, e3⟩ := h.2.1 j v xss[j] hj (List.getElem?_eq_getElem hl)
  exact ⟨_, A, n, c, List.getElem?_eq_getElem hl, e1, e2, e3⟩
/-- Kept while the blocks lo..hi-1 of the rows stand. -/
theorem Rws.keep (h : Rws w lo hi E f vs xss) (hk : ∀ b, lo ≤ b → b < hi → (∃ v ∈ vs, v.ownBlock = some b) → w'.heap[b]? = w.heap[b]?) : Rws w' lo hi E f vs xss := by
  refine ⟨h.1, fun j v xs hv hx => ?_, h.2.2⟩
  obtain ⟨A, n, c, rfl, e2, e3⟩ := h.2.1 j v xs hv hx
  refine ⟨A, n, c, rfl, e2.keep fun g _ _ hA => ?_, e3⟩
  subst hA
  obtain ⟨b1, b2⟩ := e3 g rfl
  exact hk g b1 b2 ⟨_, List.mem_of_getElem? hv, rfl⟩
theorem Rws.below (h : Rws w lo hi E f vs xss) (hh : hi ≤ w.heap.size) (hb : Below w.heap.size w w') : Rws w' lo hi E f vs xss := h.keep fun b _ h2 _ => hb.block b (by omega)
theorem Rws.more {hi' : Nat} (h : Rws w lo hi E f vs xss) (hh : hi ≤ hi') : Rws w lo hi' E f vs xss := by
  refine ⟨h.1, fun j v xs hv hx => ?_, h.2.2⟩
  obtain ⟨A, n, c, e1, e2, e3⟩ := h.2.1 j v xs hv hx
  exact ⟨A, n, c, e1, e2, fun b hb => ⟨(e3 b hb).1, by have := (e3 b hb).2; omega⟩⟩
theorem Rws.less {lo' : Nat} (h : Rws w lo hi E f vs xss) (hh : lo' ≤ lo) : Rws w lo' hi E f vs xss := by
  refine ⟨h.1, fun j v xs hv hx => ?_, h.2.2⟩
  obtain ⟨A, n, c, e1, e2, e3⟩ := h.2.1 j v xs hv hx
  exact ⟨A, n, c, e1, e2.mono hh, fun b hb => ⟨by have := (e3 b hb).1; omega, (e3 b hb).2⟩⟩
/-- One row more, in a block of its own. -/
theorem Rws.snoc (h : Rws w lo hi E f vs xss) {A1 : Option Addr} {n1 c1 : Nat} {xs : List α} (hO : Ow w lo E f A1 n1 c1 xs)
    (hb : ∀ b, (Value.slice A1 n1 c1).ownBlock = some b → lo ≤ b ∧ b < hi ∧ ∀ v ∈ vs, v.ownBlock ≠ some b) : Rws w lo hi E f (vs ++ [.slice A1 n1 c1]) (xss ++ [xs]) := by
  have hl := h.1
  refine ⟨by simp [hl], fun j v ys hv hy => ?_, ?_⟩
  · rcases Nat.lt_or_ge j vs.length with hlt | hge
    · rw [List.getElem?_append_left hlt] at hv
      rw [List.getElem?_append_left (by omega)] at hy
      exact h.2.1 j v ys hv hy
    · have hj : j = vs.length := by
        have := (List.getElem?_eq_some_iff.1 hv).1
        simp at this; omega
      subst hj
      simp at hv
      rw [hl] at hy
      simp at hy
      subst hv hy
      exact ⟨A1, n1, c1, rfl, hO, fun b hb' => ⟨(hb b hb').1, (hb b hb').2.1⟩⟩
  · rw [List.pairwise_append]
    refine ⟨h.2.2, List.pairwise_singleton _ _, fun u hu v hv => ?_⟩
    simp at hv
    subst hv
    cases hu2 : u.ownBlock with
    | none => exact .inl rfl
    | some b =>
      refine .inr fun e => ?_
      exact (hb b e.symm).2.2 u hu hu2
/-- One row written anew. -/
theorem Rws.set (h : Rws w lo hi E f vs xss) {j n1 c1 : Nat} {A1 : Option Addr} {ys : List α} (hv : vs[j]? = some (.slice A1 n1 c1)) (hO : Ow w' lo E f A1 n1 c1 ys)
    (hg : ∀ b, b < w.heap.size → (Value.slice A1 n1 c1).ownBlock ≠ some b → w'.heap[b]? = w.heap[b]?) (hs : ∀ b, lo ≤ b → b < hi → b < w.heap.size) : Rws w' lo hi E f vs (xss.set j ys) := by
  refine ⟨by simp [h.1], fun i v xs hi hx => ?_, h.2.2⟩
  rw [List.getElem?_set] at hx
  by_cases hji : j = i
  · subst hji
    rw [if_pos rfl] at hx
    have hl : j < xss.length := by rw [← h.1]; exact (List.getElem?_eq_some_iff.1 hv).1
    rw [if_pos hl] at hx
    injection hx with hx
    subst hx
    rw [hv] at hi
    injection hi with hi
    subst hi
    obtain ⟨A, n, c, e1, e2, e3⟩ := h.2.1 j _ xss[j] hv (List.getElem?_eq_getElem hl)
    exact ⟨A1, n1, c1, rfl, hO, e3⟩
  · rw [if_neg hji] at hx
    obtain ⟨A, n, c, rfl, e2, e3⟩ := h.2.1 i v xs hi hx
    refine ⟨A, n, c, rfl, e2.keep fun g hg1 hg2 hA => ?_, e3⟩
    subst hA
    refine hg g hg2 fun e => ?_
    -- two rows would share the block g
    have hpw := h.2.2
    rw [List.pairwise_iff_getElem] at hpw
    obtain ⟨l1, g1⟩ := List.getElem?_eq_some_iff.1 hv
    obtain ⟨l2, g2⟩ := List.getElem?_eq_some_iff.1 hi
    rcases Nat.lt_or_gt_of_ne hji with hlt | hgt
    · have := hpw j i l1 l2 hlt
      rw [g1, g2, e] at this
      simp [Value.ownBlock] at this
    · have := hpw i j l2 l1 hgt
      rw [g1, g2, e] at this
      simp [Value.ownBlock] at this

theorem Ow2.len (h : Ow2 w lo hi E2 E f A n c xss) : xss.length = n := by
  obtain ⟨vs, h1, h2, -⟩ := h
  rw [← h2.1]; exact h1.len
theorem Ow2.cap (h : Ow2 w lo hi E2 E f A n c xss) : n ≤ c ∧ c ≤ 9223372036854775807 := by
  obtain ⟨vs, h1, h2, -⟩ := h
  exact ⟨h1.2.1, h1.2.2.1⟩
theorem Ow2.sl2 (h : Ow2 w lo hi E2 E f A n c xss) : Sl2 w w.heap.size f A n c xss := by
  have hn := h.len
  obtain ⟨vs, h1, h2, h3⟩ := h
  obtain ⟨e1, e2, e3, e4⟩ := h1.sl
  refine ⟨hn, e2, e3, fun hp => ?_⟩
  obtain ⟨b, o, hA, hb, hc⟩ := e4 hp
  refine ⟨b, o, hA, hb, fun j xs hj => ?_⟩
  have hl := (List.getElem?_eq_some_iff.1 hj).1
  have hl2 : j < vs.length := by rw [h2.1]; exact hl
  obtain ⟨A', n', c', f1, f2, f3⟩ := h2.2.1 j vs[j] xs (List.getElem?_eq_getElem hl2) hj
  refine ⟨A', n', c', ?_, f2.sl⟩
  rw [hc j vs[j] (List.getElem?_eq_getElem hl2), f1]; rfl
theorem Ow2.keep (h : Ow2 w lo hi E2 E f A n c xss) (hk : ∀ b, lo ≤ b → b < hi → b < w.heap.size → w'.heap[b]? = w.heap[b]?) : Ow2 w' lo hi E2 E f A n c xss := by
  obtain ⟨vs, h1, h2, h3⟩ := h
  refine ⟨vs, h1.keep fun g hg hlt hA => hk g hg (h3 g 0 hA) hlt, ?_, h3⟩
  refine ⟨h2.1, fun j v xs hv hx => ?_, h2.2.2⟩
  obtain ⟨A', n', c', rfl, f2, f3⟩ := h2.2.1 j v xs hv hx
  refine ⟨A', n', c', rfl, f2.keep fun g hg hlt hA => ?_, f3⟩
  subst hA
  exact hk g hg (f3 g rfl).2 hlt
theorem Ow2.below (h : Ow2 w lo hi E2 E f A n c xss) (hb : Below w.heap.size w w') : Ow2 w' lo hi E2 E f A n c xss := h.keep fun b _ _ hlt => hb.block b hlt
theorem Ow2.more {hi' : Nat} (h : Ow2 w lo hi E2 E f A n c xss) (hh : hi ≤ hi') : Ow2 w lo hi' E2 E f A n c xss := by
  obtain ⟨vs, h1, h2, h3⟩ := h
  exact ⟨vs, h1, h2.more hh, fun b o hA => by have := h3 b o hA; omega⟩
theorem Ow2.less {lo' : Nat} (h : Ow2 w lo hi E2 E f A n c xss) (hh : lo' ≤ lo) : Ow2 w lo' hi E2 E f A n c xss := by
  obtain ⟨vs, h1, h2, h3⟩ := h
  exact ⟨vs, h1.mono hh, h2.less hh, h3⟩
theorem Ow2.nil (w : World) (lo hi E2 E : Nat) (f : α → Value) : Ow2 w lo hi E2 E f none 0 0 ([] : List (List α)) :=
  ⟨[], Ow.nil _ _ _ _, Rws.nil _ _ _ _ _, fun b o h => by cases h⟩
end

/-- The elements of all rows. -/
def tot {α : Type} : List (List α) → Nat
  | [] => 0
  | xs :: r => xs.length + tot r
theorem tot_take_le {α : Type} (xss : List (List α)) (k : Nat) : tot (xss.take k) ≤ tot xss := by
  induction xss generalizing k with
  | nil => simp
  | cons x r ih =>
    cases k with
    | zero => simp [tot]
    | succ k =>
      have := ih k
      simp only [List.take_succ_cons, tot]; omega
theorem tot_snoc {α : Type} {xss : List (List α)} {k : Nat} {xs : List α} (h : xss[k]? = some xs) : tot (xss.take (k + 1)) = tot (xss.take k) + xs.length := by
  induction xss generalizing k with
  | nil => cases h
  | cons x r ih =>
    cases k with
    | zero =>
      simp at h
      subst h
      simp [tot]
    | succ k =>
      simp only [List.getElem?_cons_succ] at h
      have := ih h
      simp only [List.take_succ_cons, tot]; omega
theorem tot_all {α : Type} (xss : List (List α)) : tot (xss.take xss.length) = tot xss := by rw [List.take_length]
theorem tot_at {α : Type} {xss : List (List α)} {k : Nat} {xs : List α} (h : xss[k]? = some xs) : xs.length ≤ tot xss := by
  have h1 := tot_snoc h
  have h2 := tot_take_le xss (k + 1)
  omega

/-- What sz.. returns. -/
def szV {α : Type} (xss : List (List α)) (left : Int) : Int := if (xss.length : Int) + tot xss ≤ left then left - xss.length - tot xss else -1
theorem szV_le {α : Type} {xss : List (List α)} {left : Int} (h : 0 ≤ szV xss left) : (xss.length : Int) + tot xss ≤ left := by
  unfold szV at h
  split at h
  · assumption
  · omega
theorem szV_bd {α : Type} (xss : List (List α)) {left : Int} (h : 0 ≤ left) : szV xss left ≤ left ∧ -1 ≤ szV xss left := by
  unfold szV
  split <;> omega
theorem Ow2.past {α : Type} {w w' : World} {lo hi hi' E E2 n c : Nat} {f : α → Value} {A : Option Addr} {xss : List (List α)} (h : Ow2 w lo hi E2 E f A n c xss) (hk : ∀ b, hi' ≤ b → b < w.heap.size → w'.heap[b]? = w.heap[b]?) (hb : hi' ≤ lo) : Ow2 w' lo hi E2 E f A n c xss :=
  h.keep fun b h1 _ h2 => hk b (by omega) h2
end Go.Proofs.Ytillmnhhkhjpkaa

/- Slices of slices that are built by appends: the outer row's block is none of the rows'. -/
namespace Go.Proofs.Ytillmnhhkhjpkaa
open Go.RowKit

/-- 'out = append(out, u)' as wpList_app1 has it, and where the new row lies. -/
theorem wpList_app1_at {P : Program} (w0 wr : World) {ops : Array Oper} {rest : List Oper} {o : Oper} {a : Act} {Q : Exit → Act → World → Prop} (hgd : o.guard = none) (s x : Operand) (t : TypeId)
    (ho : o.op = .call { callee := .builtin .append, args := #[s, x], argTypes := #[t, t] })
    (e : TypeId) (i : TypeInfo) (z : Value) (bytes : Nat) (ht : P.underlying t = some (.slice e)) (hi : P.info? e = some i) (hz : i.zero = some z) (hsize : i.size = 1) (hby : i.bytes = bytes) (hzs : z.cells.size = 1) (hbb : bytes ≤ 64)
    (base : Nat) (v : Value) (n : Nat) (xs : List Value) (hs : a.eval s = v) (hown : wr.ownsRow base e 1 v n xs) (u : Value) (hu : u.oneCell' = true) (g : Nat) (hx : a.eval x = .slice (some ⟨g, 0, none⟩) 1 1) (hg : g = wr.heap.size)
    (hn : n ≤ 1099511627776) (hb : Below base w0 wr) (hB : base ≤ wr.heap.size)
    (h : ∀ v' w1, w1.ownsRow base e 1 v' (n + 1) (xs ++ [u]) → Below base w0 w1 → wr.grownBy w1 v.ownBlock → (v'.ownBlock = v.ownBlock ∨ v'.ownBlock = some (wr.heap.size + 1)) → wpList P ops Q rest (a.put o.dst v') w1) : wpList P ops Q (o :: rest) a (wr.alloc (.cells #[u] e)) := by
  subst hg
  refine wpList_append_own_at (wr.alloc (.cells #[u] e)) hgd s x t ho base e i z 1 bytes ht hi hz hsize hby hzs (by decide) v n xs hs (hown.alloc _) ⟨wr.heap.size, 0, none⟩ 1 1 [u] hx rfl ?_ ?_ ?_ ?_ (by simp; omega) ?_
  · intro j y hj
    match j, hj with
    | 0, hj =>
      simp at hj
      subst hj
      simp [Addr.add, World.cell?_alloc_new]
  · intro y hy
    simp at hy
    subst hy
    exact hu
  · unfold maxLen; omega
  · have : (n + 1) * bytes ≤ (1099511627776 + 1) * 64 := Nat.mul_le_mul (by omega) hbb
    omega
  · intro v' w1 h1 h2 _ h3
    refine h v' w1 h1 ((hb.alloc hB _).grown h2 (by simp; omega) fun k hk => (hown.lt k hk).1) ?_ (by simpa using h3)
    exact ⟨h2.os, h2.tape, h2.output, Nat.le_trans (by simp) h2.size, fun k hk hne => (h2.block k (by simp; omega) hne).trans (Below.heap_alloc wr _ k hk)⟩

theorem own_below {w w' : World} {base e k n : Nat} {v : Value} {xs : List Value} (h : w.ownsRow base e k v n xs) (hb : Below w.heap.size w w') : w'.ownsRow base e k v n xs :=
  h.kept (row := none) ⟨hb.os, hb.tape, hb.output, hb.size, fun b hb2 _ => hb.block b hb2⟩ (by cases hv : v.ownBlock <;> simp)

/-- A slice of slices under way: v owns the outer row, the rows lie in blocks of their own. -/
def Bld {α : Type} (w : World) (lo E2 E : Nat) (f : α → Value) (v : Value) (k : Nat) (xss : List (List α)) : Prop :=
  ∃ vs : List Value, w.ownsRow lo E2 1 v k vs ∧ Rws w lo w.heap.size E f vs xss ∧ ∀ u ∈ vs, u.ownBlock = none ∨ u.ownBlock ≠ v.ownBlock

section
variable {α : Type} {w w' w8 : World} {lo E2 E k : Nat} {f : α → Value} {v v' : Value} {xss : List (List α)}
theorem Bld.own (h : Bld w lo E2 E f v k xss) : ∃ vs, w.ownsRow lo E2 1 v k vs ∧ vs.length = k := by
  obtain ⟨vs, h1, -, -⟩ := h
  exact ⟨vs, h1, by simpa using h1.1⟩
theorem Bld.nil (w : World) (lo E2 E : Nat) (f : α → Value) (v : Value) (h : w.ownsRow lo E2 1 v 0 []) : Bld w lo E2 E f v 0 ([] : List (List α)) := ⟨[], h, Rws.nil _ _ _ _ _, fun u hu => by cases hu⟩
theorem Bld.below (h : Bld w lo E2 E f v k xss) (hb : Below w.heap.size w w') : Bld w' lo E2 E f v k xss := by
  obtain ⟨vs, h1, h2, h3⟩ := h
  refine ⟨vs, h1.kept (row := none) ⟨hb.os, hb.tape, hb.output, hb.size, fun b hb2 _ => hb.block b hb2⟩ (by cases hv : v.ownBlock <;> simp), (h2.below (Nat.le_refl _) hb).more hb.size, h3⟩
/-- One row more: it lies in blocks from hi0 on, where the outer row and the others end. -/
theorem Bld.app {hi0 : Nat} {vs : List Value} (h1 : w.ownsRow lo E2 1 v k vs) (h2 : Rws w lo hi0 E f vs xss) (h3 : ∀ u ∈ vs, u.ownBlock = none ∨ u.ownBlock ≠ v.ownBlock)
    (hv0 : ∀ b, v.ownBlock = some b → b < hi0) (hhi : hi0 ≤ w.heap.size) (hlo : lo ≤ hi0)
    {A1 : Option Addr} {n1 c1 : Nat} {xs : List α} (hO : Ow w hi0 E f A1 n1 c1 xs) (hub : ∀ b, (Value.slice A1 n1 c1).ownBlock = some b → hi0 ≤ b ∧ b < w.heap.size)
    (hO8 : w8.ownsRow lo E2 1 v' (k + 1) (vs ++ [.slice A1 n1 c1])) (hg : w.grownBy w8 v.ownBlock) (hv' : v'.ownBlock = v.ownBlock ∨ v'.ownBlock = some (w.heap.size + 1)) : Bld w8 lo E2 E f v' (k + 1) (xss ++ [xs]) := by
  have hz := hg.size
  have hR : Rws w8 lo w8.heap.size E f vs xss := (h2.keep fun b b1 b2 hbv => hg.block b (by omega) (fun e => by
    obtain ⟨u, hu, hub2⟩ := hbv
    rcases h3 u hu with h | h
    · rw [h] at hub2; cases hub2
    · exact h (hub2.trans e))).more (by omega)
  have hunew : ∀ b, (Value.slice A1 n1 c1).ownBlock = some b → some b ≠ v.ownBlock := fun b hb e => by
    have := hv0 b e.symm
    have := (hub b hb).1
    omega
  refine ⟨vs ++ [.slice A1 n1 c1], hO8, hR.snoc ((hO.keep fun g _ hg2 hA => hg.block g hg2 (hunew g (by subst hA; rfl))).mono hlo) fun b hb => ?_, fun u hu => ?_⟩
  · obtain ⟨e1, e2⟩ := hub b hb
    refine ⟨by omega, by omega, fun u hu e => ?_⟩
    obtain ⟨j, hj⟩ := List.getElem?_of_mem hu
    obtain ⟨_, A, n', c', -, rfl, -, hbl⟩ := h2.at_ hj
    have := (hbl _ e).2
    omega
  · rcases List.mem_append.1 hu with hu | hu
    · rcases hv' with e | e
      · rw [e]; exact h3 u hu
      · rw [e]
        obtain ⟨j, hj⟩ := List.getElem?_of_mem hu
        obtain ⟨_, A, n', c', -, rfl, -, hbl⟩ := h2.at_ hj
        cases hb : (Value.slice A n' c').ownBlock with
        | none => exact .inl rfl
        | some b =>
          have := (hbl b hb).2
          right
          intro e2
          injection e2 with e2
          omega
    · simp only [List.mem_singleton] at hu
      subst hu
      cases hb : (Value.slice A1 n1 c1).ownBlock with
      | none => exact .inl rfl
      | some b =>
        right
        rcases hv' with e | e
        · rw [e]; exact hunew b hb
        · rw [e]
          have := (hub b hb).2
          intro e2
          injection e2 with e2
          omega
theorem Bld.ow2 (h : Bld w lo E2 E f v k xss) : ∃ A c, v = .slice A k c ∧ Ow2 w lo w.heap.size E2 E f A k c xss := by
  obtain ⟨vs, h1, h2, h3⟩ := h
  have h1' : w.ownsRow lo E2 1 v k (vs.map id) := by simpa using h1
  obtain ⟨A, c, rfl, hO⟩ := Ow.of_own h1'
  exact ⟨A, c, rfl, vs, hO, h2, fun b o hA => by
    subst hA
    exact (h1.lt b rfl).2⟩
end
end Go.Proofs.Ytillmnhhkhjpkaa

/- Slices of slices that the call makes whole and fills: bools; a row put into its place. -/
namespace Go.Proofs.Ytillmnhhkhjpkaa
open Go.RowKit

theorem Ow.setB {w : World} {base E n c g j : Nat} {xs : List Bool} {x : Bool} (h : Ow w base E OLit (some ⟨g, 0, none⟩) n c xs) (hj : j < n) : Ow (w.setCell ⟨g, j, none⟩ (.bool x)) base E OLit (some ⟨g, 0, none⟩) n c (xs.set j x) := by
  obtain ⟨h1, h2, h3, h4⟩ := h
  refine ⟨by simpa using h1, h2, h3, fun hn => ?_⟩
  obtain ⟨g', cs, hA, hb, hh, hc⟩ := h4 hn
  injection hA with hA
  injection hA with hA
  subst hA
  refine ⟨g, _, rfl, hb, heap_setCell_same w g j cs _ _ hh, fun k y hy => ?_⟩
  rw [Array.getElem?_setIfInBounds]
  have hjx : j < xs.length := by omega
  have hjc : j < cs.size := by
    have := hc j xs[j] (List.getElem?_eq_getElem hjx)
    exact (Array.getElem?_eq_some_iff.1 this).1
  rw [List.getElem?_set] at hy
  by_cases hk : j = k
  · subst hk
    rw [if_pos rfl, if_pos hjx] at hy
    injection hy with hy
    subst hy
    rw [if_pos rfl, if_pos hjc]; rfl
  · rw [if_neg hk] at hy ⊢
    exact hc k y hy


/-- A row of a slice of slices of the call's own: its cells, and what a store into it leaves. -/
theorem Ow2.rowB {w : World} {lo hi E2 E n c j : Nat} {A : Option Addr} {xss : List (List Bool)} (h : Ow2 w lo hi E2 E OLit A n c xss) (hne : E ≠ E2) (hhi : hi ≤ w.heap.size) {xs : List Bool} (hx : xss[j]? = some xs) (hp : 0 < xs.length) :
    ∃ g gj cj, A = some ⟨g, 0, none⟩ ∧ lo ≤ g ∧ g < w.heap.size ∧ lo ≤ gj ∧ gj < w.heap.size ∧ g ≠ gj ∧ xs.length ≤ cj ∧ w.cell? ⟨g, j, none⟩ = some (.slice (some ⟨gj, 0, none⟩) xs.length cj) ∧
      (∀ k x, xs[k]? = some x → w.cell? ⟨gj, k, none⟩ = some (.bool x)) ∧ (∀ k, w.frozen? ⟨gj, k, none⟩ = false) ∧
      ∀ k x, k < xs.length → Ow2 (w.setCell ⟨gj, k, none⟩ (.bool x)) lo hi E2 E OLit A n c (xss.set j (xs.set k x)) := by
  have hlen := h.len
  obtain ⟨vs, h1, h2, h3⟩ := h
  have hj := (List.getElem?_eq_some_iff.1 hx).1
  obtain ⟨g, cs, rfl, hg1, hg2, hg3⟩ := h1.2.2.2 (by omega)
  obtain ⟨v, hv⟩ : ∃ v, vs[j]? = some v := ⟨_, List.getElem?_eq_getElem (by rw [h2.1]; exact hj)⟩
  obtain ⟨xs', A', n', c', hx', rfl, hO, hbl⟩ := h2.at_ hv
  have hxx : xs' = xs := by rw [hx] at hx'; injection hx' with hx'; exact hx'.symm
  subst hxx
  have hn' : n' = xs'.length := hO.len.symm
  subst hn'
  obtain ⟨gj, ds, rfl, hj1, hj2, hj3⟩ := hO.2.2.2 hp
  have hne2 : g ≠ gj := fun e => by
    subst e
    rw [hg2] at hj2
    injection hj2 with hj2
    injection hj2 with _ hj2
    exact hne hj2.symm
  refine ⟨g, gj, c', rfl, hg1, lt_of_heap hg2, hj1, lt_of_heap hj2, hne2, hO.2.1, by rw [cell_of_row w g j cs _ _ hg2]; exact hg3 j _ hv, fun k x hk => by rw [cell_of_row w gj k ds _ _ hj2]; exact hj3 k x hk, fun k => by simp [World.frozen?, hj2], fun k x hk => ?_⟩
  have hset := hO.setB (j := k) (x := x) hk
  refine ⟨vs, h1.keep fun b hb hb2 hA => ?_, ?_, h3⟩
  · injection hA with hA
    injection hA with hA
    subst hA
    exact Below.heap_setCell w _ _ _ hne2
  · refine h2.set (w' := w.setCell ⟨gj, k, none⟩ (.bool x)) hv hset (fun b hb hbn => Below.heap_setCell w _ _ b (fun e => hbn ?_)) (fun b _ hb => by omega)
    simp only at e
    subst e; rfl
theorem Ow2.storeB {w : World} {lo hi E2 E n c j g gj m cj k : Nat} {xss : List (List Bool)} (h : Ow2 w lo hi E2 E OLit (some ⟨g, 0, none⟩) n c xss) (hne : E ≠ E2) (hhi : hi ≤ w.heap.size) {xs : List Bool} (hx : xss[j]? = some xs) (hk : k < xs.length)
    (hc : w.cell? ⟨g, j, none⟩ = some (.slice (some ⟨gj, 0, none⟩) m cj)) (x : Bool) : Ow2 (w.setCell ⟨gj, k, none⟩ (.bool x)) lo hi E2 E OLit (some ⟨g, 0, none⟩) n c (xss.set j (xs.set k x)) := by
  obtain ⟨g', gj', cj', hA, -, -, -, -, -, -, cell1, -, -, hset⟩ := h.rowB hne hhi hx (by omega)
  injection hA with hA
  injection hA with hA
  subst hA
  rw [hc] at cell1
  injection cell1 with e
  injection e with e _ _
  injection e with e
  injection e with e
  subst e
  exact hset k x hk

/-- A value stored into an outer row. -/
theorem Ow.setV {w : World} {base E n c g j : Nat} {vs : List Value} {u : Value} (h : Ow w base E id (some ⟨g, 0, none⟩) n c vs) (hj : j < n) : Ow (w.setCell ⟨g, j, none⟩ u) base E id (some ⟨g, 0, none⟩) n c (vs.set j u) := by
  obtain ⟨h1, h2, h3, h4⟩ := h
  refine ⟨by simpa using h1, h2, h3, fun hn => ?_⟩
  obtain ⟨g', cs, hA, hb, hh, hc⟩ := h4 hn
  injection hA with hA
  injection hA with hA
  subst hA
  refine ⟨g, _, rfl, hb, heap_setCell_same w g j cs _ _ hh, fun k y hy => ?_⟩
  rw [Array.getElem?_setIfInBounds]
  have hjx : j < vs.length := by omega
  have hjc : j < cs.size := by
    have := hc j vs[j] (List.getElem?_eq_getElem hjx)
    exact (Array.getElem?_eq_some_iff.1 this).1
  rw [List.getElem?_set] at hy
  by_cases hk : j = k
  · subst hk
    rw [if_pos rfl, if_pos hjx] at hy
    injection hy with hy
    subst hy
    rw [if_pos rfl, if_pos hjc]; rfl
  · rw [if_neg hk] at hy ⊢
    exact hc k y hy
/-- n rows, all nil. -/
theorem Ow2.make {α : Type} (w : World) (E2 E n : Nat) (f : α → Value) (hn : n ≤ 9223372036854775807) :
    Ow2 (w.alloc (.cells (madeCells #[.slice none 0 0] n) E2)) w.heap.size (w.heap.size + 1) E2 E f (some ⟨w.heap.size, 0, none⟩) n n (List.replicate n []) := by
  refine ⟨List.replicate n (.slice none 0 0), ⟨by simp, Nat.le_refl _, hn, fun _ => ⟨_, _, rfl, Nat.le_refl _, heap_alloc_new w _, fun j x hx => ?_⟩⟩, ⟨by simp, fun j v xs hv hx => ?_, ?_⟩, fun b o hA => ?_⟩
  · rw [List.getElem?_replicate] at hx
    split at hx
    · injection hx with hx
      subst hx
      rename_i hj
      simp [madeCells, hj, Nat.mod_one]
    · cases hx
  · rw [List.getElem?_replicate] at hv hx
    split at hv
    · rename_i hj
      rw [if_pos hj] at hx
      injection hv with hv
      injection hx with hx
      subst hv hx
      exact ⟨none, 0, 0, rfl, Ow.nil _ _ _ _, fun b hb => by simp [Value.ownBlock] at hb⟩
    · cases hv
  · rw [List.pairwise_iff_getElem]
    intro i j h1 h2 _
    left
    simp [Value.ownBlock]
  · injection hA with hA
    injection hA with hA
    omega
/-- A row of its own put into its place. -/
theorem Ow2.put {α : Type} {w : World} {lo hi E2 E n c g j hb m : Nat} {f : α → Value} {xss : List (List α)} {zs : List α} (h : Ow2 w lo hi E2 E f (some ⟨g, 0, none⟩) n c xss) (hne : E ≠ E2) (hj : j < n) (hO : Ow w hb E f (some ⟨hb, 0, none⟩) m m zs) (h1 : hi ≤ hb) (h2 : hb < w.heap.size) (hlo : lo ≤ hi) :
    Ow2 (w.setCell ⟨g, j, none⟩ (.slice (some ⟨hb, 0, none⟩) m m)) lo w.heap.size E2 E f (some ⟨g, 0, none⟩) n c (xss.set j zs) := by
  have hlen := h.len
  obtain ⟨vs, e1, e2, e3⟩ := h
  obtain ⟨g', cs, hA, hg1, hg2, hg3⟩ := e1.2.2.2 (by omega)
  injection hA with hA
  injection hA with hA
  subst hA
  have hgh := e3 g 0 rfl
  have hkeep : ∀ {A' : Option Addr} {n' c' b' : Nat} {xs : List α}, Ow w b' E f A' n' c' xs → Ow (w.setCell ⟨g, j, none⟩ (.slice (some ⟨hb, 0, none⟩) m m)) b' E f A' n' c' xs := by
    intro A' n' c' b' xs hOw
    refine ⟨hOw.1, hOw.2.1, hOw.2.2.1, fun hp => ?_⟩
    obtain ⟨g2, ds, hA2, hb2, hh2, hc2⟩ := hOw.2.2.2 hp
    refine ⟨g2, ds, hA2, hb2, (Below.heap_setCell w _ _ g2 (fun e => ?_)).trans hh2, hc2⟩
    simp only at e
    subst e
    rw [hg2] at hh2
    injection hh2 with hh2
    injection hh2 with _ hh2
    exact hne hh2.symm
  refine ⟨vs.set j (.slice (some ⟨hb, 0, none⟩) m m), e1.setV hj, ⟨by simp [e2.1], fun i v xs hv hx => ?_, ?_⟩, fun b o hA => ?_⟩
  · rw [List.getElem?_set] at hv hx
    by_cases hji : j = i
    · subst hji
      rw [if_pos rfl] at hv hx
      rw [if_pos (by rw [e2.1, hlen]; exact hj)] at hv
      rw [if_pos (by rw [hlen]; exact hj)] at hx
      injection hv with hv
      injection hx with hx
      subst hv hx
      refine ⟨_, _, _, rfl, hkeep (hO.mono (by omega)), fun b hb' => ?_⟩
      simp only [Value.ownBlock, Option.some.injEq] at hb'
      omega
    · rw [if_neg hji] at hv hx
      obtain ⟨A', n', c', f1, f2, f3⟩ := e2.2.1 i v xs hv hx
      exact ⟨A', n', c', f1, hkeep f2, fun b hb' => ⟨(f3 b hb').1, by have := (f3 b hb').2; omega⟩⟩
  · have hpw := e2.2.2
    rw [List.pairwise_iff_getElem] at hpw ⊢
    intro a b ha hb' hab
    simp only [List.length_set] at ha hb'
    have hbl : ∀ (k : Nat) (hk : k < vs.length), (vs[k]).ownBlock ≠ some hb := fun k hk e => by
      obtain ⟨A', n', c', f1, f2, f3⟩ := e2.2.1 k vs[k] (xss[k]'(by rw [← e2.1]; exact hk)) (List.getElem?_eq_getElem hk) (List.getElem?_eq_getElem _)
      have := (f3 hb e).2
      omega
    rw [List.getElem_set, List.getElem_set]
    split
    · split
      · omega
      · right
        intro e
        exact hbl b hb' (by simpa [Value.ownBlock] using e.symm)
    · split
      · cases hv : (vs[a]).ownBlock with
        | none => exact .inl rfl
        | some x =>
          right
          intro e
          simp only [Value.ownBlock] at e
          exact hbl a ha (hv.trans e)
      · exact hpw a b ha hb' hab
  · injection hA with hA
    injection hA with hA
    omega
end Go.Proofs.Ytillmnhhkhjpkaa

/- A table that reads so in every world in which the blocks from lo on stand: 'Kept2'. -/
namespace Go.Proofs.Ytillmnhhkhjpkaa
open Go.RowKit

theorem Ow2.sl2hi {α : Type} {w : World} {lo hi E2 E n c : Nat} {f : α → Value} {A : Option Addr} {xss : List (List α)} (h : Ow2 w lo hi E2 E f A n c xss) : Sl2 w hi f A n c xss := by
  have hn := h.len
  obtain ⟨vs, h1, h2, h3⟩ := h
  obtain ⟨e1, e2, e3, e4⟩ := h1.sl
  refine ⟨hn, e2, e3, fun hp => ?_⟩
  obtain ⟨b, o, hA, hb, hc⟩ := e4 hp
  refine ⟨b, o, hA, h3 b o (by
    obtain ⟨g, cs, hA', -⟩ := h1.2.2.2 hp
    exact hA), fun j xs hj => ?_⟩
  have hl := (List.getElem?_eq_some_iff.1 hj).1
  have hl2 : j < vs.length := by rw [h2.1]; exact hl
  obtain ⟨A', n', c', f1, f2, f3⟩ := h2.2.1 j vs[j] xs (List.getElem?_eq_getElem hl2) hj
  refine ⟨A', n', c', ?_, ?_⟩
  · rw [hc j vs[j] (List.getElem?_eq_getElem hl2), f1]; rfl
  · obtain ⟨g1, g2, g3, g4⟩ := f2.sl
    refine ⟨g1, g2, g3, fun hp2 => ?_⟩
    obtain ⟨b2, o2, hA2, hb2, hc2⟩ := g4 hp2
    subst hA2
    exact ⟨b2, o2, rfl, (f3 b2 (by rw [f1]; rfl)).2, hc2⟩
theorem Sl2.drop {α : Type} {w : World} {B n c : Nat} {f : α → Value} {A : Option Addr} {xss : List (List α)} (h : Sl2 w B f A n c xss) {k : Nat} (hk : k ≤ n) : Sl2 w B f (if c = k then A else A.map (·.add k)) (n - k) (c - k) (xss.drop k) := by
  obtain ⟨h1, h2, h3, h4⟩ := h
  refine ⟨by rw [List.length_drop, h1], by omega, by omega, fun hn => ?_⟩
  obtain ⟨b, o, rfl, hb, hc⟩ := h4 (by omega)
  rw [if_neg (by omega)]
  refine ⟨b, o + k, ?_, hb, fun j x hx => ?_⟩
  · simp only [Option.map_some, Addr.add_lit]
  · rw [List.getElem?_drop] at hx
    obtain ⟨A', n', c', e1, e2⟩ := hc _ _ hx
    exact ⟨A', n', c', by rwa [← Nat.add_assoc] at e1, e2⟩

/-- A table that reads so in every world in which the blocks from lo on stand. -/
def Kept2 {α : Type} (w : World) (lo : Nat) (f : α → Value) (A : Option Addr) (n c : Nat) (t : List (List α)) : Prop :=
  ∀ w', (∀ b, lo ≤ b → b < w.heap.size → w'.heap[b]? = w.heap[b]?) → Sl2 w' w.heap.size f A n c t
theorem Ow2.kept2 {α : Type} {w : World} {lo hi E2 E n c : Nat} {f : α → Value} {A : Option Addr} {xss : List (List α)} (h : Ow2 w lo hi E2 E f A n c xss) (hh : hi ≤ w.heap.size) : Kept2 w lo f A n c xss := fun w' hw =>
  ((h.keep fun b h1 _ h3 => hw b h1 h3).sl2hi).more hh
theorem Kept2.drop {α : Type} {w : World} {lo n c : Nat} {f : α → Value} {A : Option Addr} {xss : List (List α)} (h : Kept2 w lo f A n c xss) {k : Nat} (hk : k ≤ n) : Kept2 w lo f (if c = k then A else A.map (·.add k)) (n - k) (c - k) (xss.drop k) := fun w' hw => (h w' hw).drop hk
theorem Kept2.here {α : Type} {w : World} {lo n c : Nat} {f : α → Value} {A : Option Addr} {xss : List (List α)} (h : Kept2 w lo f A n c xss) : Sl2 w w.heap.size f A n c xss := h w fun _ _ _ => rfl
theorem Kept2.len {α : Type} {w : World} {lo n c : Nat} {f : α → Value} {A : Option Addr} {xss : List (List α)} (h : Kept2 w lo f A n c xss) : xss.length = n := h.here.len
end Go.Proofs.Ytillmnhhkhjpkaa

/- The laws' helpers equalInts, sum. -/
namespace Go.Proofs.Ytillmnhhkhjpkaa
open Go.RowKit

theorem equalInts_c (A : Option Addr) (n c : Nat) (xs : List Int) (A2 : Option Addr) (n2 c2 : Nat) (ys : List Int) (w : World) (B B2 : Nat) (hS : Sl w B ILit A n c xs) (hB : B ≤ w.heap.size) (hT : Sl w B2 ILit A2 n2 c2 ys) (hB2 : B2 ≤ w.heap.size) :
    Calls Try.prog 6 #[.slice A n c, .slice A2 n2 c2] w fun e w' => e = .returned (.bool (eqL xs ys)) ∧ Below w.heap.size w w' := by
  have hl1 := hS.len
  have hl2 := hT.len
  obtain ⟨hc0, hc1⟩ := hS.cap
  by_cases hn : n = n2
  · subst hn
    have HL := Lib.hid (And.intro hl1 hl2)
    clear hl1 hl2
    go_enter Try.func6, Try.ntmps6
    go_wp2
    go_loopw [5] (fun i wr => ∃ k : Nat, k ≤ n ∧ i = .int .i64 k ∧ Hid (xs.take k = ys.take k) ∧ ∃ os d, wr = plus w os d) (fun i _ => n - (intOf i).toNat)
    case atStart => exact ⟨0, Nat.zero_le _, rfl, rfl, #[], w.drawn, (plus_zero w).symm⟩
    case round =>
      obtain ⟨k, hk, rfl, htk, os, d, rfl⟩ := hrel
      by_cases hlt : k < n
      · obtain ⟨b, o, x, rfl, hb, hx, hcell⟩ := hS.at_ hlt
        obtain ⟨b2, o2, y, rfl, hb2, hy, hcell2⟩ := hT.at_ hlt
        have hcell' : w.cell? ⟨b, o + k, none⟩ = some (.int .i64 x) := hcell
        have hcell2' : w.cell? ⟨b2, o2 + k, none⟩ = some (.int .i64 y) := hcell2
        have hbw : b < w.heap.size := by omega
        have hbw2 : b2 < w.heap.size := by omega
        have hki : (k : Int) < (n : Int) := by omega
        by_cases hxy : x = y
        · subst hxy
          have HT : Hid (xs.take (k + 1) = ys.take (k + 1)) := by
            show xs.take (k + 1) = ys.take (k + 1)
            rw [take_snoc hx, take_snoc hy, htk.out]
          clear hx hy hS hT hcell hcell2
          go_wp2_with fail
          refine wp_region_plus (by kernel_rfl) (by kernel_rfl) ?_; (repeat (go_big_quiet_step (fail))); refine wpQuiet_nil ?_; intro _ hw'; obtain ⟨⟨osq, dq⟩, hw''⟩ := hw'; subst hw''
          go_wp2_with fail
          go_roundw
          case rel => exact ⟨k + 1, by omega, by go_num, HT, _, _, rfl⟩
          case measure => simp [intOf]; omega
        · have hne := Lib.hid (eqL_at hx hy hxy)
          have hxy2 : (x != y) = true := by simpa [bne] using hxy
          clear hx hy hS hT hcell hcell2
          all_goals
            go_wp2_with fail
            refine wp_region_plus (by kernel_rfl) (by kernel_rfl) ?_; (repeat (go_big_quiet_step (fail))); refine wpQuiet_nil ?_; intro _ hw'; obtain ⟨⟨osq, dq⟩, hw''⟩ := hw'; subst hw''
            go_wp2_with fail
            go_ret
            exact ⟨by rw [hne.out]; rfl, by (repeat' (first | (with_reducible exact Below.refl _ _) | (with_reducible assumption) | (with_reducible refine Below.alloc ?_ ?_ _) | (with_reducible refine below_plus ?_ ?_ _ _) | (with_reducible refine Below.drew ?_) | (with_reducible refine Below.setCell ?_ ?_ _) | (with_reducible refine below_adv ?_ ?_ _) | go_size | (simp; done) | (simp; omega)))⟩
      · obtain rfl : k = n := by omega
        have heq : xs = ys := by
          have := htk.out
          rwa [List.take_of_length_le (by rw [HL.out.1]; exact Nat.le_refl _), List.take_of_length_le (by rw [HL.out.2]; exact Nat.le_refl _)] at this
        clear hS hT
        go_wp2_with fail
        go_ret
        exact ⟨by rw [eqL_true heq]; rfl, by (repeat' (first | (with_reducible exact Below.refl _ _) | (with_reducible assumption) | (with_reducible refine Below.alloc ?_ ?_ _) | (with_reducible refine below_plus ?_ ?_ _ _) | (with_reducible refine Below.drew ?_) | (with_reducible refine Below.setCell ?_ ?_ _) | (with_reducible refine below_adv ?_ ?_ _) | go_size | (simp; done) | (simp; omega)))⟩
  · have hne := eqL_len (xs := xs) (ys := ys) (by omega)
    rw [hne]
    have hnn : ((n : Int) != (n2 : Int)) = true := by simp [bne]; omega
    clear hS hT hne hl1 hl2
    go_enter Try.func6, Try.ntmps6
    go_wp2
    go_ret
    exact ⟨rfl, by (repeat' (first | (with_reducible exact Below.refl _ _) | (with_reducible assumption) | (with_reducible refine Below.alloc ?_ ?_ _) | (with_reducible refine below_plus ?_ ?_ _ _) | (with_reducible refine Below.drew ?_) | (with_reducible refine Below.setCell ?_ ?_ _) | (with_reducible refine below_adv ?_ ?_ _) | go_size | (simp; done) | (simp; omega)))⟩

theorem equalInts_t (A : Option Addr) (n c : Nat) (xs : List Int) (A2 : Option Addr) (n2 c2 : Nat) (w : World) (B B2 : Nat) (hS : Sl w B ILit A n c xs) (hB : B ≤ w.heap.size) (hT : Sl w B2 ILit A2 n2 c2 xs) (hB2 : B2 ≤ w.heap.size) :
    Calls Try.prog 6 #[.slice A n c, .slice A2 n2 c2] w fun e w' => e = .returned (.bool true) ∧ Below w.heap.size w w' := by
  have := equalInts_c A n c xs A2 n2 c2 xs w B B2 hS hB hT hB2
  rwa [eqL_true rfl] at this
def sumL : List Int → Int
  | [] => 0
  | x :: r => x + sumL r
theorem sumL_app (xs ys : List Int) : sumL (xs ++ ys) = sumL xs + sumL ys := by
  induction xs with
  | nil => simp [sumL]
  | cons x r ih => simp only [List.cons_append, sumL, ih]; omega
end Go.Proofs.Ytillmnhhkhjpkaa

/- The laws' helper equalBools. -/
namespace Go.Proofs.Ytillmnhhkhjpkaa
open Go.RowKit

end Go.Proofs.Ytillmnhhkhjpkaa

/- Slices of slices whose outer row is the call's own and whose rows lie below it: 'Shr'. -/
namespace Go.Proofs.Ytillmnhhkhjpkaa
open Go.RowKit

/-- The slice values vs read as the rows xss, in blocks below hi. -/
def Rsl {α : Type} (w : World) (hi : Nat) (f : α → Value) (vs : List Value) (xss : List (List α)) : Prop :=
  vs.length = xss.length ∧ ∀ (j : Nat) (u : Value) (xs : List α), vs[j]? = some u → xss[j]? = some xs → ∃ A n c, u = .slice A n c ∧ Sl w hi f A n c xs
def Shr {α : Type} (w : World) (lo hi E2 : Nat) (f : α → Value) (v : Value) (k : Nat) (xss : List (List α)) : Prop :=
  ∃ vs : List Value, w.ownsRow lo E2 1 v k vs ∧ Rsl w hi f vs xss

section
variable {α : Type} {w w' w8 : World} {lo hi E2 k n c B : Nat} {f : α → Value} {v v' : Value} {vs us : List Value} {xss yss : List (List α)} {A : Option Addr}
theorem Rsl.nil (w : World) (hi : Nat) (f : α → Value) : Rsl w hi f [] ([] : List (List α)) := ⟨rfl, fun j u xs h => by simp at h⟩
theorem Rsl.keep (h : Rsl w hi f vs xss) (hk : ∀ b o, b < hi → w'.cell? ⟨b, o, none⟩ = w.cell? ⟨b, o, none⟩) : Rsl w' hi f vs xss := by
  refine ⟨h.1, fun j u xs hu hx => ?_⟩
  obtain ⟨A, n, c, e1, e2⟩ := h.2 j u xs hu hx
  exact ⟨A, n, c, e1, e2.keep hk⟩
theorem Rsl.below (h : Rsl w hi f vs xss) (hb : Below hi w w') : Rsl w' hi f vs xss := h.keep fun b i hlt => hb.cell (p := ⟨b, i, none⟩) hlt
theorem Rsl.more {hi' : Nat} (h : Rsl w hi f vs xss) (hh : hi ≤ hi') : Rsl w hi' f vs xss := by
  refine ⟨h.1, fun j u xs hu hx => ?_⟩
  obtain ⟨A, n, c, e1, e2⟩ := h.2 j u xs hu hx
  exact ⟨A, n, c, e1, e2.more hh⟩
theorem Rsl.app (h : Rsl w hi f vs xss) (h2 : Rsl w hi f us yss) : Rsl w hi f (vs ++ us) (xss ++ yss) := by
  refine ⟨by simp [h.1, h2.1], fun j u xs hu hx => ?_⟩
  rcases Nat.lt_or_ge j vs.length with hl | hl
  · rw [List.getElem?_append_left hl] at hu
    rw [List.getElem?_append_left (by rw [← h.1]; exact hl)] at hx
    exact h.2 j u xs hu hx
  · rw [List.getElem?_append_right hl] at hu
    rw [List.getElem?_append_right (by rw [← h.1]; exact hl), ← h.1] at hx
    exact h2.2 _ u xs hu hx
theorem Rsl.one {xs : List α} (h : Sl w hi f A n c xs) : Rsl w hi f [.slice A n c] [xs] := by
  refine ⟨rfl, fun j u ys hu hx => ?_⟩
  match j, hu, hx with
  | 0, hu, hx =>
    simp at hu hx
    subst hu hx
    exact ⟨A, n, c, rfl, h⟩
theorem Sl2.vals (h : Sl2 w B f A n c xss) : ∃ vs : List Value, Sl w B id A n c vs ∧ Rsl w B f vs xss := by
  rcases Nat.eq_zero_or_pos n with h0 | h0
  · have hx : xss = [] := List.eq_nil_of_length_eq_zero (by rw [h.len]; exact h0)
    subst hx
    exact ⟨[], ⟨by simp [h0], h.cap.1, h.cap.2, fun hn => absurd hn (by omega)⟩, Rsl.nil _ _ _⟩
  · obtain ⟨h1, h2, h3, h4⟩ := h
    obtain ⟨b, o, hA, hb, hc⟩ := h4 h0
    have hv : ∀ j, j < n → ∃ u, w.cell? ⟨b, o + j, none⟩ = some u ∧ ∀ xs, xss[j]? = some xs → ∃ A' n' c', u = .slice A' n' c' ∧ Sl w B f A' n' c' xs := fun j hj => by
      obtain ⟨A', n', c', e1, e2⟩ := hc j _ (List.getElem?_eq_getElem (by omega))
      refine ⟨_, e1, fun xs hx => ?_⟩
      rw [List.getElem?_eq_getElem (by omega)] at hx
      injection hx with hx
      subst hx
      exact ⟨A', n', c', rfl, e2⟩
    have hg : ∀ j, w.cell? ⟨b, o + j, none⟩ = some ((w.cell? ⟨b, o + j, none⟩).getD (.int .i64 0)) ∨ n ≤ j := fun j => by
      rcases Nat.lt_or_ge j n with hl | hl
      · obtain ⟨u, hu, -⟩ := hv j hl
        left; rw [hu]; rfl
      · exact .inr hl
    refine ⟨(List.range n).map fun j => (w.cell? ⟨b, o + j, none⟩).getD (.int .i64 0), ⟨by simp, h2, h3, fun _ => ⟨b, o, hA, hb, fun j u hu => ?_⟩⟩, by simp [h1], fun j u xs hu hx => ?_⟩
    · rw [List.getElem?_map] at hu
      rcases Nat.lt_or_ge j n with hl | hl
      · rw [List.getElem?_range hl] at hu
        simp only [Option.map_some, Option.some.injEq] at hu
        subst hu
        rcases hg j with e | e
        · exact e
        · omega
      · rw [List.getElem?_eq_none (by simp; omega)] at hu; cases hu
    · have hl : j < n := by
        have := (List.getElem?_eq_some_iff.1 hx).1
        omega
      obtain ⟨u', hu', hr⟩ := hv j hl
      rw [List.getElem?_map, List.getElem?_range hl] at hu
      simp only [Option.map_some, Option.some.injEq, hu', Option.getD_some] at hu
      subst hu
      exact hr xs hx
theorem Sl2.of_vals (h : Sl w B id A n c vs) (h2 : Rsl w B f vs xss) : Sl2 w B f A n c xss := by
  refine ⟨by rw [← h2.1]; exact h.len, h.cap.1, h.cap.2, fun hn => ?_⟩
  obtain ⟨b, o, hA, hb, hc⟩ := h.2.2.2 hn
  refine ⟨b, o, hA, hb, fun j xs hx => ?_⟩
  have hl : j < vs.length := by rw [h2.1]; exact (List.getElem?_eq_some_iff.1 hx).1
  obtain ⟨A', n', c', e1, e2⟩ := h2.2 j vs[j] xs (List.getElem?_eq_getElem hl) hx
  refine ⟨A', n', c', ?_, e2⟩
  rw [hc j vs[j] (List.getElem?_eq_getElem hl), e1]; rfl

theorem Shr.nil (h : w.ownsRow lo E2 1 v 0 []) : Shr w lo hi E2 f v 0 ([] : List (List α)) := ⟨[], h, Rsl.nil _ _ _⟩
theorem Shr.len (h : Shr w lo hi E2 f v k xss) : xss.length = k := by
  obtain ⟨vs, h1, h2⟩ := h
  rw [← h2.1]; simpa using h1.1
theorem Shr.below (h : Shr w lo hi E2 f v k xss) (hb : Below w.heap.size w w') (hh : hi ≤ w.heap.size) : Shr w' lo hi E2 f v k xss := by
  obtain ⟨vs, h1, h2⟩ := h
  exact ⟨vs, own_below h1 hb, h2.below (hb.mono hh)⟩
/-- Some rows more. -/
theorem Shr.app (h1 : w.ownsRow lo E2 1 v k vs) (h2 : Rsl w hi f vs xss) (hlo : hi ≤ lo) (hsz : lo ≤ w.heap.size) {m : Nat} (hu : Rsl w hi f us yss)
    (hO8 : w8.ownsRow lo E2 1 v' (k + m) (vs ++ us)) (hg : w.grownBy w8 v.ownBlock) : Shr w8 lo hi E2 f v' (k + m) (xss ++ yss) := by
  refine ⟨vs ++ us, hO8, (h2.app hu).keep fun b o hb => ?_⟩
  refine World.cell?_of_block (a := ⟨b, o, none⟩) (hg.block b (by omega) fun e => ?_)
  have := (h1.lt b e.symm).1
  omega
theorem Shr.sl2 (h : Shr w lo hi E2 f v k xss) (hh : hi ≤ w.heap.size) : ∃ A c, v = .slice A k c ∧ Sl2 w w.heap.size f A k c xss := by
  obtain ⟨vs, h1, h2⟩ := h
  obtain ⟨A, c, e1, e2⟩ := own_sl (f := id) (xs := vs) (by simpa using h1)
  exact ⟨A, c, e1, Sl2.of_vals e2 (h2.more hh)⟩
end
/-- A slice value by its three parts. -/
def SLit (x : Option Addr × Nat × Nat) : Value := .slice x.1 x.2.1 x.2.2
def triple : Value → Option Addr × Nat × Nat
  | .slice A n c => (A, n, c)
  | _ => (none, 0, 0)
theorem Sl2.trips {α : Type} {w : World} {B n c : Nat} {f : α → Value} {A : Option Addr} {xss : List (List α)} (h : Sl2 w B f A n c xss) : ∃ ts : List (Option Addr × Nat × Nat), Sl w B SLit A n c ts ∧ Rsl w B f (ts.map SLit) xss := by
  obtain ⟨vs, h1, h2⟩ := h.vals
  have hid : vs.map (fun v => SLit (triple v)) = vs := by
    refine (List.map_congr_left fun v hv => ?_).trans (List.map_id vs)
    obtain ⟨j, hj⟩ := List.getElem?_of_mem hv
    have hl : j < xss.length := by rw [← h2.1]; exact (List.getElem?_eq_some_iff.1 hj).1
    obtain ⟨A', n', c', e, -⟩ := h2.2 j v _ hj (List.getElem?_eq_getElem hl)
    subst e; rfl
  have hm : (vs.map triple).map SLit = vs := by rw [List.map_map]; exact hid
  refine ⟨vs.map triple, ⟨by simpa using h1.len, h1.cap.1, h1.cap.2, fun hn => ?_⟩, by rw [hm]; exact h2⟩
  obtain ⟨b, o, hA, hb, hc⟩ := h1.2.2.2 hn
  refine ⟨b, o, hA, hb, fun j x hx => ?_⟩
  have hx2 : ((vs.map triple).map SLit)[j]? = some (SLit x) := by rw [List.getElem?_map, hx]; rfl
  rw [hm] at hx2
  exact hc j _ hx2
theorem Rsl.drop {α : Type} {w : World} {hi : Nat} {f : α → Value} {vs : List Value} {xss : List (List α)} (h : Rsl w hi f vs xss) (k : Nat) : Rsl w hi f (vs.drop k) (xss.drop k) := by
  refine ⟨by simp [h.1], fun j u xs hu hx => ?_⟩
  rw [List.getElem?_drop] at hu hx
  exact h.2 _ u xs hu hx
theorem Rsl.take {α : Type} {w : World} {hi : Nat} {f : α → Value} {vs : List Value} {xss : List (List α)} (h : Rsl w hi f vs xss) (k : Nat) : Rsl w hi f (vs.take k) (xss.take k) := by
  refine ⟨by simp [h.1], fun j u xs hu hx => ?_⟩
  rw [List.getElem?_take] at hu hx
  split at hu
  · rename_i hl
    rw [if_pos hl] at hx
    exact h.2 _ u xs hu hx
  · cases hu
theorem Sl2.take {α : Type} {w : World} {B n c : Nat} {f : α → Value} {A : Option Addr} {xss : List (List α)} (h : Sl2 w B f A n c xss) {k : Nat} (hk : k ≤ n) : Sl2 w B f A k c (xss.take k) := by
  obtain ⟨vs, h1, h2⟩ := h.vals
  exact Sl2.of_vals (h1.take hk) (h2.take k)
theorem Rsl.tripled {α : Type} {w : World} {hi : Nat} {f : α → Value} {vs : List Value} {xss : List (List α)} (h2 : Rsl w hi f vs xss) : (vs.map triple).map SLit = vs := by
  rw [List.map_map]
  refine (List.map_congr_left fun v hv => ?_).trans (List.map_id vs)
  obtain ⟨j, hj⟩ := List.getElem?_of_mem hv
  have hl : j < xss.length := by rw [← h2.1]; exact (List.getElem?_eq_some_iff.1 hj).1
  obtain ⟨A', n', c', e, -⟩ := h2.2 j v _ hj (List.getElem?_eq_getElem hl)
  subst e; rfl
theorem Sl.tripled {w : World} {B n c : Nat} {A : Option Addr} {vs : List Value} (h1 : Sl w B id A n c vs) (hm : (vs.map triple).map SLit = vs) : Sl w B SLit A n c (vs.map triple) := by
  refine ⟨by simpa using h1.len, h1.cap.1, h1.cap.2, fun hn => ?_⟩
  obtain ⟨b, o, hA, hb, hc⟩ := h1.2.2.2 hn
  refine ⟨b, o, hA, hb, fun j x hx => ?_⟩
  have hx2 : ((vs.map triple).map SLit)[j]? = some (SLit x) := by rw [List.getElem?_map, hx]; rfl
  rw [hm] at hx2
  exact hc j _ hx2
theorem own_mono {w : World} {base base' e k n : Nat} {v : Value} {xs : List Value} (h : w.ownsRow base e k v n xs) (hb : base' ≤ base) : w.ownsRow base' e k v n xs := by
  refine ⟨h.1, ?_⟩
  rcases h.2 with h2 | ⟨g, cap, cur, e1, e2, e3⟩
  · exact .inl h2
  · exact .inr ⟨g, cap, cur, e1, Nat.le_trans hb e2, e3⟩
theorem own_keep {w w' : World} {base e k n : Nat} {v : Value} {xs : List Value} (h : w.ownsRow base e k v n xs) (hk : ∀ g, base ≤ g → g < w.heap.size → w'.heap[g]? = w.heap[g]?) : w'.ownsRow base e k v n xs := by
  have hl := h.lt
  refine ⟨h.1, ?_⟩
  rcases h.2 with h2 | ⟨g, cap, cur, e1, e2, e3, e4⟩
  · exact .inl h2
  · subst e1
    have := (hl g rfl).2
    exact .inr ⟨g, cap, cur, rfl, e2, (hk g e2 this).trans e3, e4⟩

/-- A literal of one element. -/
theorem own_one (w : World) (u : Value) (e : TypeId) {base : Nat} (hb : base ≤ w.heap.size) : (w.alloc (.cells #[u] e)).ownsRow base e 1 (.slice (some ⟨w.heap.size, 0, none⟩) 1 1) 1 [u] :=
  ⟨by simp, .inr ⟨w.heap.size, 1, #[u], rfl, hb, heap_alloc_new w _, Nat.le_refl _, by unfold maxLen; omega, rfl, by simp⟩⟩
end Go.Proofs.Ytillmnhhkhjpkaa

/- A slice of slices under way whose rows are any slices of the call's own: 'Mix'. -/
namespace Go.Proofs.Ytillmnhhkhjpkaa
open Go.RowKit

theorem Sl.at1 {α : Type} {w w' : World} {B n c : Nat} {f : α → Value} {A : Option Addr} {xs : List α} (h : Sl w B f A n c xs) (hk : 0 < n → ∀ b o, A = some ⟨b, o, none⟩ → b < B → w'.heap[b]? = w.heap[b]?) : Sl w' B f A n c xs := by
  obtain ⟨h1, h2, h3, h4⟩ := h
  refine ⟨h1, h2, h3, fun hn => ?_⟩
  obtain ⟨b, o, hA, hb, hc⟩ := h4 hn
  exact ⟨b, o, hA, hb, fun j x hx => (World.cell?_of_block (a := ⟨b, o + j, none⟩) (hk hn b o hA hb)).trans (hc j x hx)⟩

def RowsOff {α : Type} (w : World) (lo : Nat) (f : α → Value) (own : Option Nat) (vs : List Value) (xss : List (List α)) : Prop :=
  vs.length = xss.length ∧ ∀ (j : Nat) (u : Value) (xs : List α), vs[j]? = some u → xss[j]? = some xs → ∃ A n c, u = .slice A n c ∧ Sl w w.heap.size f A n c xs ∧ (0 < n → ∀ b o, A = some ⟨b, o, none⟩ → lo ≤ b ∧ own ≠ some b)
def Mix {α : Type} (w : World) (lo E2 : Nat) (f : α → Value) (v : Value) (k : Nat) (xss : List (List α)) : Prop :=
  ∃ vs : List Value, w.ownsRow lo E2 1 v k vs ∧ RowsOff w lo f v.ownBlock vs xss

section
variable {α : Type} {w w' w8 : World} {lo E2 k n c r q : Nat} {f : α → Value} {v v' : Value} {vs : List Value} {xss : List (List α)} {A : Option Addr} {own own' : Option Nat}
theorem RowsOff.keep (h : RowsOff w lo f own vs xss) (hz : w.heap.size ≤ w'.heap.size) (ho : ∀ b, b < w.heap.size → own ≠ some b → own' ≠ some b) (hk : ∀ b, lo ≤ b → b < w.heap.size → own ≠ some b → w'.heap[b]? = w.heap[b]?) : RowsOff w' lo f own' vs xss := by
  refine ⟨h.1, fun j u xs hu hx => ?_⟩
  obtain ⟨A, n, c, e1, e2, e3⟩ := h.2 j u xs hu hx
  refine ⟨A, n, c, e1, (e2.at1 fun hn b o hA hb => hk b (e3 hn b o hA).1 hb (e3 hn b o hA).2).more hz, fun hn b o hA => ⟨(e3 hn b o hA).1, ho b ?_ (e3 hn b o hA).2⟩⟩
  obtain ⟨b', o', hA', hb', -⟩ := e2.2.2.2 hn
  rw [hA] at hA'
  injection hA' with hA'
  injection hA' with hA'
  omega
theorem Mix.nil (h : w.ownsRow lo E2 1 v 0 []) : Mix w lo E2 f v 0 ([] : List (List α)) := ⟨[], h, rfl, fun j u xs h => by simp at h⟩
theorem Mix.len (h : Mix w lo E2 f v k xss) : xss.length = k := by
  obtain ⟨vs, h1, h2⟩ := h
  rw [← h2.1]; simpa using h1.1
theorem Mix.below (h : Mix w lo E2 f v k xss) (hb : Below w.heap.size w w') : Mix w' lo E2 f v k xss := by
  obtain ⟨vs, h1, h2⟩ := h
  exact ⟨vs, own_below h1 hb, h2.keep hb.size (fun b _ h => h) fun b _ hl _ => hb.block b hl⟩
theorem Mix.go (h : Mix w lo E2 f v k xss) (hr : r < lo) (hb : Below w.heap.size (adv w r q) w') : Mix w' lo E2 f v k xss := by
  obtain ⟨vs, h1, h2⟩ := h
  have hz := hb.size
  rw [size_adv] at hz
  exact ⟨vs, own_go h1 hr hb, h2.keep hz (fun b _ h => h) fun b h1 hl _ => (hb.block b hl).trans (heap_adv _ _ _ _ (by omega))⟩
theorem Mix.fresh (h : Mix w lo E2 f v k xss) (hf : 0 < n → ∀ b o, A = some ⟨b, o, none⟩ → w.heap.size ≤ b) (hlo : lo ≤ w.heap.size) : 0 < n → ∀ b o, A = some ⟨b, o, none⟩ → lo ≤ b ∧ v.ownBlock ≠ some b := fun hn b o hA => by
  obtain ⟨vs, h1, -⟩ := h
  have h2 := hf hn b o hA
  refine ⟨by omega, fun e => ?_⟩
  have := (h1.lt b e).2
  omega
theorem Mix.app (h1 : w.ownsRow lo E2 1 v k vs) (h2 : RowsOff w lo f v.ownBlock vs xss) {A1 : Option Addr} {n1 c1 : Nat} {xs : List α} (hS : Sl w w.heap.size f A1 n1 c1 xs)
    (hf : 0 < n1 → ∀ b o, A1 = some ⟨b, o, none⟩ → lo ≤ b ∧ v.ownBlock ≠ some b) (hO8 : w8.ownsRow lo E2 1 v' (k + 1) (vs ++ [.slice A1 n1 c1])) (hg : w.grownBy w8 v.ownBlock)
    (hv' : v'.ownBlock = v.ownBlock ∨ v'.ownBlock = some (w.heap.size + 1)) : Mix w8 lo E2 f v' (k + 1) (xss ++ [xs]) := by
  have hz := hg.size
  have ho : ∀ b, b < w.heap.size → v.ownBlock ≠ some b → v'.ownBlock ≠ some b := fun b hb hne => by
    rcases hv' with e | e
    · rw [e]; exact hne
    · rw [e]; intro e2; injection e2 with e2; omega
  have hk : ∀ b, lo ≤ b → b < w.heap.size → v.ownBlock ≠ some b → w8.heap[b]? = w.heap[b]? := fun b _ hb hne => hg.block b hb fun e => hne e.symm
  have hR := h2.keep (w' := w8) (own' := v'.ownBlock) hz ho hk
  refine ⟨vs ++ [.slice A1 n1 c1], hO8, by simp [hR.1], fun j u ys hu hx => ?_⟩
  rcases Nat.lt_or_ge j vs.length with hl | hl
  · rw [List.getElem?_append_left hl] at hu
    rw [List.getElem?_append_left (by rw [← h2.1]; exact hl)] at hx
    exact hR.2 j u ys hu hx
  · have hj : j = vs.length := by
      have := (List.getElem?_eq_some_iff.1 hu).1
      simp at this; omega
    subst hj
    simp at hu
    rw [h2.1] at hx
    simp at hx
    subst hu hx
    refine ⟨A1, n1, c1, rfl, (hS.at1 fun hn b o hA hb => hk b (hf hn b o hA).1 hb (hf hn b o hA).2).more hz, fun hn b o hA => ⟨(hf hn b o hA).1, ho b ?_ (hf hn b o hA).2⟩⟩
    obtain ⟨b', o', hA', hb', -⟩ := hS.2.2.2 hn
    rw [hA] at hA'
    injection hA' with hA'
    injection hA' with hA'
    omega
theorem Mix.sl2 (h : Mix w lo E2 f v k xss) : ∃ A c, v = .slice A k c ∧ Sl2 w w.heap.size f A k c xss := by
  obtain ⟨vs, h1, h2⟩ := h
  obtain ⟨A, c, e1, e2⟩ := own_sl (f := id) (xs := vs) (by simpa using h1)
  refine ⟨A, c, e1, Sl2.of_vals e2 ⟨h2.1, fun j u xs hu hx => ?_⟩⟩
  obtain ⟨A, n, c, e3, e4, -⟩ := h2.2 j u xs hu hx
  exact ⟨A, n, c, e3, e4⟩
end
end Go.Proofs.Ytillmnhhkhjpkaa

/- The reference's sorted: insertion by exchanges. -/
namespace Go.Proofs.Ytillmnhhkhjpkaa
open Go.RowKit

def sortI (xs : List Int) : List Int := xs.mergeSort (fun a b => decide (a ≤ b))
theorem sortI_perm (xs : List Int) : (sortI xs).Perm xs := List.mergeSort_perm xs _
theorem sortI_sorted (xs : List Int) : (sortI xs).Pairwise (fun a b => a ≤ b) := by
  have := List.pairwise_mergeSort (le := fun a b : Int => decide (a ≤ b)) (fun a b c h1 h2 => by simp at *; omega) (fun a b => by simp; omega) xs
  exact this.imp fun h => by simpa using h
theorem sortI_of {xs ys : List Int} (hp : ys.Perm xs) (hs : ys.Pairwise (fun a b => a ≤ b)) : ys = sortI xs :=
  sorted_unique (fun a b h1 h2 => by omega) (hp.trans (sortI_perm xs).symm) hs (sortI_sorted xs)
theorem sortI_len (xs : List Int) : (sortI xs).length = xs.length := (sortI_perm xs).length_eq
theorem Ow.plus {α : Type} {w : World} {base E n c : Nat} {f : α → Value} {A : Option Addr} {xs : List α} (h : Ow w base E f A n c xs) (os : Array Obj) (d : Nat) : Ow (plus w os d) base E f A n c xs :=
  h.keep fun g _ hg _ => heap_plus w os d g hg

/-- A slice of ints of the call's own. -/
def OwIntsN (w : World) (n : Nat) (xs : List Int) (e : Ending) (w' : World) : Prop :=
  ∃ A c, e = .returned (.slice A n c) ∧ Ow w' w.heap.size 3 ILit A n c xs ∧ Below w.heap.size w w'

end Go.Proofs.Ytillmnhhkhjpkaa

/- An operation behind a guard that says yes. -/
namespace Go.Proofs.Ytillmnhhkhjpkaa
open Go.RowKit

theorem wpList_unguard {P : Program} {ops : Array Oper} {Q : Exit → Act → World → Prop} {a : Act} {w : World} {rest : List Oper} {dst : Option Tmp} {op : Op} {type : TypeId} {pos : String} {after : Array Edge} {guard : Option (Nat × Bool)}
    (hw : Region.wanted { dst, op, type, pos, after, guard } (yielded ops a.tmps) = true) (h : wpList P ops Q ({ dst, op, type, pos, after, guard := none } :: rest) a w) : wpList P ops Q ({ dst, op, type, pos, after, guard } :: rest) a w := by
  unfold wpList at h ⊢
  rw [if_pos hw]
  rw [if_pos (by simp [Region.wanted])] at h
  exact h
end Go.Proofs.Ytillmnhhkhjpkaa
