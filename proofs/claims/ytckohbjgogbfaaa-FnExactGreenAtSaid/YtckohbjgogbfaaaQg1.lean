/- Rows of stages under way: 'StM'. -/
import Derived.Test.YtckohbjgogbfaaaQa1
import Derived.Test.YtckohbjgogbfaaaBc
import Derived.Maps.AppendAt
set_option linter.unusedVariables false
set_option linter.unusedSimpArgs false
namespace Go.Proofs.Ytckohbjgogbfaaa
open Go.RowKit

theorem info_stage : (Try.prog.info? 35).map (fun i => (i.zero, i.size, i.bytes)) = some (some (.agg #[.slice none 0 0, .int .i64 0]), 2, 32) := by kernel_rfl

/-- 'out = append(out, u)' with an element of two cells, out the call's own: the new element lies in the last block. -/
theorem wpList_app2_at {P : Program} (w0 wr : World) {ops : Array Oper} {rest : List Oper} {o : Oper} {a : Act} {Q : Exit → Act → World → Prop} (hgd : o.guard = none) (s x : Operand) (t : TypeId)
    (ho : o.op = .call { callee := .builtin .append, args := #[s, x], argTypes := #[t, t] })
    (e : TypeId) (i : TypeInfo) (z : Value) (bytes : Nat) (ht : P.underlying t = some (.slice e)) (hi : P.info? e = some i) (hz : i.zero = some z) (hsize : i.size = 2) (hby : i.bytes = bytes) (hzs : z.cells.size = 2) (hbb : bytes ≤ 64)
    (base : Nat) (v : Value) (n : Nat) (xs : List Value) (hs : a.eval s = v) (hown : wr.ownsRow base e 2 v n xs) (u1 u2 : Value) (hu1 : u1.oneCell' = true) (hu2 : u2.oneCell' = true) (g : Nat) (hx : a.eval x = .slice (some ⟨g, 0, none⟩) 1 1) (hg : g = wr.heap.size)
    (hn : n ≤ 1099511627776) (hb : Below base w0 wr) (hB : base ≤ wr.heap.size)
    (h : ∀ v' w1, w1.ownsRow base e 2 v' (n + 1) (xs ++ [u1, u2]) → Below base w0 w1 → wr.grownBy w1 v.ownBlock → (v'.ownBlock = v.ownBlock ∨ v'.ownBlock = some (wr.heap.size + 1)) → wpList P ops Q rest (a.put o.dst v') w1) : wpList P ops Q (o :: rest) a (wr.alloc (.cells #[u1, u2] e)) := by
  subst hg
  refine wpList_append_own_at (wr.alloc (.cells #[u1, u2] e)) hgd s x t ho base e i z 2 bytes ht hi hz hsize hby hzs (by decide) v n xs hs (hown.alloc _) ⟨wr.heap.size, 0, none⟩ 1 1 [u1, u2] hx rfl ?_ ?_ ?_ ?_ (by simp; omega) ?_
  · intro j y hj
    match j, hj with
    | 0, hj =>
      simp at hj
      subst hj
      simp [Addr.add, World.cell?_alloc_new]
    | 1, hj =>
      simp at hj
      subst hj
      simp [Addr.add, World.cell?_alloc_new]
  · intro y hy
    simp at hy
    rcases hy with rfl | rfl
    · exact hu1
    · exact hu2
  · unfold maxLen; omega
  · have : (n + 1) * bytes ≤ (1099511627776 + 1) * 64 := Nat.mul_le_mul (by omega) hbb
    omega
  · intro v' w1 h1 h2 _ h3
    refine h v' w1 h1 ((hb.alloc hB _).grown h2 (by simp; omega) fun k hk => (hown.lt k hk).1) ?_ (by simpa using h3)
    exact ⟨h2.os, h2.tape, h2.output, Nat.le_trans (by simp) h2.size, fun k hk hne => (h2.block k (by simp; omega) hne).trans (Below.heap_alloc wr _ k hk)⟩

/-- The cells of a row of stages. -/
def fl (xs : List ((Option Addr × Nat × Nat) × Int)) : List Value := xs.flatMap fun x => [SLit x.1, .int .i64 x.2]
theorem fl_len (xs : List ((Option Addr × Nat × Nat) × Int)) : (fl xs).length = xs.length * 2 := by
  induction xs with
  | nil => rfl
  | cons x r ih => simp only [fl, List.flatMap_cons, List.length_append, List.length_cons, List.length_nil] at ih ⊢; omega
theorem fl_at {xs : List ((Option Addr × Nat × Nat) × Int)} {j : Nat} {x : (Option Addr × Nat × Nat) × Int} (h : xs[j]? = some x) : (fl xs)[j * 2]? = some (SLit x.1) ∧ (fl xs)[j * 2 + 1]? = some (.int .i64 x.2) := by
  induction xs generalizing j with
  | nil => simp at h
  | cons y r ih =>
    cases j with
    | zero => simp at h; subst h; exact ⟨rfl, rfl⟩
    | succ j =>
      simp only [List.getElem?_cons_succ] at h
      obtain ⟨e1, e2⟩ := ih h
      have e : ∀ i, (fl (y :: r))[i + 2]? = (fl r)[i]? := fun i => by simp [fl, List.flatMap_cons]
      exact ⟨by rw [show (j + 1) * 2 = j * 2 + 2 by omega, e]; exact e1, by rw [show (j + 1) * 2 + 1 = j * 2 + 1 + 2 by omega, e]; exact e2⟩
theorem fl_snoc (xs : List ((Option Addr × Nat × Nat) × Int)) (A : Option Addr) (n c : Nat) (g : Int) : fl xs ++ [.slice A n c, .int .i64 g] = fl (xs ++ [((A, n, c), g)]) := by simp [fl, SLit]

def StgOff (w : World) (lo : Nat) (own : Option Nat) (xs : List ((Option Addr × Nat × Nat) × Int)) (ss : List (List Int × Int)) : Prop :=
  xs.length = ss.length ∧ ∀ (j : Nat) (x : (Option Addr × Nat × Nat) × Int) (s : List Int × Int), xs[j]? = some x → ss[j]? = some s → x.2 = s.2 ∧ Sl w w.heap.size ILit x.1.1 x.1.2.1 x.1.2.2 s.1 ∧ (0 < x.1.2.1 → ∀ b o, x.1.1 = some ⟨b, o, none⟩ → lo ≤ b ∧ own ≠ some b)
def StM (w : World) (lo : Nat) (v : Value) (k : Nat) (ss : List (List Int × Int)) : Prop :=
  ∃ xs, w.ownsRow lo 35 2 v k (fl xs) ∧ StgOff w lo v.ownBlock xs ss
section
variable {w w' w8 : World} {lo k n c r q : Nat} {v v' : Value} {xs : List ((Option Addr × Nat × Nat) × Int)} {ss : List (List Int × Int)} {A : Option Addr} {own own' : Option Nat}
theorem StgOff.keep (h : StgOff w lo own xs ss) (hz : w.heap.size ≤ w'.heap.size) (ho : ∀ b, b < w.heap.size → own ≠ some b → own' ≠ some b) (hk : ∀ b, lo ≤ b → b < w.heap.size → own ≠ some b → w'.heap[b]? = w.heap[b]?) : StgOff w' lo own' xs ss := by
  refine ⟨h.1, fun j u s hu hs => ?_⟩
  obtain ⟨e1, e2, e3⟩ := h.2 j u s hu hs
  refine ⟨e1, (e2.at1 fun hn b o hA hb => hk b (e3 hn b o hA).1 hb (e3 hn b o hA).2).more hz, fun hn b o hA => ⟨(e3 hn b o hA).1, ho b ?_ (e3 hn b o hA).2⟩⟩
  obtain ⟨b', o', hA', hb', -⟩ := e2.2.2.2 hn
  rw [hA] at hA'
  injection hA' with hA'
  injection hA' with hA'
  omega
theorem StM.nil (h : w.ownsRow lo 35 2 v 0 []) : StM w lo v 0 [] := ⟨[], h, rfl, fun j u xs h => by simp at h⟩
theorem StM.len (h : StM w lo v k ss) : ss.length = k := by
  obtain ⟨xs, h1, h2⟩ := h
  have := h1.1
  rw [fl_len] at this
  rw [← h2.1]; omega
theorem StM.below (h : StM w lo v k ss) (hb : Below w.heap.size w w') : StM w' lo v k ss := by
  obtain ⟨xs, h1, h2⟩ := h
  exact ⟨xs, own_below h1 hb, h2.keep hb.size (fun b _ h => h) fun b _ hl _ => hb.block b hl⟩
theorem StM.go (h : StM w lo v k ss) (hr : r < lo) (hb : Below w.heap.size (adv w r q) w') : StM w' lo v k ss := by
  obtain ⟨xs, h1, h2⟩ := h
  have hz := hb.size
  rw [size_adv] at hz
  exact ⟨xs, own_go h1 hr hb, h2.keep hz (fun b _ h => h) fun b h1 hl _ => (hb.block b hl).trans (heap_adv _ _ _ _ (by omega))⟩
theorem StM.fresh (h : StM w lo v k ss) (hf : 0 < n → ∀ b o, A = some ⟨b, o, none⟩ → w.heap.size ≤ b) (hlo : lo ≤ w.heap.size) : 0 < n → ∀ b o, A = some ⟨b, o, none⟩ → lo ≤ b ∧ v.ownBlock ≠ some b := fun hn b o hA => by
  obtain ⟨xs, h1, -⟩ := h
  have h2 := hf hn b o hA
  refine ⟨by omega, fun e => ?_⟩
  have := (h1.lt b e).2
  omega
theorem StM.app (h1 : w.ownsRow lo 35 2 v k (fl xs)) (h2 : StgOff w lo v.ownBlock xs ss) {A1 : Option Addr} {n1 c1 : Nat} {ph : List Int} {g : Int} (hS : Sl w w.heap.size ILit A1 n1 c1 ph)
    (hf : 0 < n1 → ∀ b o, A1 = some ⟨b, o, none⟩ → lo ≤ b ∧ v.ownBlock ≠ some b) (hO8 : w8.ownsRow lo 35 2 v' (k + 1) (fl xs ++ [.slice A1 n1 c1, .int .i64 g])) (hg : w.grownBy w8 v.ownBlock)
    (hv' : v'.ownBlock = v.ownBlock ∨ v'.ownBlock = some (w.heap.size + 1)) : StM w8 lo v' (k + 1) (ss ++ [(ph, g)]) := by
  have hz := hg.size
  have ho : ∀ b, b < w.heap.size → v.ownBlock ≠ some b → v'.ownBlock ≠ some b := fun b hb hne => by
    rcases hv' with e | e
    · rw [e]; exact hne
    · rw [e]; intro e2; injection e2 with e2; omega
  have hk : ∀ b, lo ≤ b → b < w.heap.size → v.ownBlock ≠ some b → w8.heap[b]? = w.heap[b]? := fun b _ hb hne => hg.block b hb fun e => hne e.symm
  have hR := h2.keep (w' := w8) (own' := v'.ownBlock) hz ho hk
  rw [fl_snoc] at hO8
  refine ⟨_, hO8, by simp [hR.1], fun j u s hu hs => ?_⟩
  rcases Nat.lt_or_ge j xs.length with hl | hl
  · rw [List.getElem?_append_left hl] at hu
    rw [List.getElem?_append_left (by rw [← h2.1]; exact hl)] at hs
    exact hR.2 j u s hu hs
  · have hj : j = xs.length := by
      have := (List.getElem?_eq_some_iff.1 hu).1
      simp at this; omega
    subst hj
    simp at hu
    rw [h2.1] at hs
    simp at hs
    subst hu hs
    refine ⟨rfl, (hS.at1 fun hn b o hA hb => hk b (hf hn b o hA).1 hb (hf hn b o hA).2).more hz, fun hn b o hA => ⟨(hf hn b o hA).1, ho b ?_ (hf hn b o hA).2⟩⟩
    obtain ⟨b', o', hA', hb', -⟩ := hS.2.2.2 hn
    rw [show A1 = some ⟨b, o, none⟩ from hA] at hA'
    injection hA' with hA'
    injection hA' with hA'
    omega
theorem StM.low (h : StM w lo v k ss) {g i : Nat} (hg : g < lo) (u : Value) : StM (w.setCell ⟨g, i, none⟩ u) lo v k ss := by
  obtain ⟨xs, h1, h2⟩ := h
  have hk : ∀ b, lo ≤ b → (w.setCell ⟨g, i, none⟩ u).heap[b]? = w.heap[b]? := fun b hb => Below.heap_setCell w _ _ b (by show b ≠ g; omega)
  exact ⟨xs, own_keep h1 fun b hb _ => hk b hb, h2.keep (by simp [World.setCell]) (fun b _ h => h) fun b hb _ _ => hk b hb⟩
theorem StM.mono {lo' : Nat} (h : StM w lo v k ss) (hl : lo' ≤ lo) : StM w lo' v k ss := by
  obtain ⟨xs, h1, h2, h3⟩ := h
  exact ⟨xs, own_mono h1 hl, h2, fun j x s hx hs => ⟨(h3 j x s hx hs).1, (h3 j x s hx hs).2.1, fun hn b o hA => ⟨Nat.le_trans hl ((h3 j x s hx hs).2.2 hn b o hA).1, ((h3 j x s hx hs).2.2 hn b o hA).2⟩⟩⟩
/-- What the row is: a block of its own, its cells. -/
theorem StM.block (h : StM w lo v k ss) (hk : 0 < k) : ∃ g c cur xs, v = .slice (some ⟨g, 0, none⟩) k c ∧ k ≤ c ∧ c ≤ 9223372036854775807 ∧ lo ≤ g ∧ g < w.heap.size ∧ w.heap[g]? = some (.cells cur 35 (0, 0)) ∧ StgOff w lo (some g) xs ss ∧
    ∀ j x, xs[j]? = some x → cur[j * 2]? = some (SLit x.1) ∧ cur[j * 2 + 1]? = some (.int .i64 x.2) := by
  obtain ⟨xs, h1, h2⟩ := h
  have hl : xs.length = k := by have := h1.1; rw [fl_len] at this; omega
  have hlt := h1.lt
  rcases h1.2 with ⟨rfl, h0⟩ | ⟨g, cap, cur, rfl, hb, hh, hnc, hcm, hcs, htake⟩
  · omega
  · refine ⟨g, cap, cur, xs, rfl, hnc, by unfold maxLen at hcm; exact hcm, hb, lt_of_heap hh, hh, h2, fun j x hx => ?_⟩
    have hj : j < k := by rw [← hl]; exact (List.getElem?_eq_some_iff.1 hx).1
    obtain ⟨e1, e2⟩ := fl_at hx
    rw [← htake, List.getElem?_take, if_pos (by omega)] at e1 e2
    exact ⟨by simpa using e1, by simpa using e2⟩
/-- The stages read so in every world in which the blocks from lo on stand. -/
def KeptS (w : World) (lo : Nat) (A : Option Addr) (n c : Nat) (ss : List (List Int × Int)) : Prop :=
  ∀ w' : World, (∀ b, lo ≤ b → b < w.heap.size → w'.heap[b]? = w.heap[b]?) → SlS w' w.heap.size A n c ss
theorem StM.kept (h : StM w lo v k ss) : ∃ A c, v = .slice A k c ∧ KeptS w lo A k c ss := by
  have hl := h.len
  rcases Nat.eq_zero_or_pos k with h0 | h0
  · subst h0
    have hs : ss = [] := List.eq_nil_of_length_eq_zero hl
    subst hs
    obtain ⟨xs, h1, -⟩ := h
    rcases h1.2 with ⟨rfl, -⟩ | ⟨g, cap, cur, rfl, -, -, -, hcm, -⟩
    · exact ⟨none, 0, rfl, fun w' _ => SlS.nil _ _⟩
    · exact ⟨_, cap, rfl, fun w' _ => ⟨rfl, Nat.zero_le _, by unfold maxLen at hcm; exact hcm, fun h => absurd h (by omega)⟩⟩
  · obtain ⟨g, c, cur, xs, rfl, e1, e2, e3, e4, e5, e6, e7⟩ := h.block h0
    refine ⟨_, c, rfl, fun w' hag => ⟨hl, e1, e2, fun _ => ⟨g, 0, rfl, e4, fun j s hj => ?_⟩⟩⟩
    have e5' := (hag g e3 e4).trans e5
    have hjx : j < xs.length := by rw [e6.1]; exact (List.getElem?_eq_some_iff.1 hj).1
    obtain ⟨f1, f2, f3⟩ := e6.2 j xs[j] s (List.getElem?_eq_getElem hjx) hj
    obtain ⟨g1, g2⟩ := e7 j xs[j] (List.getElem?_eq_getElem hjx)
    refine ⟨_, _, _, ?_, ?_, f2.at1 fun hn b o hA hb => hag b (f3 hn b o hA).1 hb⟩
    · rw [Nat.zero_add, cell_of_row w' g _ cur _ _ e5']; exact g1
    · rw [Nat.zero_add, cell_of_row w' g _ cur _ _ e5', ← f1]; exact g2
theorem StM.slS (h : StM w lo v k ss) : ∃ A c, v = .slice A k c ∧ SlS w w.heap.size A k c ss := by
  obtain ⟨A, c, e, hk⟩ := h.kept
  exact ⟨A, c, e, hk w fun _ _ _ => rfl⟩
/-- A store into the first stage: its green, its phase. -/
theorem StM.store (h : StM w lo v k ss) (hk : 0 < k) : ∃ g c ph gr A1 n1 c1, v = .slice (some ⟨g, 0, none⟩) k c ∧ k ≤ c ∧ c ≤ 9223372036854775807 ∧ lo ≤ g ∧ g < w.heap.size ∧ ss[0]? = some (ph, gr) ∧ w.cell? ⟨g, 0, none⟩ = some (.slice A1 n1 c1) ∧ w.cell? ⟨g, 1, none⟩ = some (.int .i64 gr) ∧ (∀ i, w.frozen? ⟨g, i, none⟩ = false) ∧
    (∀ z : Int, KeptS (w.setCell ⟨g, 1, none⟩ (.int .i64 z)) lo (some ⟨g, 0, none⟩) k c (ss.set 0 (ph, z))) ∧
    ∀ A2 n2 c2 ph2, Sl w w.heap.size ILit A2 n2 c2 ph2 → (0 < n2 → ∀ b o, A2 = some ⟨b, o, none⟩ → lo ≤ b ∧ b ≠ g) → KeptS (w.setCell ⟨g, 0, none⟩ (.slice A2 n2 c2)) lo (some ⟨g, 0, none⟩) k c (ss.set 0 (ph2, gr)) := by
  have hl := h.len
  obtain ⟨g, c, cur, xs, rfl, e1, e2, e3, e4, e5, e6, e7⟩ := h.block hk
  have hxl : 0 < xs.length := by rw [e6.1]; omega
  have hsl : 0 < ss.length := by omega
  have hx0 : xs[0]? = some xs[0] := List.getElem?_eq_getElem hxl
  have hs0 : ss[0]? = some ss[0] := List.getElem?_eq_getElem (by omega)
  obtain ⟨f1, f2, f3⟩ := e6.2 0 _ _ hx0 hs0
  obtain ⟨g1, g2⟩ := e7 0 _ hx0
  have hrow : ∀ (i : Nat) (u : Value) (w' : World), (∀ b, lo ≤ b → b < w.heap.size → w'.heap[b]? = (w.setCell ⟨g, i, none⟩ u).heap[b]?) → ∀ (j : Nat) (s : List Int × Int), 1 ≤ j → i < 2 → ss[j]? = some s → ∃ A' n' c', w'.cell? ⟨g, 0 + j * 2, none⟩ = some (.slice A' n' c') ∧ w'.cell? ⟨g, 0 + j * 2 + 1, none⟩ = some (.int .i64 s.2) ∧ Sl w' w.heap.size ILit A' n' c' s.1 := fun i u w' hag j s hj hi hs => by
    have hjx : j < xs.length := by rw [e6.1]; exact (List.getElem?_eq_some_iff.1 hs).1
    obtain ⟨k1, k2, k3⟩ := e6.2 j xs[j] s (List.getElem?_eq_getElem hjx) hs
    obtain ⟨m1, m2⟩ := e7 j xs[j] (List.getElem?_eq_getElem hjx)
    have hcg : ∀ o, w'.cell? ⟨g, o, none⟩ = (w.setCell ⟨g, i, none⟩ u).cell? ⟨g, o, none⟩ := fun o => World.cell?_of_block (a := ⟨g, o, none⟩) (hag g e3 e4)
    refine ⟨_, _, _, ?_, ?_, k2.at1 fun hn b o hA hb => (hag b (k3 hn b o hA).1 hb).trans (Below.heap_setCell w _ _ b fun e => (k3 hn b o hA).2 (by rw [e]))⟩
    · rw [hcg, Nat.zero_add, World.cell?_setCell_other _ _ _ _ (by first | (simp; done) | (simp; omega)), cell_of_row w g _ cur _ _ e5]; exact m1
    · rw [hcg, Nat.zero_add, World.cell?_setCell_other _ _ _ _ (by first | (simp; done) | (simp; omega)), cell_of_row w g _ cur _ _ e5, ← k1]; exact m2
  have hset : ∀ (s : List Int × Int) (j : Nat) (y : List Int × Int), (ss.set 0 s)[j]? = some y → (j = 0 ∧ y = s) ∨ (1 ≤ j ∧ ss[j]? = some y) := fun s j y hy => by
    rw [List.getElem?_set] at hy
    by_cases hj : 0 = j
    · rw [if_pos hj, if_pos (by omega)] at hy
      injection hy with hy
      exact .inl ⟨hj.symm, hy.symm⟩
    · rw [if_neg hj] at hy
      exact .inr ⟨by omega, hy⟩
  have hsz : ∀ i u, (w.setCell ⟨g, i, none⟩ u).heap.size = w.heap.size := fun i u => by simp [World.setCell]
  refine ⟨g, c, ss[0].1, ss[0].2, xs[0].1.1, xs[0].1.2.1, xs[0].1.2.2, rfl, e1, e2, e3, e4, hs0, by rw [cell_of_row w g _ cur _ _ e5]; exact g1, by rw [cell_of_row w g _ cur _ _ e5, ← f1]; exact g2, fun i => by simp [World.frozen?, e5], fun z w' hag => ?_, fun A2 n2 c2 ph2 hS2 hne w' hag => ?_⟩
  all_goals
    rw [hsz] at hag ⊢
    have hcg : ∀ o, w'.cell? ⟨g, o, none⟩ = _ := fun o => World.cell?_of_block (a := ⟨g, o, none⟩) (hag g e3 e4)
  · refine ⟨by simp [hl], e1, e2, fun _ => ⟨g, 0, rfl, e4, fun j y hy => ?_⟩⟩
    rcases hset _ j y hy with ⟨rfl, rfl⟩ | ⟨hj, hy2⟩
    · refine ⟨xs[0].1.1, xs[0].1.2.1, xs[0].1.2.2, ?_, ?_, f2.at1 fun hn b o hA hb => (hag b (f3 hn b o hA).1 hb).trans (Below.heap_setCell w _ _ b fun e => (f3 hn b o hA).2 (by rw [e]))⟩
      · rw [hcg, World.cell?_setCell_other _ _ _ _ (by simp), cell_of_row w g _ cur _ _ e5]; exact g1
      · rw [hcg, cell_of_row _ _ _ _ _ _ (heap_setCell_same w g 1 cur _ _ e5)]
        have : 1 < cur.size := (Array.getElem?_eq_some_iff.1 g2).1
        simp [this]
    · exact hrow 1 _ w' hag j y hj (by omega) hy2
  · refine ⟨by simp [hl], e1, e2, fun _ => ⟨g, 0, rfl, e4, fun j y hy => ?_⟩⟩
    rcases hset _ j y hy with ⟨rfl, rfl⟩ | ⟨hj, hy2⟩
    · refine ⟨A2, n2, c2, ?_, ?_, hS2.at1 fun hn b o hA hb => (hag b (hne hn b o hA).1 hb).trans (Below.heap_setCell w _ _ b (hne hn b o hA).2)⟩
      · rw [hcg, cell_of_row _ _ _ _ _ _ (heap_setCell_same w g 0 cur _ _ e5)]
        have : 0 < cur.size := (Array.getElem?_eq_some_iff.1 g1).1
        simp [this]
      · rw [hcg, World.cell?_setCell_other _ _ _ _ (by simp), cell_of_row w g _ cur _ _ e5, ← f1]; exact g2
    · exact hrow 0 _ w' hag j y hj (by omega) hy2
end
end Go.Proofs.Ytckohbjgogbfaaa
