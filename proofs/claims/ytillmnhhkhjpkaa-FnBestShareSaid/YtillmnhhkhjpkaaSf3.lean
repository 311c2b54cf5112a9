/- Rows of calls that the call owns. -/
import Derived.Test.YtillmnhhkhjpkaaSf2
import Derived.Maps.AppendAt
set_option linter.unusedVariables false
set_option linter.unusedSimpArgs false
namespace Go.Proofs.Ytillmnhhkhjpkaa
open Go.RowKit

theorem info_call : (Try.prog.info? 41).map (fun i => (i.zero, i.size, i.bytes)) = some (some (.agg #[.int .i64 0, .int .i64 0, .int .i64 0]), 3, 24) := by kernel_rfl
/-- 'out = append(out, u)' with an element of three cells, out the call's own: the new element lies in the last block. -/
theorem wpList_app3 {P : Program} (w0 wr : World) {ops : Array Oper} {rest : List Oper} {o : Oper} {a : Act} {Q : Exit → Act → World → Prop} (hgd : o.guard = none) (s x : Operand) (t : TypeId)
    (ho : o.op = .call { callee := .builtin .append, args := #[s, x], argTypes := #[t, t] })
    (e : TypeId) (i : TypeInfo) (z : Value) (bytes : Nat) (ht : P.underlying t = some (.slice e)) (hi : P.info? e = some i) (hz : i.zero = some z) (hsize : i.size = 3) (hby : i.bytes = bytes) (hzs : z.cells.size = 3) (hbb : bytes ≤ 64)
    (base : Nat) (v : Value) (n : Nat) (xs : List Value) (hs : a.eval s = v) (hown : wr.ownsRow base e 3 v n xs) (u1 u2 u3 : Value) (hu1 : u1.oneCell' = true) (hu2 : u2.oneCell' = true) (hu3 : u3.oneCell' = true) (g : Nat) (hx : a.eval x = .slice (some ⟨g, 0, none⟩) 1 1) (hg : g = wr.heap.size)
    (hn : n ≤ 1099511627776) (hb : Below base w0 wr) (hB : base ≤ wr.heap.size)
    (h : ∀ v' w1, w1.ownsRow base e 3 v' (n + 1) (xs ++ [u1, u2, u3]) → Below base w0 w1 → wr.grownBy w1 v.ownBlock → wpList P ops Q rest (a.put o.dst v') w1) : wpList P ops Q (o :: rest) a (wr.alloc (.cells #[u1, u2, u3] e)) := by
  subst hg
  refine wpList_append_own (wr.alloc (.cells #[u1, u2, u3] e)) hgd s x t ho base e i z 3 bytes ht hi hz hsize hby hzs (by decide) v n xs hs (hown.alloc _) ⟨wr.heap.size, 0, none⟩ 1 1 [u1, u2, u3] hx rfl ?_ ?_ ?_ ?_ (by simp; omega) ?_
  · intro j y hj
    match j, hj with
    | 0, hj =>
      simp at hj
      subst hj
      simp [Addr.add, World.cell?_alloc_new]
    | 1, hj =>
      simp at hj
      subst hj
      simp [Addr.add, World.cell?_alloc_new]
    | 2, hj =>
      simp at hj
      subst hj
      simp [Addr.add, World.cell?_alloc_new]
  · intro y hy
    simp at hy
    rcases hy with rfl | rfl | rfl
    · exact hu1
    · exact hu2
    · exact hu3
  · unfold maxLen; omega
  · have : (n + 1) * bytes ≤ (1099511627776 + 1) * 64 := Nat.mul_le_mul (by omega) hbb
    omega
  · intro v' w1 h1 h2 _
    refine h v' w1 h1 ((hb.alloc hB _).grown h2 (by simp; omega) fun k hk => (hown.lt k hk).1) ?_
    exact ⟨h2.os, h2.tape, h2.output, Nat.le_trans (by simp) h2.size, fun k hk hne => (h2.block k (by simp; omega) hne).trans (Below.heap_alloc wr _ k hk)⟩

/-- The cells of a row of calls. -/
def fc (cs : List CallT) : List Value := cs.flatMap fun c => [.int .i64 c.1, .int .i64 c.2.1, .int .i64 c.2.2]
theorem fc_len (cs : List CallT) : (fc cs).length = cs.length * 3 := by
  induction cs with
  | nil => rfl
  | cons x r ih => simp only [fc, List.flatMap_cons, List.length_append, List.length_cons, List.length_nil] at ih ⊢; omega
theorem fc_at {cs : List CallT} {j : Nat} {c : CallT} (h : cs[j]? = some c) : (fc cs)[j * 3]? = some (.int .i64 c.1) ∧ (fc cs)[j * 3 + 1]? = some (.int .i64 c.2.1) ∧ (fc cs)[j * 3 + 2]? = some (.int .i64 c.2.2) := by
  induction cs generalizing j with
  | nil => simp at h
  | cons y r ih =>
    cases j with
    | zero => simp at h; subst h; exact ⟨rfl, rfl, rfl⟩
    | succ j =>
      simp only [List.getElem?_cons_succ] at h
      obtain ⟨e1, e2, e3⟩ := ih h
      have e : ∀ i, (fc (y :: r))[i + 3]? = (fc r)[i]? := fun i => by simp [fc, List.flatMap_cons]
      exact ⟨by rw [show (j + 1) * 3 = j * 3 + 3 by omega, e]; exact e1, by rw [show (j + 1) * 3 + 1 = j * 3 + 1 + 3 by omega, e]; exact e2, by rw [show (j + 1) * 3 + 2 = j * 3 + 2 + 3 by omega, e]; exact e3⟩
theorem fc_snoc (cs : List CallT) (x y z : Int) : fc cs ++ [.int .i64 x, .int .i64 y, .int .i64 z] = fc (cs ++ [(x, y, z)]) := by simp [fc]

section
variable {w w' : World} {base k n c B r q : Nat} {v : Value} {A : Option Addr} {cs : List CallT}
/-- What is owned, read as a slice of calls. -/
theorem own_slC (h : w.ownsRow base 41 3 v k (fc cs)) : ∃ A c, v = .slice A k c ∧ SlC w w.heap.size A k c cs ∧ (0 < k → ∀ b o, A = some ⟨b, o, none⟩ → base ≤ b) ∧
    (0 < k → ∃ g x y z, A = some ⟨g, 0, none⟩ ∧ base ≤ g ∧ g < w.heap.size ∧ w.cell? ⟨g, 0, none⟩ = some (.int .i64 x) ∧ w.cell? ⟨g, 1, none⟩ = some (.int .i64 y) ∧ w.frozen? ⟨g, 1, none⟩ = false ∧ SlC (w.setCell ⟨g, 1, none⟩ (.int .i64 x)) w.heap.size A k c (cs.set 0 (x, x, z))) := by
  have hl : cs.length = k := by have := h.1; rw [fc_len] at this; omega
  rcases h.2 with ⟨rfl, rfl⟩ | ⟨g, cap, cur, rfl, hb, hh, hnc, hcm, hcs, htake⟩
  · have : cs = [] := List.eq_nil_of_length_eq_zero hl
    subst this
    exact ⟨none, 0, rfl, SlC.nil _ _, fun h => absurd h (by omega), fun h => absurd h (by omega)⟩
  · have hat : ∀ (j : Nat) (s : CallT), cs[j]? = some s → cur[j * 3]? = some (.int .i64 s.1) ∧ cur[j * 3 + 1]? = some (.int .i64 s.2.1) ∧ cur[j * 3 + 2]? = some (.int .i64 s.2.2) := fun j s hs => by
      have hj : j < k := by rw [← hl]; exact (List.getElem?_eq_some_iff.1 hs).1
      obtain ⟨e1, e2, e3⟩ := fc_at hs
      rw [← htake, List.getElem?_take, if_pos (by omega)] at e1 e2 e3
      exact ⟨by simpa using e1, by simpa using e2, by simpa using e3⟩
    refine ⟨_, cap, rfl, ⟨hl, hnc, by unfold maxLen at hcm; exact hcm, fun _ => ⟨g, 0, rfl, lt_of_heap hh, fun j s hs => ?_⟩⟩, fun _ b o hA => ?_, fun hk => ?_⟩
    · obtain ⟨e1, e2, e3⟩ := hat j s hs
      refine ⟨?_, ?_, ?_⟩ <;> rw [Nat.zero_add, cell_of_row _ _ _ _ _ _ hh]
      · exact e1
      · exact e2
      · exact e3
    · injection hA with hA
      injection hA with hA
      omega
    · cases cs with
      | nil => simp at hl; omega
      | cons s rest =>
        obtain ⟨e1, e2, e3⟩ := hat 0 s rfl
        simp only [Nat.zero_mul, Nat.zero_add] at e1 e2 e3
        have hsz : 1 < cur.size := (Array.getElem?_eq_some_iff.1 e2).1
        have hset := heap_setCell_same w g 1 cur _ (.int .i64 s.1) hh
        refine ⟨g, s.1, s.2.1, s.2.2, rfl, hb, lt_of_heap hh, by rw [cell_of_row _ _ _ _ _ _ hh]; exact e1, by rw [cell_of_row _ _ _ _ _ _ hh]; exact e2, by simp [World.frozen?, hh], by simpa using hl, hnc, by unfold maxLen at hcm; exact hcm, fun _ => ⟨g, 0, rfl, lt_of_heap hh, fun j t ht => ?_⟩⟩
        cases j with
        | zero =>
          simp at ht
          subst ht
          simp only [Nat.zero_mul, Nat.zero_add]
          refine ⟨?_, ?_, ?_⟩ <;> rw [cell_of_row _ _ _ _ _ _ hset, Array.getElem?_setIfInBounds]
          · simpa using e1
          · simp [hsz]
          · simpa using e3
        | succ j =>
          have ht' : (s :: rest)[j + 1]? = some t := by simpa using ht
          obtain ⟨f1, f2, f3⟩ := hat (j + 1) t ht'
          refine ⟨?_, ?_, ?_⟩ <;> rw [Nat.zero_add, cell_of_row _ _ _ _ _ _ hset, Array.getElem?_setIfInBounds, if_neg (by omega)]
          · exact f1
          · exact f2
          · exact f3
theorem SlC.adv (h : SlC w B A n c cs) (hne : 0 < n → ∀ b o, A = some ⟨b, o, none⟩ → b ≠ r) : SlC (adv w r q) B A n c cs := by
  obtain ⟨h1, h2, h3, h4⟩ := h
  refine ⟨h1, h2, h3, fun hn => ?_⟩
  obtain ⟨b, o, hA, hb, hc⟩ := h4 hn
  refine ⟨b, o, hA, hb, fun j s hs => ?_⟩
  rw [cell?_adv _ _ _ _ _ (hne hn b o hA), cell?_adv _ _ _ _ _ (hne hn b o hA), cell?_adv _ _ _ _ _ (hne hn b o hA)]
  exact hc j s hs
end
/-- Some list of at most m calls, the reader gone on to at most p + K. -/
def CallsOf (w : World) (r p m K : Nat) (e : Ending) (w' : World) : Prop :=
  ∃ A n c q cs, e = .returned (.slice A n c) ∧ SlC w' w'.heap.size A n c cs ∧ n ≤ m ∧ q ≤ p + K ∧ Below w.heap.size (adv w r q) w' ∧ (0 < n → ∀ b o, A = some ⟨b, o, none⟩ → w.heap.size ≤ b)
end Go.Proofs.Ytillmnhhkhjpkaa
