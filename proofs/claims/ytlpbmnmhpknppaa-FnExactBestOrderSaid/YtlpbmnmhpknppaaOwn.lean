/- Rows that the call itself makes: one element appended; what is owned read as a slice. -/
import Derived.Test.YtlpbmnmhpknppaaData
import Derived.OwnWalk
import Derived.Laws.BytesArg
set_option linter.unusedVariables false
set_option linter.unusedSimpArgs false
namespace Go.Proofs.Ytlpbmnmhpknppaa
open Go.RowKit

/-- 'out = append(out, u)', out the call's own: the new element lies in the last block. -/
theorem wpList_app1 {P : Program} (w0 wr : World) {ops : Array Oper} {rest : List Oper} {o : Oper} {a : Act} {Q : Exit → Act → World → Prop} (hgd : o.guard = none) (s x : Operand) (t : TypeId)
    (ho : o.op = .call { callee := .builtin .append, args := #[s, x], argTypes := #[t, t] })
    (e : TypeId) (i : TypeInfo) (z : Value) (bytes : Nat) (ht : P.underlying t = some (.slice e)) (hi : P.info? e = some i) (hz : i.zero = some z) (hsize : i.size = 1) (hby : i.bytes = bytes) (hzs : z.cells.size = 1) (hbb : bytes ≤ 64)
    (base : Nat) (v : Value) (n : Nat) (xs : List Value) (hs : a.eval s = v) (hown : wr.ownsRow base e 1 v n xs) (u : Value) (hu : u.oneCell' = true) (g : Nat) (hx : a.eval x = .slice (some ⟨g, 0, none⟩) 1 1) (hg : g = wr.heap.size)
    (hn : n ≤ 1099511627776) (hb : Below base w0 wr) (hB : base ≤ wr.heap.size)
    (h : ∀ v' w1, w1.ownsRow base e 1 v' (n + 1) (xs ++ [u]) → Below base w0 w1 → wr.grownBy w1 v.ownBlock → wpList P ops Q rest (a.put o.dst v') w1) : wpList P ops Q (o :: rest) a (wr.alloc (.cells #[u] e)) := by
  subst hg
  refine wpList_append_own (wr.alloc (.cells #[u] e)) hgd s x t ho base e i z 1 bytes ht hi hz hsize hby hzs (by decide) v n xs hs (hown.alloc _) ⟨wr.heap.size, 0, none⟩ 1 1 [u] hx rfl ?_ ?_ ?_ ?_ (by simp; omega) ?_
  · intro j y hj
    match j, hj with
    | 0, hj =>
      simp at hj
      subst hj
      simp [Addr.add, World.cell?_alloc_new]
  · intro y hy
    simp at hy
    subst hy
    exact hu
  · unfold maxLen; omega
  · have : (n + 1) * bytes ≤ (1099511627776 + 1) * 64 := Nat.mul_le_mul (by omega) hbb
    omega
  · intro v' w1 h1 h2 _
    refine h v' w1 h1 ((hb.alloc hB _).grown h2 (by simp; omega) fun k hk => (hown.lt k hk).1) ?_
    exact ⟨h2.os, h2.tape, h2.output, Nat.le_trans (by simp) h2.size, fun k hk hne => (h2.block k (by simp; omega) hne).trans (Below.heap_alloc wr _ k hk)⟩

/-- What is owned, read as a slice. -/
theorem own_sl {α : Type} {w : World} {base : Nat} {e : TypeId} {v : Value} {n : Nat} {f : α → Value} {xs : List α} (h : w.ownsRow base e 1 v n (xs.map f)) :
    ∃ A c, v = .slice A n c ∧ Sl w w.heap.size f A n c xs := by
  have hl : xs.length = n := by have := h.1; simpa using this
  rcases h.2 with ⟨rfl, rfl⟩ | ⟨g, cap, cur, rfl, hb, hh, hnc, hcm, hcs, htake⟩
  · exact ⟨none, 0, rfl, hl, Nat.le_refl _, by omega, fun h => absurd h (by omega)⟩
  · have hlt : g < w.heap.size := by
      rcases Nat.lt_or_ge g w.heap.size with h' | h'
      · exact h'
      · rw [Array.getElem?_eq_none h'] at hh; cases hh
    refine ⟨some ⟨g, 0, none⟩, cap, rfl, hl, hnc, by unfold maxLen at hcm; exact hcm, fun hp => ⟨g, 0, rfl, hlt, fun j x hx => ?_⟩⟩
    have hjn : j < n := by
      have : j < xs.length := (List.getElem?_eq_some_iff.1 hx).1
      omega
    rw [Nat.zero_add, cell_of_row w g j cur e (0, 0) hh]
    have h2 : (cur.toList.take (n * 1))[j]? = (xs.map f)[j]? := by rw [htake]
    rw [List.getElem?_take, if_pos (by omega), List.getElem?_map, hx] at h2
    simpa using h2

/-- string(b) of a slice of bytes. -/
theorem run_bytes_str {P : Program} (w : World) (src e dst : TypeId) (hs : P.underlying src = some (.slice e)) (he : P.underlying e = some (.int .u8)) (hd : P.underlying dst = some .string) {A : Option Addr} {n c B : Nat} {l : List UInt8}
    (h : Sl w B (fun x : UInt8 => Value.int .u8 x.toNat) A n c l) : (convert src dst (.slice A n c)).run P w = .ok (.string ⟨l.toArray⟩) w := by
  have hl := h.len
  rcases Nat.eq_zero_or_pos n with h0 | h0
  · subst h0
    have hnil : l = [] := List.eq_nil_of_length_eq_zero hl
    subst hnil
    rw [run_convert_bytes_string w src dst e A 0 c hs he hd]
    cases A with
    | none => simp [Conv.bytesToString]; rfl
    | some a =>
      rw [run_bytesToString w a 0 c [] (by simp [loadCells, loadCellsFrom])]
      rfl
  · obtain ⟨-, -, -, h4⟩ := h
    obtain ⟨b, o, rfl, hb, hc⟩ := h4 h0
    have := run_convert_bytes_arg (P := P) w src e hs he b o n c (l.map fun x => (x.toNat : Int)) (by simpa using hl) (fun i hi => by
      have hi2 : i < l.length := by omega
      have := hc i l[i] (List.getElem?_eq_getElem hi2)
      rw [this]
      simp [List.getElem?_eq_getElem hi2]) dst hd
    rw [this]
    have hid : ((fun n : Int => UInt8.ofNat n.toNat) ∘ fun x : UInt8 => (x.toNat : Int)) = id := by funext x; simp
    simp [strOfNums, hid]
end Go.Proofs.Ytlpbmnmhpknppaa
