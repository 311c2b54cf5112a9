/- slices.Clone and slices.Sort at []int, in my own words. -/
import Derived.Test.YtdggdibfgenadaaShelf
import Derived.Test.YtdggdibfgenadaaBt3
set_option linter.unusedVariables false
set_option linter.unusedSimpArgs false
namespace Go.Proofs.Ytdggdibfgenadaa
open Go.RowKit

theorem clone_c (A : Option Addr) (n c : Nat) (xs : List Int) (w : World) (B : Nat) (hS : Sl w B ILit A n c xs) (hn : n ≤ 1099511627776) :
    Calls Try.prog 36 #[.slice A n c] w (OwnInts w n xs) := by
  cases A with
  | none =>
    have hn0 : n = 0 := by
      rcases Nat.eq_zero_or_pos n with h | h
      · exact h
      · obtain ⟨b, o, hA, -⟩ := hS.2.2.2 h
        cases hA
    subst hn0
    have hx : xs = [] := List.eq_nil_of_length_eq_zero hS.len
    subst hx
    refine (Try.slices_Clone_int_nil 0 c w).mono ?_
    rintro e w' ⟨rfl, rfl⟩
    exact ⟨_, rfl, World.ownsRow_nil _ _ _ _, Below.refl _ _⟩
  | some a =>
    rcases Nat.eq_zero_or_pos n with h0 | h0
    · subst h0
      have hx : xs = [] := List.eq_nil_of_length_eq_zero hS.len
      subst hx
      refine (Try.slices_Clone_int_zero a c w).mono ?_
      rintro e w' ⟨v, rfl, h1, -, h2⟩
      exact ⟨v, rfl, h1, h2⟩
    · obtain ⟨b, o, hA, hb, hc⟩ := hS.2.2.2 h0
      injection hA with hA
      subst hA
      have hl := hS.len
      refine (Try.slices_Clone_int b o n c xs w (by omega) (by omega) (fun j hj => by
        rw [hc j xs[j] (List.getElem?_eq_getElem hj), List.getD_eq_getElem?_getD, List.getElem?_eq_getElem hj]; rfl)).mono ?_
      rintro e w' ⟨v, rfl, h1, -, h2⟩
      rw [List.take_of_length_le (by omega)] at h1
      exact ⟨v, rfl, h1, h2⟩

/-- What slices.Sort leaves. -/
def SortedInts (w : World) (base : Nat) (A : Option Addr) (n c : Nat) (xs : List Int) (e : Ending) (w' : World) : Prop :=
  e = .returned (.tuple #[]) ∧ Ow w' base 3 ILit A n c (sortI xs) ∧ Below base w w'

theorem sort_c (A : Option Addr) (n c : Nat) (xs : List Int) (w : World) (base : Nat) (hO : Ow w base 3 ILit A n c xs) (hn : n ≤ 1099511627776) :
    Calls Try.prog 37 #[.slice A n c] w (SortedInts w base A n c xs) := by
  have hl := hO.len
  rcases Nat.eq_zero_or_pos n with h0 | h0
  · subst h0
    have hx : xs = [] := List.eq_nil_of_length_eq_zero hl
    subst hx
    refine (Try.slices_Sort_int_none A c w).mono ?_
    rintro e w' ⟨rfl, rfl⟩
    have e0 : sortI [] = [] := by simp [sortI]
    exact ⟨rfl, by rw [e0]; exact hO, Below.refl _ _⟩
  · obtain ⟨g, cs, rfl, hb, hh, hc⟩ := hO.2.2.2 h0
    have hg := lt_of_heap hh
    have hH : Go.Sort.Holds (Value.int .i64) w g 0 xs.toArray := by
      intro j hj
      have hj2 : j < xs.length := by simpa using hj
      rw [Nat.zero_add]
      obtain ⟨c1, c2, -, -⟩ := hO.cell_ (List.getElem?_eq_getElem hj2)
      refine ⟨?_, c2⟩
      rw [c1]
      simp [ILit, hj2]
    have hcall := Try.slices_Sort_int g 0 c xs w hH hg (by omega)
    rw [hl] at hcall
    refine hcall.mono ?_
    rintro e w' ⟨rfl, k, os, rfl⟩
    have hls := sortI_len xs
    have hheap : (Go.Sort.grow (Go.Sort.putRow (Value.int .i64) (Go.Sort.ahead w k) g 0 (xs.mergeSort fun x y => decide (x ≤ y)).toArray) os).heap[g]? = some (.cells (Go.Sort.putCells (Value.int .i64) 0 (sortI xs).toArray cs) 3 (0, 0)) := by
      show (_ ++ os)[g]? = _
      rw [Array.getElem?_append_left (by simpa using hg)]
      simp only [Go.Sort.putRow, Go.Sort.mapBlock, Go.Sort.heap_ahead, Array.getElem?_modify, if_true, hh, Option.map_some, Go.Sort.onCells, sortI]
    have hother : ∀ b, b ≠ g → b < w.heap.size → (Go.Sort.grow (Go.Sort.putRow (Value.int .i64) (Go.Sort.ahead w k) g 0 (xs.mergeSort fun x y => decide (x ≤ y)).toArray) os).heap[b]? = w.heap[b]? := by
      intro b hne hlt
      show (_ ++ os)[b]? = _
      rw [Array.getElem?_append_left (by simpa using hlt)]
      simp [Go.Sort.putRow, Go.Sort.mapBlock, Array.getElem?_modify, Ne.symm hne]
    refine ⟨rfl, ⟨by rw [hls, hl], hO.2.1, hO.2.2.1, fun _ => ⟨g, _, rfl, hb, hheap, fun j x hx => ?_⟩⟩, ?_⟩
    · have hj := (List.getElem?_eq_some_iff.1 hx).1
      have hjl : j < xs.length := by omega
      have hjc : j < cs.size := by
        have := hc j xs[j] (List.getElem?_eq_getElem hjl)
        exact (Array.getElem?_eq_some_iff.1 this).1
      rw [Go.Sort.putCells, Array.getElem?_mapIdx, Array.getElem?_eq_getElem hjc]
      simp only [Option.map_some, Nat.zero_le, true_and, Nat.zero_add, Nat.sub_zero]
      rw [if_pos (by simpa using hj)]
      have : (sortI xs).toArray[j]! = x := by
        obtain ⟨h1, h2⟩ := List.getElem?_eq_some_iff.1 hx
        simp [h1, h2]
      rw [this]; rfl
    · exact ⟨rfl, rfl, rfl, by show w.heap.size ≤ (_ ++ os).size; simp, fun b hlt => hother b (by omega) (by omega)⟩
end Go.Proofs.Ytdggdibfgenadaa
