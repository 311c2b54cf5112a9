/- A new fleet, walked. -/
import Derived.Test.YtillmnhhkhjpkaaSb4
import Derived.Laws.CopyRow
import Derived.Deep.WholeRow
set_option linter.unusedVariables false
set_option linter.unusedSimpArgs false
namespace Go.Proofs.Ytillmnhhkhjpkaa
open Go.RowKit

theorem info_int1 : (Try.prog.info? 3).map (·.size) = some 1 := by kernel_rfl
theorem copy_new (w : World) (b o n c k : Nat) (cars : List Int) (row : Array Value) (hb : b < w.heap.size) (hk : cars.length = k) (hn : n = k) (h3 : k ≤ 3) (hcell : ∀ (j : Nat) (x : Int), cars[j]? = some x → w.cell? ⟨b, o + j, none⟩ = some (ILit x))
    (hrow : (cars.map ILit ++ (#[Value.int .i64 0, .int .i64 0, .int .i64 0, .int .i64 0, .int .i64 0, .int .i64 0] : Array Value).toList.drop k).toArray = row) :
    Sem.run Try.prog (Builtin.copy_ #[23, 23] 3 #[.slice (some ⟨w.heap.size + 1, 0, none⟩) 3 3, .slice (some ⟨b, o, none⟩) n c]) ((w.alloc (.cells #[.int .i64 0, .int .i64 0, .int .i64 0, .int .i64 0, .int .i64 0, .int .i64 0] 37)).alloc (.cells #[.int .i64 0, .int .i64 0, .int .i64 0, .int .i64 0, .int .i64 0, .int .i64 0] 37)) = .ok (goInt k) ((w.alloc (.cells #[.int .i64 0, .int .i64 0, .int .i64 0, .int .i64 0, .int .i64 0, .int .i64 0] 37)).alloc (.cells row 37)) := by
  subst hn hk
  obtain ⟨wa, hwa⟩ : ∃ wa, w.alloc (.cells #[.int .i64 0, .int .i64 0, .int .i64 0, .int .i64 0, .int .i64 0, .int .i64 0] 37) = wa := ⟨_, rfl⟩
  have hza : wa.heap.size = w.heap.size + 1 := by rw [← hwa]; simp
  have hba : Below w.heap.size w wa := by rw [← hwa]; exact (Below.refl _ _).alloc (Nat.le_refl _) _
  have hbb := hba.alloc hba.size (.cells #[.int .i64 0, .int .i64 0, .int .i64 0, .int .i64 0, .int .i64 0, .int .i64 0] 37)
  rw [hwa, ← hza]
  have h := run_copy_row (P := Try.prog) (wa.alloc (.cells #[.int .i64 0, .int .i64 0, .int .i64 0, .int .i64 0, .int .i64 0, .int .i64 0] 37)) 23 23 3 3 wa.heap.size 0 3 3 ⟨b, o, none⟩ cars.length c #[.int .i64 0, .int .i64 0, .int .i64 0, .int .i64 0, .int .i64 0, .int .i64 0] 37 (cars.map ILit) Try.underlying23 info_int1 (heap_alloc_new wa _)
    (by rw [List.length_map]; exact (Nat.min_eq_left h3).symm)
    (fun j v hv => by
      rw [List.getElem?_map] at hv
      obtain ⟨x, hx, rfl⟩ := Option.map_eq_some_iff.1 hv
      rw [Addr.add_lit]
      exact (hbb.cell (p := ⟨b, o + j, none⟩) hb).trans (hcell j x hx))
    (by rw [List.length_map]; simp; omega)
    (fun v hv => by
      obtain ⟨x, -, rfl⟩ := List.mem_map.1 hv; rfl)
  rw [World.setRow_alloc_new, List.length_map, List.take_zero, List.nil_append, Nat.zero_add, hrow] at h
  exact h
theorem newFleet_c (A : Option Addr) (n c : Nat) (cars : List Int) (w : World) (B : Nat) (hS : Sl w B ILit A n c cars) (hB : B ≤ w.heap.size) (h1 : 1 ≤ n) (h3 : n ≤ 3) :
    Calls Try.prog 15 #[.slice A n c] w fun e w' => e = .returned (flt0 cars).v ∧ Below w.heap.size w w' := by
  obtain ⟨hc0, hc1⟩ := hS.cap
  have hl := hS.len
  obtain ⟨b, o, rfl, hb, hcell⟩ := hS.2.2.2 (by omega)
  clear hS
  rcases cars with _ | ⟨x, _ | ⟨y, _ | ⟨z, _ | ⟨u, r⟩⟩⟩⟩
  · simp at hl; omega
  · have hcp := copy_new w b o n c 1 [x] _ (by omega) rfl (by simpa using hl.symm) (by omega) hcell rfl
    simp only [List.map_cons, List.map_nil, List.drop_succ_cons, List.drop_zero, List.cons_append, List.nil_append, ILit] at hcp
    go_enter Try.func15, Try.ntmps15
    go_wp2_with fail
    go_returns
    exact ⟨by simp [flt0], by (repeat' (first | (with_reducible exact Below.refl _ _) | (with_reducible assumption) | (with_reducible refine Below.alloc ?_ ?_ _) | (with_reducible refine below_plus ?_ ?_ _ _) | (with_reducible refine Below.drew ?_) | (with_reducible refine Below.setCell ?_ ?_ _) | (with_reducible refine below_adv ?_ ?_ _) | go_size | (simp; done) | (simp; omega)))⟩
  · have hcp := copy_new w b o n c 2 [x, y] _ (by omega) rfl (by simpa using hl.symm) (by omega) hcell rfl
    simp only [List.map_cons, List.map_nil, List.drop_succ_cons, List.drop_zero, List.cons_append, List.nil_append, ILit] at hcp
    go_enter Try.func15, Try.ntmps15
    go_wp2_with fail
    go_returns
    exact ⟨by simp [flt0], by (repeat' (first | (with_reducible exact Below.refl _ _) | (with_reducible assumption) | (with_reducible refine Below.alloc ?_ ?_ _) | (with_reducible refine below_plus ?_ ?_ _ _) | (with_reducible refine Below.drew ?_) | (with_reducible refine Below.setCell ?_ ?_ _) | (with_reducible refine below_adv ?_ ?_ _) | go_size | (simp; done) | (simp; omega)))⟩
  · have hcp := copy_new w b o n c 3 [x, y, z] _ (by omega) rfl (by simpa using hl.symm) (by omega) hcell rfl
    simp only [List.map_cons, List.map_nil, List.drop_succ_cons, List.drop_zero, List.cons_append, List.nil_append, ILit] at hcp
    go_enter Try.func15, Try.ntmps15
    go_wp2_with fail
    go_returns
    exact ⟨by simp [flt0], by (repeat' (first | (with_reducible exact Below.refl _ _) | (with_reducible assumption) | (with_reducible refine Below.alloc ?_ ?_ _) | (with_reducible refine below_plus ?_ ?_ _ _) | (with_reducible refine Below.drew ?_) | (with_reducible refine Below.setCell ?_ ?_ _) | (with_reducible refine below_adv ?_ ?_ _) | go_size | (simp; done) | (simp; omega)))⟩
  · simp at hl; omega
end Go.Proofs.Ytillmnhhkhjpkaa
