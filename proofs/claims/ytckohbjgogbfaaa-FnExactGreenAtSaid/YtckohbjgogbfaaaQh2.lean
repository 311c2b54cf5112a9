/- The exact laws' copies of plans: toStage, toStageS, toPlan. -/
import Derived.Test.YtckohbjgogbfaaaQh1
import Derived.Test.YtckohbjgogbfaaaQg1
set_option linter.unusedVariables false
set_option linter.unusedSimpArgs false
namespace Go.Proofs.Ytckohbjgogbfaaa
open Go.RowKit

/-- 'make([]T, n)', T of two cells. -/
theorem run_make_two {P : Program} (t e : TypeId) (z a b : Value) (bytes : Nat) (ht : P.underlying t = some (.slice e)) (hinfo : (P.info? e).map (fun i => (i.zero, i.size, i.bytes)) = some (some z, 2, bytes)) (hz2 : z.cells = #[a, b])
    (n : Nat) (hbytes : bytes * n ≤ 281474976710656) (h63 : n ≤ 9223372036854775807) (w : World) :
    (Instr.makeSlice t (.int .i64 (n : Int)) (.int .i64 (n : Int))).run P w = .ok (.slice (some ⟨w.heap.size, 0, none⟩) n n) (w.alloc (.cells (madeCells #[a, b] (n * 2)) e)) := by
  obtain ⟨i, hi, hzz⟩ := Option.map_eq_some_iff.1 hinfo
  simp only [Prod.mk.injEq] at hzz
  obtain ⟨hz, hs, hb⟩ := hzz
  have hb' : (i.bytes : Int) * (n : Int) ≤ 281474976710656 := by
    have h : ((i.bytes * n : Nat) : Int) ≤ 281474976710656 := by rw [hb]; omega
    rwa [Int.natCast_mul] at h
  have hr := run_make (P := P) w t e i z ht hi hz .i64 .i64 n n (by omega) (Int.le_refl _) hb' (by omega)
  simp only [Int.toNat_natCast, hs, hz2] at hr
  exact hr

theorem Sl.set_past {α : Type} {w : World} {B g1 n c : Nat} {f : α → Value} {xs : List α} (h : Sl w B f (some ⟨g1, 0, none⟩) n c xs) (a : Addr) (v : Value) (hne : g1 ≠ a.block) : Sl (w.setCell a v) B f (some ⟨g1, 0, none⟩) n c xs := by
  refine h.at1 fun _ b o hA _ => ?_
  have hbg : g1 = b := by simpa using congrArg (fun x => x.map (·.block)) hA
  exact Below.heap_setCell _ _ _ _ (by rw [← hbg]; exact hne)

/-- A stage copied: the phase lies in a new block. -/
def FreshStage (w : World) (ph : List Int) (g : Int) (e : Ending) (w1 : World) : Prop :=
  ∃ g1 m, e = .returned (.agg #[.slice (some ⟨g1, 0, none⟩) m m, .int .i64 g]) ∧ Ow w1 g1 3 ILit (some ⟨g1, 0, none⟩) m m ph ∧ w.heap.size ≤ g1 ∧ g1 < w1.heap.size ∧ Below w.heap.size w w1

set_option maxHeartbeats 800000 in
theorem toStage_f (A : Option Addr) (n c : Nat) (ph : List Int) (g : Int) (w : World) (B : Nat) (hS : Sl w B ILit A n c ph) (hB : B ≤ w.heap.size) (hn : n ≤ 1048576) :
    Calls Try.prog 65 #[.agg #[.slice A n c, .int .i64 g]] w (FreshStage w ph g) := by
  obtain ⟨W2, hW2⟩ : ∃ W2, w.alloc (.cells #[.slice A n c, .int .i64 g] 82) = W2 := ⟨_, rfl⟩
  obtain ⟨W3, hW3⟩ : ∃ W3, W2.alloc (.cells #[.slice none 0 0, .int .i64 0] 35) = W3 := ⟨_, rfl⟩
  obtain ⟨W4, hW4⟩ : ∃ W4, W3.alloc (.cells #[.slice none 0 0, .int .i64 0] 35) = W4 := ⟨_, rfl⟩
  have z2 : W2.heap.size = w.heap.size + 1 := by rw [← hW2]; simp
  have z3 : W3.heap.size = w.heap.size + 1 + 1 := by rw [← hW3]; simp [z2]
  have z4 : W4.heap.size = w.heap.size + 1 + 1 + 1 := by rw [← hW4]; simp [z3]
  have b2 : Below w.heap.size w W2 := by rw [← hW2]; exact (Below.refl _ _).alloc (Nat.le_refl _) _
  have b3 : Below W2.heap.size W2 W3 := by rw [← hW3]; exact (Below.refl _ _).alloc (Nat.le_refl _) _
  have b4 : Below W3.heap.size W3 W4 := by rw [← hW4]; exact (Below.refl _ _).alloc (Nat.le_refl _) _
  have hh : W4.heap[w.heap.size]? = some (.cells #[.slice A n c, .int .i64 g] 82 (0, 0)) := by
    rw [b4.block _ (by omega), b3.block _ (by omega), ← hW2]; exact heap_alloc_new w _
  have hh1 : W4.heap[w.heap.size + 1]? = some (.cells #[.slice none 0 0, .int .i64 0] 35 (0, 0)) := by
    rw [b4.block _ (by omega), ← hW3, ← z2]; exact heap_alloc_new W2 _
  have hh2 : W4.heap[w.heap.size + 1 + 1]? = some (.cells #[.slice none 0 0, .int .i64 0] 35 (0, 0)) := by
    rw [← hW4, ← z3]; exact heap_alloc_new W3 _
  have hb : Below w.heap.size w W4 := (b2.trans (b3.mono (by omega))).trans (b4.mono (by omega))
  have k0 : W4.cell? ⟨w.heap.size, 0, none⟩ = some (.slice A n c) := by rw [cell_of_row _ _ _ _ _ _ hh]; rfl
  have hS0 := ((hS.more hB).below hb).more hb.size
  have CI := Lib.hid (toIntS_f A n c ph W4 _ hS0 (Nat.le_refl _) (by omega))
  have HH := Lib.hid hh
  have HH1 := Lib.hid hh1
  have HH2 := Lib.hid hh2
  have HB := Lib.hid hb
  have Z4 := Lib.hid z4
  clear hS hS0 b2 b3 b4 hh hh1 hh2 hb z4
  go_enter Try.func65, Try.ntmps65
  go_wp2_with fail
  clear hW2 hW3 hW4 z2 z3
  refine CI.out.mono ?_
  rintro e w1 ⟨g1, rfl, hO1, hg1, hg2, hb1⟩
  have hz4 := Z4.out
  have i0 := (hb1.block _ (show w.heap.size < W4.heap.size by omega)).trans HH.out
  have i1 := (hb1.block _ (show w.heap.size + 1 < W4.heap.size by omega)).trans HH1.out
  have i2 := (hb1.block _ (show w.heap.size + 1 + 1 < W4.heap.size by omega)).trans HH2.out
  have c00 : w1.cell? ⟨w.heap.size, 0, none⟩ = some (.slice A n c) := by rw [cell_of_row _ _ _ _ _ _ i0]; rfl
  have c01 : w1.cell? ⟨w.heap.size, 1, none⟩ = some (.int .i64 g) := by rw [cell_of_row _ _ _ _ _ _ i0]; rfl
  have c10 : w1.cell? ⟨w.heap.size + 1, 0, none⟩ = some (.slice none 0 0) := by rw [cell_of_row _ _ _ _ _ _ i1]; rfl
  have c11 : w1.cell? ⟨w.heap.size + 1, 1, none⟩ = some (.int .i64 0) := by rw [cell_of_row _ _ _ _ _ _ i1]; rfl
  have c20 : w1.cell? ⟨w.heap.size + 1 + 1, 0, none⟩ = some (.slice none 0 0) := by rw [cell_of_row _ _ _ _ _ _ i2]; rfl
  have c21 : w1.cell? ⟨w.heap.size + 1 + 1, 1, none⟩ = some (.int .i64 0) := by rw [cell_of_row _ _ _ _ _ _ i2]; rfl
  have f10 : w1.frozen? ⟨w.heap.size + 1, 0, none⟩ = false := by simp [World.frozen?, i1]
  have f11 : w1.frozen? ⟨w.heap.size + 1, 1, none⟩ = false := by simp [World.frozen?, i1]
  have f20 : w1.frozen? ⟨w.heap.size + 1 + 1, 0, none⟩ = false := by simp [World.frozen?, i2]
  have f21 : w1.frozen? ⟨w.heap.size + 1 + 1, 1, none⟩ = false := by simp [World.frozen?, i2]
  have I1 := Lib.hid i1
  have HO := Lib.hid hO1
  have HB1 := Lib.hid hb1
  clear i0 i1 i2 hO1 hb1 CI
  go_wp2_with fail
  obtain ⟨X, hX⟩ : ∃ X, (((w1.setCell ⟨w.heap.size + 1 + 1, 0, none⟩ (.slice (some ⟨g1, 0, none⟩) n n)).setCell ⟨w.heap.size + 1 + 1, 1, none⟩ (.int .i64 g)).setCell ⟨w.heap.size + 1, 0, none⟩ (.slice (some ⟨g1, 0, none⟩) n n)).setCell ⟨w.heap.size + 1, 1, none⟩ (.int .i64 g) = X := ⟨_, rfl⟩
  have hQX : X.heap[w.heap.size + 1]? = some (.cells #[.slice (some ⟨g1, 0, none⟩) n n, .int .i64 g] 35 (0, 0)) := by
    rw [← hX]
    have e0 : (w1.setCell ⟨w.heap.size + 1 + 1, 0, none⟩ (.slice (some ⟨g1, 0, none⟩) n n)).heap[w.heap.size + 1]? = some (.cells #[.slice none 0 0, .int .i64 0] 35 (0, 0)) := (Below.heap_setCell _ ⟨w.heap.size + 1 + 1, 0, none⟩ _ _ (by show w.heap.size + 1 ≠ w.heap.size + 1 + 1; omega)).trans I1.out
    have e1 : ((w1.setCell ⟨w.heap.size + 1 + 1, 0, none⟩ (.slice (some ⟨g1, 0, none⟩) n n)).setCell ⟨w.heap.size + 1 + 1, 1, none⟩ (.int .i64 g)).heap[w.heap.size + 1]? = some (.cells #[.slice none 0 0, .int .i64 0] 35 (0, 0)) := (Below.heap_setCell _ ⟨w.heap.size + 1 + 1, 1, none⟩ _ _ (by show w.heap.size + 1 ≠ w.heap.size + 1 + 1; omega)).trans e0
    have e2 := heap_setCell_same _ (w.heap.size + 1) 0 _ _ (.slice (some ⟨g1, 0, none⟩) n n) e1
    exact heap_setCell_same _ (w.heap.size + 1) 1 _ _ (.int .i64 g) e2
  have d0 : X.cell? ⟨w.heap.size + 1, 0, none⟩ = some (.slice (some ⟨g1, 0, none⟩) n n) := by rw [cell_of_row _ _ _ _ _ _ hQX]; rfl
  have d1 : X.cell? ⟨w.heap.size + 1, 1, none⟩ = some (.int .i64 g) := by rw [cell_of_row _ _ _ _ _ _ hQX]; rfl
  have hzX : X.heap.size = w1.heap.size := by rw [← hX]; simp [World.setCell]
  have hSX : Ow X g1 3 ILit (some ⟨g1, 0, none⟩) n n ph := by
    rw [← hX]
    refine HO.out.keep fun b hbl _ _ => ?_
    have hne1 : b ≠ w.heap.size + 1 := by omega
    have hne2 : b ≠ w.heap.size + 1 + 1 := by omega
    rw [Below.heap_setCell _ ⟨w.heap.size + 1, 1, none⟩ _ _ hne1, Below.heap_setCell _ ⟨w.heap.size + 1, 0, none⟩ _ _ hne1, Below.heap_setCell _ ⟨w.heap.size + 1 + 1, 1, none⟩ _ _ hne2, Below.heap_setCell _ ⟨w.heap.size + 1 + 1, 0, none⟩ _ _ hne2]
  have hbX : Below w.heap.size w X := by
    rw [← hX]
    exact ((((HB.out.trans (HB1.out.mono (by omega))).setCell (show w.heap.size ≤ w.heap.size + 1 + 1 by omega) _).setCell (show w.heap.size ≤ w.heap.size + 1 + 1 by omega) _).setCell (show w.heap.size ≤ w.heap.size + 1 by omega) _).setCell (show w.heap.size ≤ w.heap.size + 1 by omega) _
  rw [hX]
  clear hX hQX c00 c01 c10 c11 c20 c21 f10 f11 f20 f21
  refine bodyPost_ret (v := .agg #[.slice (some ⟨g1, 0, none⟩) n n, .int .i64 g]) (by simp [results, Try.results65, go_sem, d0, d1]; try rfl) rfl ?_
  exact ⟨g1, n, rfl, hSX, by omega, by rw [hzX]; exact hg2, hbX⟩
end Go.Proofs.Ytckohbjgogbfaaa
