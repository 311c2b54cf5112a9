/- DrawValidPlan and DrawCycleOf, walked. -/
import Derived.Test.YtpihjabmllcldaaQg3
set_option linter.unusedVariables false
set_option linter.unusedSimpArgs false
namespace Go.Proofs.Ytpihjabmllcldaa
open Go.RowKit

set_option maxHeartbeats 4000000 in
theorem drawValidPlan_c (A : Option Addr) (n c : Nat) (bs : List Int) (w : World) (B : Nat) (hS : Sl w B BLit A n c bs) (hB : B ≤ w.heap.size) (hbs : ∀ x ∈ bs, 0 ≤ x ∧ x ≤ 255) :
    Calls Try.prog 8 #[.slice A n c] w (PlanDrawn w) := by
  obtain ⟨W0, hW0⟩ : ∃ W0, w.alloc (.cells #[.slice none 0 0, .slice none 0 0] 26) = W0 := ⟨_, rfl⟩
  have hzW : W0.heap.size = w.heap.size + 1 := by rw [← hW0]; simp
  have hQ0 : W0.heap[w.heap.size]? = some (.cells #[.slice none 0 0, .slice none 0 0] 26 (0, 0)) := by rw [← hW0]; exact heap_alloc_new w _
  have hb00 : Below w.heap.size w W0 := by rw [← hW0]; (repeat' (first | (with_reducible exact Below.refl _ _) | (with_reducible assumption) | (with_reducible refine Below.alloc ?_ ?_ _) | (with_reducible refine below_plus ?_ ?_ _ _) | (with_reducible refine Below.drew ?_) | (with_reducible refine Below.setCell ?_ ?_ _) | (with_reducible refine below_adv ?_ ?_ _) | go_size | (simp; done) | (simp; omega)))
  have C1 := Lib.hid (newReader_c W0 A n c _ bs ((hS.more hB).below hb00) hb00.size hbs)
  have HQ0 := Lib.hid hQ0
  have hzW1 : w.heap.size + 1 ≤ W0.heap.size := by omega
  clear hS hbs hQ0 hzW
  go_enter Try.func8, Try.ntmps8
  go_wp2_with fail
  clear hW0
  refine C1.out.mono ?_
  rintro e w1 ⟨r, A1, n1, c1, bs1, rfl, hw1, hR, hr0, hr1⟩
  have hlt := hR.lt
  have hb1 : Below W0.heap.size W0 w1 := by rw [← hw1]; exact (Below.refl _ _).alloc (Nat.le_refl _) _
  have hz1 := hb1.size
  clear hw1 C1
  go_wp2_with fail
  refine (anyPlan_c w1 r n1 c1 0 A1 bs1 hR (by omega)).mono ?_
  rintro e w2 ⟨At, m, ct, t, A2, n2, c2, ss, q, rfl, hK, hKS, hm8, hn1, hn5, hpl, hq, hb2⟩
  have hz2 := hb2.size
  rw [size_adv] at hz2
  have hb12 : Below W0.heap.size W0 w2 := (below_adv hb1 hr0 q).trans (hb2.mono hz1)
  have hQ2 := (hb12.block w.heap.size (by omega)).trans HQ0.out
  have hK2 := hK.move (w' := w2) (lo' := w.heap.size + 1) (by omega) (Nat.le_refl _) fun _ _ _ => rfl
  have hKS2 := hKS.move (w' := w2) (lo' := w.heap.size + 1) (by omega) (Nat.le_refl _) fun _ _ _ => rfl
  have hb02 : Below w.heap.size w w2 := hb00.trans (hb12.mono (by omega))
  have HK2 := Lib.hid hK2
  have HKS2 := Lib.hid hKS2
  have HQ2 := Lib.hid hQ2
  have HPL := Lib.hid hpl
  have cQ0 : w2.cell? ⟨w.heap.size, 0, none⟩ = some (.slice none 0 0) := by rw [cell_of_row _ _ _ _ _ _ hQ2]; rfl
  have cQ1 : w2.cell? ⟨w.heap.size, 1, none⟩ = some (.slice none 0 0) := by rw [cell_of_row _ _ _ _ _ _ hQ2]; rfl
  have fQ0 : w2.frozen? ⟨w.heap.size, 0, none⟩ = false := by simp [World.frozen?, hQ2]
  have fQ1 : w2.frozen? ⟨w.heap.size, 1, none⟩ = false := by simp [World.frozen?, hQ2]
  clear hK hKS hK2 hKS2 hQ2 hpl
  go_wp2_with fail
  obtain ⟨X, hX⟩ : ∃ X, (w2.setCell ⟨w.heap.size, 0, none⟩ (.slice At m ct)).setCell ⟨w.heap.size, 1, none⟩ (.slice A2 n2 c2) = X := ⟨_, rfl⟩
  obtain ⟨d0, d1, hTX, hSX, hbX⟩ := fin_plan HQ2.out HK2.out HKS2.out hb02 hX
  rw [hX]
  have HTX := Lib.hid hTX
  have HSX := Lib.hid hSX
  clear hX cQ0 cQ1 fQ0 fQ1 hTX hSX
  refine bodyPost_ret (v := .agg #[.slice At m ct, .slice A2 n2 c2]) (by simp [results, Try.results8, go_sem, d0, d1]; try rfl) rfl ?_
  exact ⟨_, _, _, _, _, _, _, _, rfl, HTX.out, HSX.out, hm8, hn1, hn5, HPL.out, hbX⟩
set_option maxHeartbeats 4000000 in
theorem drawCycleOf_c (A : Option Addr) (n c : Nat) (bs : List Int) (w : World) (B : Nat) (hS : Sl w B BLit A n c bs) (hB : B ≤ w.heap.size) (hbs : ∀ x ∈ bs, 0 ≤ x ∧ x ≤ 255) :
    Calls Try.prog 14 #[.slice A n c] w (PlanDrawn w) := by
  obtain ⟨W0, hW0⟩ : ∃ W0, w.alloc (.cells #[.slice none 0 0, .slice none 0 0] 26) = W0 := ⟨_, rfl⟩
  have hzW : W0.heap.size = w.heap.size + 1 := by rw [← hW0]; simp
  have hQ0 : W0.heap[w.heap.size]? = some (.cells #[.slice none 0 0, .slice none 0 0] 26 (0, 0)) := by rw [← hW0]; exact heap_alloc_new w _
  have hb00 : Below w.heap.size w W0 := by rw [← hW0]; (repeat' (first | (with_reducible exact Below.refl _ _) | (with_reducible assumption) | (with_reducible refine Below.alloc ?_ ?_ _) | (with_reducible refine below_plus ?_ ?_ _ _) | (with_reducible refine Below.drew ?_) | (with_reducible refine Below.setCell ?_ ?_ _) | (with_reducible refine below_adv ?_ ?_ _) | go_size | (simp; done) | (simp; omega)))
  have C1 := Lib.hid (newReader_c W0 A n c _ bs ((hS.more hB).below hb00) hb00.size hbs)
  have HQ0 := Lib.hid hQ0
  have hzW1 : w.heap.size + 1 ≤ W0.heap.size := by omega
  clear hS hbs hQ0 hzW
  go_enter Try.func14, Try.ntmps14
  go_wp2_with fail
  clear hW0
  refine C1.out.mono ?_
  rintro e w1 ⟨r, A1, n1, c1, bs1, rfl, hw1, hR, hr0, hr1⟩
  have hlt := hR.lt
  have hb1 : Below W0.heap.size W0 w1 := by rw [← hw1]; exact (Below.refl _ _).alloc (Nat.le_refl _) _
  have hz1 := hb1.size
  clear hw1 C1
  go_wp2_with fail
  refine (anyPlan_c w1 r n1 c1 0 A1 bs1 hR (by omega)).mono ?_
  rintro e w2 ⟨At, m, ct, t, A2, n2, c2, ss, q, rfl, hK, hKS, hm8, hn1, hn5, hpl, hq, hb2⟩
  have hz2 := hb2.size
  rw [size_adv] at hz2
  have hb12 : Below W0.heap.size W0 w2 := (below_adv hb1 hr0 q).trans (hb2.mono hz1)
  have hQ2 := (hb12.block w.heap.size (by omega)).trans HQ0.out
  have hK2 := hK.move (w' := w2) (lo' := w.heap.size + 1) (by omega) (Nat.le_refl _) fun _ _ _ => rfl
  have hKS2 := hKS.move (w' := w2) (lo' := w.heap.size + 1) (by omega) (Nat.le_refl _) fun _ _ _ => rfl
  have hb02 : Below w.heap.size w w2 := hb00.trans (hb12.mono (by omega))
  have HK2 := Lib.hid hK2
  have HKS2 := Lib.hid hKS2
  have HQ2 := Lib.hid hQ2
  have HPL := Lib.hid hpl
  have cQ0 : w2.cell? ⟨w.heap.size, 0, none⟩ = some (.slice none 0 0) := by rw [cell_of_row _ _ _ _ _ _ hQ2]; rfl
  have cQ1 : w2.cell? ⟨w.heap.size, 1, none⟩ = some (.slice none 0 0) := by rw [cell_of_row _ _ _ _ _ _ hQ2]; rfl
  have fQ0 : w2.frozen? ⟨w.heap.size, 0, none⟩ = false := by simp [World.frozen?, hQ2]
  have fQ1 : w2.frozen? ⟨w.heap.size, 1, none⟩ = false := by simp [World.frozen?, hQ2]
  clear hK hKS hK2 hKS2 hQ2 hpl
  go_wp2_with fail
  obtain ⟨X, hX⟩ : ∃ X, (w2.setCell ⟨w.heap.size, 0, none⟩ (.slice At m ct)).setCell ⟨w.heap.size, 1, none⟩ (.slice A2 n2 c2) = X := ⟨_, rfl⟩
  obtain ⟨d0, d1, hTX, hSX, hbX⟩ := fin_plan HQ2.out HK2.out HKS2.out hb02 hX
  rw [hX]
  have HTX := Lib.hid hTX
  have HSX := Lib.hid hSX
  clear hX cQ0 cQ1 fQ0 fQ1 hTX hSX
  refine bodyPost_ret (v := .agg #[.slice At m ct, .slice A2 n2 c2]) (by simp [results, Try.results14, go_sem, d0, d1]; try rfl) rfl ?_
  exact ⟨_, _, _, _, _, _, _, _, rfl, HTX.out, HSX.out, hm8, hn1, hn5, HPL.out, hbX⟩
end Go.Proofs.Ytpihjabmllcldaa
