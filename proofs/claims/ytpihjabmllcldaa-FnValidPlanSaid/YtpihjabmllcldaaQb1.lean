/- The law ValidPlan. -/
import Derived.Test.YtpihjabmllcldaaQg4
import Derived.Test.YtpihjabmllcldaaQa2
set_option linter.unusedVariables false
set_option linter.unusedSimpArgs false
namespace Go.Proofs.Ytpihjabmllcldaa
open Go.RowKit

theorem KeptS.here {w : World} {lo n c : Nat} {A : Option Addr} {ss : List (List Int × Int)} (h : KeptS w lo A n c ss) : SlS w w.heap.size A n c ss := h w fun _ _ _ => rfl
theorem planB_iff {t : List (List Int)} {ss : List (List Int × Int)} : planB t ss = true ↔ cOk t = true ∧ (1 ≤ ss.length ∧ ss.length ≤ 5) ∧ ∀ s ∈ ss, fitsB t s.1 = true ∧ 5 ≤ s.2 ∧ s.2 ≤ 40 := by
  simp only [planB, inB, stageB, Bool.and_eq_true, decide_eq_true_eq, List.all_eq_true]
  constructor
  · rintro ⟨⟨h1, h2⟩, h3⟩; exact ⟨h1, by omega, fun s hs => ⟨(h3 s hs).1, (h3 s hs).2.1, (h3 s hs).2.2⟩⟩
  · rintro ⟨h1, h2, h3⟩; exact ⟨⟨h1, by omega⟩, fun s hs => ⟨(h3 s hs).1, (h3 s hs).2.1, (h3 s hs).2.2⟩⟩
theorem planB_take {t : List (List Int)} {ss : List (List Int × Int)} (h : planB t ss = true) {k : Nat} (h1 : 1 ≤ k) (hk : k ≤ ss.length) : planB t (ss.take k) = true := by
  obtain ⟨a1, a2, a3⟩ := planB_iff.1 h
  exact planB_iff.2 ⟨a1, by rw [List.length_take]; omega, fun s hs => a3 s (List.mem_of_mem_take hs)⟩

set_option maxHeartbeats 8000000 in
theorem validPlanLaw_walk (A : Option Addr) (n c : Nat) (bs : List Int) (w : World) (hS : Sl w w.heap.size BLit A n c bs) (hbs : ∀ x ∈ bs, 0 ≤ x ∧ x ≤ 255) :
    Calls Try.prog 3 #[.slice A n c] w fun e w' => e = .returned (.bool true) ∧ Below w.heap.size w w' := by
  obtain ⟨hc0, hc1⟩ := hS.cap
  by_cases hn : 1048576 < n
  · go_enter Try.func3, Try.ntmps3
    go_wp2
    go_ret
    exact ⟨rfl, by (repeat' (first | (with_reducible exact Below.refl _ _) | (with_reducible assumption) | (with_reducible refine Below.alloc ?_ ?_ _) | (with_reducible refine below_plus ?_ ?_ _ _) | (with_reducible refine Below.drew ?_) | (with_reducible refine Below.setCell ?_ ?_ _) | (with_reducible refine below_adv ?_ ?_ _) | go_size | (simp; done) | (simp; omega)))⟩
  · go_enter Try.func3, Try.ntmps3
    go_wp2_with fail
    refine (drawValidPlan_c A n c bs w _ hS (Nat.le_refl _) hbs).mono ?_
    rintro e w1 ⟨At, m, ct, t, A2, n2, c2, ss, rfl, hK, hKS, hm8, hn1, hn5, hpl, hb1⟩
    have hz1 := hb1.size
    have hT1 := hK.here
    have hS1 := hKS.here
    obtain ⟨hk0, hk1⟩ := hS1.cap
    obtain ⟨W2, hW2⟩ : ∃ W2, w1.alloc (.cells #[.slice At m ct, .slice A2 n2 c2] 26) = W2 := ⟨_, rfl⟩
    have hb12 : Below w1.heap.size w1 W2 := by rw [← hW2]; (repeat' (first | (with_reducible exact Below.refl _ _) | (with_reducible assumption) | (with_reducible refine Below.alloc ?_ ?_ _) | (with_reducible refine below_plus ?_ ?_ _ _) | (with_reducible refine Below.drew ?_) | (with_reducible refine Below.setCell ?_ ?_ _) | (with_reducible refine below_adv ?_ ?_ _) | go_size | (simp; done) | (simp; omega)))
    have hP2 : W2.heap[w1.heap.size]? = some (.cells #[.slice At m ct, .slice A2 n2 c2] 26 (0, 0)) := by rw [← hW2]; exact heap_alloc_new w1 _
    have hgP := lt_of_heap hP2
    have p0 : W2.cell? ⟨w1.heap.size, 0, none⟩ = some (.slice At m ct) := by rw [cell_of_row _ _ _ _ _ _ hP2]; rfl
    have p1 : W2.cell? ⟨w1.heap.size, 1, none⟩ = some (.slice A2 n2 c2) := by rw [cell_of_row _ _ _ _ _ _ hP2]; rfl
    have hln := hS1.len
    have c1' := fun w' (hw : Below W2.heap.size W2 w') => validPlan_c At m ct t A2 n2 c2 ss w' _ (hT1.below (hb12.trans (hw.mono hb12.size))) (hS1.below (hb12.trans (hw.mono hb12.size))) (Nat.le_trans hb12.size hw.size) (fun s hs => by have := hpl s hs; omega)
    have c2' := fun w' (hw : Below W2.heap.size W2 w') => sValidPlan1_c At m ct t A2 n2 c2 ss w' _ (hT1.below (hb12.trans (hw.mono hb12.size))) (hS1.below (hb12.trans (hw.mono hb12.size))) (Nat.le_trans hb12.size hw.size) (fun s hs => by have := hpl s hs; omega)
    have hb02 := hb1.trans (hb12.mono hz1)
    clear hS hbs hP2 hK hKS
    cases hok : planB t ss
    · rw [hok] at c1' c2'
      have C1 := Lib.hid c1'
      have C2 := Lib.hid c2'
      clear c1' c2' hT1 hS1 hpl hok
      go_wp2_with fail
      clear hW2
      refine (C1.out W2 (Below.refl _ _)).mono ?_
      rintro e w2 ⟨rfl, hb2⟩
      have hz2 := hb2.size
      have p02 := (hb2.cell (p := ⟨w1.heap.size, 0, none⟩) hgP).trans p0
      have p12 := (hb2.cell (p := ⟨w1.heap.size, 1, none⟩) hgP).trans p1
      go_wp2_with fail
      refine (C2.out w2 hb2).mono ?_
      rintro e w3 ⟨rfl, hb3⟩
      have hb23 := hb2.trans (hb3.mono hz2)
      have p03 := (hb23.cell (p := ⟨w1.heap.size, 0, none⟩) hgP).trans p0
      have p13 := (hb23.cell (p := ⟨w1.heap.size, 1, none⟩) hgP).trans p1
      clear p02 p12
      go_wp2_with fail
      refine (C2.out w3 hb23).mono ?_
      rintro e w4 ⟨rfl, hb4⟩
      go_wp2_with fail
      go_ret
      exact ⟨rfl, hb02.trans ((hb23.trans (hb4.mono hb23.size)).mono hb02.size)⟩
    · rw [hok] at c1' c2'
      have C1 := Lib.hid c1'
      have C2 := Lib.hid c2'
      by_cases hn2 : n2 < 2
      · clear c1' c2' hT1 hS1 hpl hok
        go_wp2_with fail
        clear hW2
        refine (C1.out W2 (Below.refl _ _)).mono ?_
        rintro e w2 ⟨rfl, hb2⟩
        have hz2 := hb2.size
        have p02 := (hb2.cell (p := ⟨w1.heap.size, 0, none⟩) hgP).trans p0
        have p12 := (hb2.cell (p := ⟨w1.heap.size, 1, none⟩) hgP).trans p1
        go_wp2_with fail
        refine (C2.out w2 hb2).mono ?_
        rintro e w3 ⟨rfl, hb3⟩
        have hb23 := hb2.trans (hb3.mono hz2)
        have p03 := (hb23.cell (p := ⟨w1.heap.size, 0, none⟩) hgP).trans p0
        have p13 := (hb23.cell (p := ⟨w1.heap.size, 1, none⟩) hgP).trans p1
        clear p02 p12
        go_wp2_with fail
        refine (C2.out w3 hb23).mono ?_
        rintro e w4 ⟨rfl, hb4⟩
        go_wp2_with fail
        go_ret
        exact ⟨rfl, hb02.trans ((hb23.trans (hb4.mono hb23.size)).mono hb02.size)⟩
      · have hk := planB_take hok (k := n2 - 1) (by omega) (by omega)
        have hTK := hS1.take (k := n2 - 1) (by omega)
        have c3' := fun w' (hw : Below w1.heap.size w1 w') => validPlan_c At m ct t A2 (n2 - 1) c2 (ss.take (n2 - 1)) w' _ (hT1.below hw) (hTK.below hw) hw.size (fun s hs => by have := hpl s (List.mem_of_mem_take hs); omega)
        rw [hk] at c3'
        have C3 := Lib.hid c3'
        clear c1' c2' c3' hT1 hS1 hpl hok hk hTK
        go_wp2_with fail
        clear hW2
        refine (C1.out W2 (Below.refl _ _)).mono ?_
        rintro e w2 ⟨rfl, hb2⟩
        have hz2 := hb2.size
        have p02 := (hb2.cell (p := ⟨w1.heap.size, 0, none⟩) hgP).trans p0
        have p12 := (hb2.cell (p := ⟨w1.heap.size, 1, none⟩) hgP).trans p1
        go_wp2_with fail
        refine (C2.out w2 hb2).mono ?_
        rintro e w3 ⟨rfl, hb3⟩
        have hb23 := hb2.trans (hb3.mono hz2)
        have hz3 := hb23.size
        have p03 := (hb23.cell (p := ⟨w1.heap.size, 0, none⟩) hgP).trans p0
        have p13 := (hb23.cell (p := ⟨w1.heap.size, 1, none⟩) hgP).trans p1
        have hb13 := hb12.trans (hb23.mono hb12.size)
        have hz13 := hb13.size
        have q1 : w1.heap.size < w3.heap.size := by omega
        have i0 : (0 : Int) ≤ (n2 : Int) - 1 := by omega
        have i1 : (n2 : Int) - 1 ≤ (c2 : Int) := by omega
        have i2 : ((n2 : Int) - 1).toNat = n2 - 1 := by omega
        have i3 : IntKind.i64.wrap ((n2 : Int) - 1) = (n2 : Int) - 1 := IntWalk.i64_in _ (by omega)
        have C4 := Lib.hid (fun (os : Array Obj) (d : Nat) => C3.out (plus w3 os d) (by (repeat' (first | (with_reducible exact Below.refl _ _) | (with_reducible assumption) | (with_reducible refine Below.alloc ?_ ?_ _) | (with_reducible refine below_plus ?_ ?_ _ _) | (with_reducible refine Below.drew ?_) | (with_reducible refine Below.setCell ?_ ?_ _) | (with_reducible refine below_adv ?_ ?_ _) | go_size | (simp; done) | (simp; omega)))))
        have HB13 := Lib.hid hb13
        have HB02 := Lib.hid (hb1.trans (hb13.mono hz1))
        clear p0 p1 p02 p12 hb2 hb3 hb23 hb12 hb13 C1 C2 C3 hb02
        go_wp2_with fail
        refine wp_region_plus (by kernel_rfl) (by kernel_rfl) ?_; (repeat (go_big_quiet_step ((go_at_call 9; exact quiet_plus (C4.out _ _))))); refine wpQuiet_nil ?_; intro _ hw'; obtain ⟨⟨osq, dq⟩, hw''⟩ := hw'; subst hw''
        clear i3
        go_wp2_with fail
        go_ret
        exact ⟨rfl, HB02.out.trans ((by (repeat' (first | (with_reducible exact Below.refl _ _) | (with_reducible assumption) | (with_reducible refine Below.alloc ?_ ?_ _) | (with_reducible refine below_plus ?_ ?_ _ _) | (with_reducible refine Below.drew ?_) | (with_reducible refine Below.setCell ?_ ?_ _) | (with_reducible refine below_adv ?_ ?_ _) | go_size | (simp; done) | (simp; omega))) : Below w3.heap.size w3 _).mono HB02.out.size)⟩
end Go.Proofs.Ytpihjabmllcldaa
