/- The law ValidClearance. -/
import Derived.Test.YtlpbmnmhpknppaaCb3
import Derived.Test.YtlpbmnmhpknppaaCg3
set_option linter.unusedVariables false
set_option linter.unusedSimpArgs false
namespace Go.Proofs.Ytlpbmnmhpknppaa
open Go.RowKit

def ClrDrawn (w : World) (e : Ending) (w' : World) : Prop :=
  ∃ A n c t, e = .returned (.slice A n c) ∧ Sl2 w' w'.heap.size ILit A n c t ∧ n ≤ 8 ∧ Below w.heap.size w w'
theorem drawValidClearance_c (A : Option Addr) (n c : Nat) (bs : List Int) (w : World) (B : Nat) (hS : Sl w B BLit A n c bs) (hB : B ≤ w.heap.size) (hbs : ∀ x ∈ bs, 0 ≤ x ∧ x ≤ 255) :
    Calls Try.prog 21 #[.slice A n c] w (ClrDrawn w) := by
  go_enter Try.func21, Try.ntmps21
  go_wp2_with fail
  refine (newReader_c w A n c _ bs hS hB hbs).mono ?_
  rintro e w1 ⟨r, A1, n1, c1, bs1, rfl, hw1, hR, hr0, hr1⟩
  have hlt := hR.lt
  have hb1 : Below w.heap.size w w1 := by rw [← hw1]; exact (Below.refl _ _).alloc (Nat.le_refl _) _
  have hz1 := hb1.size
  clear hw1
  go_wp2_with fail
  refine (anyClear_c w1 r n1 c1 0 A1 bs1 hR (by omega)).mono ?_
  rintro e w2 ⟨A2, n2, c2, q, t, rfl, hK2, hn2, -, hb2⟩
  have hT2 := hK2.here
  clear hK2
  go_wp2_with fail
  go_ret
  exact ⟨_, _, _, _, rfl, hT2, hn2, (below_adv hb1 hr0 q).trans (hb2.mono hz1)⟩
theorem drawConflictsOf_c (A : Option Addr) (n c : Nat) (bs : List Int) (w : World) (B : Nat) (hS : Sl w B BLit A n c bs) (hB : B ≤ w.heap.size) (hbs : ∀ x ∈ bs, 0 ≤ x ∧ x ≤ 255) :
    Calls Try.prog 24 #[.slice A n c] w (ClrDrawn w) := by
  go_enter Try.func24, Try.ntmps24
  go_wp2_with fail
  refine (newReader_c w A n c _ bs hS hB hbs).mono ?_
  rintro e w1 ⟨r, A1, n1, c1, bs1, rfl, hw1, hR, hr0, hr1⟩
  have hlt := hR.lt
  have hb1 : Below w.heap.size w w1 := by rw [← hw1]; exact (Below.refl _ _).alloc (Nat.le_refl _) _
  have hz1 := hb1.size
  clear hw1
  go_wp2_with fail
  refine (anyClear_c w1 r n1 c1 0 A1 bs1 hR (by omega)).mono ?_
  rintro e w2 ⟨A2, n2, c2, q, t, rfl, hK2, hn2, -, hb2⟩
  have hT2 := hK2.here
  clear hK2
  go_wp2_with fail
  go_ret
  exact ⟨_, _, _, _, rfl, hT2, hn2, (below_adv hb1 hr0 q).trans (hb2.mono hz1)⟩
theorem tOk_confF {t : List (List Int)} (h : cOk t = true) : tOk (confF t) = true := by rw [confF_yes h]; exact conf_ok h

set_option maxHeartbeats 4000000 in
theorem validClearanceLaw_walk (A : Option Addr) (n c : Nat) (bs : List Int) (w : World) (hS : Sl w w.heap.size BLit A n c bs) (hbs : ∀ x ∈ bs, 0 ≤ x ∧ x ≤ 255) :
    Calls Try.prog 4 #[.slice A n c] w fun e w' => e = .returned (.bool true) ∧ Below w.heap.size w w' := by
  obtain ⟨hc0, hc1⟩ := hS.cap
  by_cases hn : 1048576 < n
  · go_enter Try.func4, Try.ntmps4
    go_wp2
    go_ret
    exact ⟨rfl, by (repeat' (first | (with_reducible exact Below.refl _ _) | (with_reducible assumption) | (with_reducible refine Below.alloc ?_ ?_ _) | (with_reducible refine below_plus ?_ ?_ _ _) | (with_reducible refine Below.drew ?_) | (with_reducible refine Below.setCell ?_ ?_ _) | (with_reducible refine below_adv ?_ ?_ _) | go_size | (simp; done) | (simp; omega)))⟩
  · go_enter Try.func4, Try.ntmps4
    go_wp2_with fail
    refine (drawValidClearance_c A n c bs w _ hS (Nat.le_refl _) hbs).mono ?_
    rintro e w1 ⟨A1, m, c1, t, rfl, hT1, hm8, hb1⟩
    have hz1 := hb1.size
    clear hS hbs
    have c1' := fun w' (hw : Below w1.heap.size w1 w') => validClearance_c A1 m c1 t w' _ (hT1.below hw) hw.size
    have c2' := fun w' (hw : Below w1.heap.size w1 w') => sValidClearance1_c A1 m c1 t w' _ (hT1.below hw) hw.size
    cases hok : cOk t
    · rw [hok] at c1' c2'
      have C1 := Lib.hid c1'
      have C2 := Lib.hid c2'
      clear c1' c2' hok
      go_wp2_with fail
      refine (C1.out w1 (Below.refl _ _)).mono ?_
      rintro e w2 ⟨rfl, hb2⟩
      have hz2 := hb2.size
      go_wp2_with fail
      refine (C2.out w2 hb2).mono ?_
      rintro e w3 ⟨rfl, hb3⟩
      have hb13 := hb2.trans (hb3.mono hz2)
      go_wp2_with fail
      go_ret
      exact ⟨rfl, hb1.trans (hb13.mono hz1)⟩
    · rw [hok] at c1' c2'
      have C1 := Lib.hid c1'
      have C2 := Lib.hid c2'
      have HK := Lib.hid (tOk_confF hok)
      have C3 := Lib.hid (fun w' (hw : Below w1.heap.size w1 w') => conflictsOf_c A1 m c1 t w' _ (hT1.below hw) hw.size)
      clear c1' c2' hok
      go_wp2_with fail
      refine (C1.out w1 (Below.refl _ _)).mono ?_
      rintro e w2 ⟨rfl, hb2⟩
      have hz2 := hb2.size
      go_wp2_with fail
      refine (C2.out w2 hb2).mono ?_
      rintro e w3 ⟨rfl, hb3⟩
      have hz3 := hb3.size
      have hb13 := hb2.trans (hb3.mono hz2)
      go_wp2_with fail
      refine (C3.out w3 hb13).mono ?_
      rintro e w4 ⟨A4, n4, c4, rfl, hO4, hb4⟩
      have hz4 := hb4.size
      have hb14 := hb13.trans (hb4.mono (by omega))
      have cv := validConflicts_c A4 n4 c4 (confF t) w4 _ hO4.sl2 (Nat.le_refl _)
      rw [HK.out] at cv
      have CV := Lib.hid cv
      clear cv hO4
      go_wp2_with fail
      refine CV.out.mono ?_
      rintro e w5 ⟨rfl, hb5⟩
      go_wp2_with fail
      go_ret
      exact ⟨rfl, (hb1.trans (hb14.mono hz1)).trans (hb5.mono (by omega))⟩
end Go.Proofs.Ytlpbmnmhpknppaa
