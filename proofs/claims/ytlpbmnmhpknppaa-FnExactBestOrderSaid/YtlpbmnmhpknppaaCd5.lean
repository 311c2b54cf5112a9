/- spec.fits, walked. -/
import Derived.Test.YtlpbmnmhpknppaaCc1
import Derived.Test.YtlpbmnmhpknppaaCb3
set_option linter.unusedVariables false
set_option linter.unusedSimpArgs false
namespace Go.Proofs.Ytlpbmnmhpknppaa
open Go.RowKit

set_option maxHeartbeats 4000000 in
theorem fits_c (At : Option Addr) (m ct : Nat) (t : List (List Int)) (A : Option Addr) (n c : Nat) (ph : List Int) (w : World) (B : Nat) (hT : Sl2 w B ILit At m ct t) (hS : Sl w B ILit A n c ph) (hB : B ≤ w.heap.size) (hn : n ≤ 1099511627776) :
    Calls Try.prog 56 #[.slice At m ct, .slice A n c] w fun e w' => e = .returned (.bool (fitsB t ph)) ∧ Below w.heap.size w w' := by
  obtain ⟨ht0, ht1⟩ := hT.cap
  have hl := hT.len
  have cv := sValidClearance_c At m ct t w B hT hB
  have hS0 := hS.more hB
  have hT0 := hT.more hB
  cases hok : cOk t
  · have HE := Lib.hid (fitsB_no (ph := ph) hok)
    rw [hok] at cv
    have CV := Lib.hid cv
    clear cv hok hS hT hS0 hT0 hl
    go_enter Try.func56, Try.ntmps56
    go_wp2_with fail
    refine CV.out.mono ?_
    rintro e w1 ⟨rfl, hb1⟩
    go_wp2_with fail
    go_ret
    exact ⟨by rw [HE.out]; rfl, hb1⟩
  · obtain ⟨h1m, h8m, hsq, -, -⟩ := cOk_iff.1 hok
    have hfy := fitsB_yes (ph := ph) hok
    have hcy := confF_yes' hok
    rw [hl] at h1m h8m hfy
    rw [hok] at cv
    have CV := Lib.hid cv
    have ca := fun w' (hb : Below w.heap.size w w') => ascending_c A n c ph 0 ((m : Int) - 1) w' _ (hS0.below hb) hb.size hn
    have cc := fun w' (hb : Below w.heap.size w w') => sConflictsOf_c At m ct t w' _ (hT0.below hb) hb.size
    rw [hcy] at cc
    have HSQ := Lib.hid (conf_sq hsq)
    have HTL := Lib.hid ((conf_len t).trans hl)
    cases hp : ascB ph 0 ((m : Int) - 1)
    · have HE : Hid (fitsB t ph = false) := Lib.hid (by rw [hfy, hp]; rfl)
      rw [hp] at ca
      have CA := Lib.hid ca
      clear cv ca cc hok hp hfy hcy hsq hS hT hS0 hT0 hl
      go_enter Try.func56, Try.ntmps56
      go_wp2_with fail
      refine CV.out.mono ?_
      rintro e w1 ⟨rfl, hb1⟩
      have hz1 := hb1.size
      go_wp2_with fail
      refine (CA.out w1 hb1).mono ?_
      rintro e w2 ⟨rfl, hb2⟩
      go_wp2_with fail
      go_ret
      exact ⟨by rw [HE.out]; rfl, hb1.trans (hb2.mono hz1)⟩
    · have HE : Hid (fitsB t ph = clearB (conf t) ph) := Lib.hid (by rw [hfy, hp]; rfl)
      have HIN := Lib.hid (ascB_all hp)
      rw [hp] at ca
      have CA := Lib.hid ca
      have CC := Lib.hid cc
      have HS0 := Lib.hid hS0
      clear cv ca cc hok hp hfy hcy hsq hS hT hS0 hT0 hl
      go_enter Try.func56, Try.ntmps56
      go_wp2_with fail
      refine CV.out.mono ?_
      rintro e w1 ⟨rfl, hb1⟩
      have hz1 := hb1.size
      go_wp2_with fail
      refine (CA.out w1 hb1).mono ?_
      rintro e w2 ⟨rfl, hb2⟩
      have hb02 := hb1.trans (hb2.mono hz1)
      have hz2 := hb02.size
      clear hb1 hb2 hz1
      go_wp2_with fail
      refine (CC.out w2 hb02).mono ?_
      rintro e w3 ⟨A3, m3, c3, rfl, hO3, hb3⟩
      have hb03 := hb02.trans (hb3.mono hz2)
      have hz3 := hb3.size
      have hm3 : m3 = m := by rw [← hO3.len]; exact HTL.out
      subst hm3
      have C4 := Lib.hid (clear_c A3 m3 c3 (conf t) A n c ph w3 _ hO3.sl2 ((HS0.out.below hb03).more (B' := w3.heap.size) (by omega)) (Nat.le_refl _) HSQ.out HIN.out (by omega))
      clear hO3 hb02 hb3
      go_wp2_with fail
      refine C4.out.mono ?_
      rintro e w4 ⟨rfl, hb4⟩
      go_wp2_with fail
      go_ret
      exact ⟨by rw [HE.out]; rfl, hb03.trans (hb4.mono (by omega))⟩
end Go.Proofs.Ytlpbmnmhpknppaa
