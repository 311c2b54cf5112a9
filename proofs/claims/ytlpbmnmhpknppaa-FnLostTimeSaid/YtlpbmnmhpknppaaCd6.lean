/- ChangeTime, walked: the reference's and the program's. -/
import Derived.Test.YtlpbmnmhpknppaaCd3
import Derived.Test.YtlpbmnmhpknppaaCd4
import Derived.Test.YtlpbmnmhpknppaaCd5
set_option linter.unusedVariables false
set_option linter.unusedSimpArgs false
namespace Go.Proofs.Ytlpbmnmhpknppaa
open Go.RowKit

set_option maxHeartbeats 4000000 in
theorem sChangeTime_c (At : Option Addr) (m ct : Nat) (t : List (List Int)) (A : Option Addr) (n c : Nat) (fr : List Int) (A2 : Option Addr) (n2 c2 : Nat) (to : List Int) (w : World) (B : Nat) (hT : Sl2 w B ILit At m ct t) (hS : Sl w B ILit A n c fr) (hS2 : Sl w B ILit A2 n2 c2 to) (hB : B ≤ w.heap.size) (hn : n ≤ 1099511627776) (hn2 : n2 ≤ 1099511627776) :
    Calls Try.prog 31 #[.slice At m ct, .slice A n c, .slice A2 n2 c2] w fun e w' => e = .returned (.int .i64 (changeF t fr to)) ∧ Below w.heap.size w w' := by
  have hl := hT.len
  have hT0 := hT.more hB
  have hS0 := hS.more hB
  have hG0 := hS2.more hB
  have c1' := fits_c At m ct t A n c fr w B hT hS hB hn
  have c2' := fun w' (hb : Below w.heap.size w w') => fits_c At m ct t A2 n2 c2 to w' _ (hT0.below hb) (hG0.below hb) hb.size hn2
  cases h1 : fitsB t fr
  · have HE : Hid (changeF t fr to = -1) := Lib.hid (by simp [changeF, h1])
    rw [h1] at c1'
    have C1 := Lib.hid c1'
    clear c1' c2' hT hS hS2 hT0 hS0 hG0 h1 hl
    go_enter Try.func31, Try.ntmps31
    go_wp2_with fail
    refine C1.out.mono ?_
    rintro e w1 ⟨rfl, hb1⟩
    go_wp2_with fail
    go_ret
    exact ⟨by rw [HE.out]; rfl, hb1⟩
  · rw [h1] at c1'
    have C1 := Lib.hid c1'
    cases h2 : fitsB t to
    · have HE : Hid (changeF t fr to = -1) := Lib.hid (by simp [changeF, h2])
      rw [h2] at c2'
      have C2 := Lib.hid c2'
      clear c1' c2' hT hS hS2 hT0 hS0 hG0 h1 h2 hl
      go_enter Try.func31, Try.ntmps31
      go_wp2_with fail
      refine C1.out.mono ?_
      rintro e w1 ⟨rfl, hb1⟩
      have hz1 := hb1.size
      go_wp2_with fail
      refine (C2.out w1 hb1).mono ?_
      rintro e w2 ⟨rfl, hb2⟩
      go_wp2_with fail
      go_ret
      exact ⟨by rw [HE.out]; rfl, hb1.trans (hb2.mono hz1)⟩
    · have HE : Hid (changeF t fr to = changeN t fr to) := Lib.hid (by simp [changeF, h1, h2])
      rw [h2] at c2'
      have C2 := Lib.hid c2'
      have hok := fitsB_ok h1
      obtain ⟨-, -, hsq, -, -⟩ := cOk_iff.1 hok
      have hf1 := fitsB_in h1
      have hf2 := fitsB_in h2
      rw [hl] at hf1 hf2
      have C3 := Lib.hid (fun w' (hb : Below w.heap.size w w') => sChange_c At m ct t A n c fr A2 n2 c2 to w' _ (hT0.below hb) (hS0.below hb) (hG0.below hb) hb.size hn hn2 hsq hf1 hf2)
      clear c1' c2' hT hS hS2 hT0 hS0 hG0 h1 h2 hl hok hsq hf1 hf2
      go_enter Try.func31, Try.ntmps31
      go_wp2_with fail
      refine C1.out.mono ?_
      rintro e w1 ⟨rfl, hb1⟩
      have hz1 := hb1.size
      go_wp2_with fail
      refine (C2.out w1 hb1).mono ?_
      rintro e w2 ⟨rfl, hb2⟩
      have hb02 := hb1.trans (hb2.mono hz1)
      have hz2 := hb02.size
      clear hb1 hb2 hz1
      go_wp2_with fail
      refine (C3.out w2 hb02).mono ?_
      rintro e w3 ⟨rfl, hb3⟩
      go_wp2_with fail
      go_ret
      exact ⟨by rw [HE.out]; rfl, hb02.trans (hb3.mono hz2)⟩
set_option maxHeartbeats 4000000 in
theorem changeTime_c (At : Option Addr) (m ct : Nat) (t : List (List Int)) (A : Option Addr) (n c : Nat) (fr : List Int) (A2 : Option Addr) (n2 c2 : Nat) (to : List Int) (w : World) (B : Nat) (hT : Sl2 w B ILit At m ct t) (hS : Sl w B ILit A n c fr) (hS2 : Sl w B ILit A2 n2 c2 to) (hB : B ≤ w.heap.size) (hn : n ≤ 1099511627776) (hn2 : n2 ≤ 1099511627776) :
    Calls Try.prog 33 #[.slice At m ct, .slice A n c, .slice A2 n2 c2] w fun e w' => e = .returned (.int .i64 (changeF t fr to)) ∧ Below w.heap.size w w' := by
  have hl := hT.len
  have hfl := hS.len
  have htl := hS2.len
  have hT0 := hT.more hB
  have hS0 := hS.more hB
  have hG0 := hS2.more hB
  have hb1 : Below w.heap.size w (w.alloc (.cells #[.slice A n c, .slice A2 n2 c2] 35)) := (Below.refl _ _).alloc (Nat.le_refl _) _
  have hR : Sl2 (w.alloc (.cells #[.slice A n c, .slice A2 n2 c2] 35)) (w.heap.size + 1) ILit (some ⟨w.heap.size, 0, none⟩) 2 2 [fr, to] := by
    refine ⟨rfl, by omega, by omega, fun _ => ⟨w.heap.size, 0, rfl, by omega, fun j xs hj => ?_⟩⟩
    match j, hj with
    | 0, hj =>
      simp at hj
      subst hj
      exact ⟨A, n, c, by rw [cell_of_row _ _ _ _ _ _ (heap_alloc_new w _)]; rfl, (hS0.alloc (Nat.le_refl _) _).more (by omega)⟩
    | 1, hj =>
      simp at hj
      subst hj
      exact ⟨A2, n2, c2, by rw [cell_of_row _ _ _ _ _ _ (heap_alloc_new w _)]; rfl, (hG0.alloc (Nat.le_refl _) _).more (by omega)⟩
  have cv := validPhases_c At m ct t _ 2 2 [fr, to] _ _ ((hT0.below hb1).more (by omega)) hR (by simp) (fun xs hxs => by simp at hxs; rcases hxs with rfl | rfl <;> omega)
  have hal : [fr, to].all (fitsB t) = (fitsB t fr && fitsB t to) := by simp
  rw [hal] at cv
  clear hal hR
  cases h12 : fitsB t fr && fitsB t to
  · have HE : Hid (changeF t fr to = -1) := Lib.hid (by simp [changeF, h12])
    rw [h12] at cv
    have CV := Lib.hid cv
    clear cv hT hS hS2 hT0 hS0 hG0 h12 hl hfl htl
    go_enter Try.func33, Try.ntmps33
    go_wp2_with fail
    refine CV.out.mono ?_
    rintro e w1 ⟨rfl, hb2⟩
    go_wp2_with fail
    go_ret
    exact ⟨by rw [HE.out]; rfl, hb1.trans (hb2.mono (by simp))⟩
  · have HE : Hid (changeF t fr to = changeN t fr to) := Lib.hid (by simp [changeF, h12])
    rw [h12] at cv
    have CV := Lib.hid cv
    simp only [Bool.and_eq_true] at h12
    obtain ⟨h1, h2⟩ := h12
    have hok := fitsB_ok h1
    obtain ⟨-, -, hsq, -, -⟩ := cOk_iff.1 hok
    have hf1 := fitsB_in h1
    have hf2 := fitsB_in h2
    rw [hl] at hf1 hf2
    have C3 := Lib.hid (fun w' (hb : Below w.heap.size w w') => changeOf_c At m ct t A n c fr A2 n2 c2 to w' _ (hT0.below hb) (hS0.below hb) (hG0.below hb) hb.size hsq hf1 hf2)
    clear cv hT hS hS2 hT0 hS0 hG0 h1 h2 hl hfl htl hok hsq hf1 hf2
    go_enter Try.func33, Try.ntmps33
    go_wp2_with fail
    refine CV.out.mono ?_
    rintro e w1 ⟨rfl, hb2⟩
    have hb01 := hb1.trans (hb2.mono (by simp))
    have hz1 := hb01.size
    clear hb1 hb2
    go_wp2_with fail
    refine (C3.out w1 hb01).mono ?_
    rintro e w2 ⟨rfl, hb3⟩
    go_wp2_with fail
    go_ret
    exact ⟨by rw [HE.out]; rfl, hb01.trans (hb3.mono hz1)⟩
end Go.Proofs.Ytlpbmnmhpknppaa
