/- LostTime, walked: the reference's and the program's. -/
import Derived.Test.YtlpbmnmhpknppaaCe1
import Derived.Test.YtlpbmnmhpknppaaCd3
import Derived.Test.YtlpbmnmhpknppaaCd5
set_option linter.unusedVariables false
set_option linter.unusedSimpArgs false
namespace Go.Proofs.Ytlpbmnmhpknppaa
open Go.RowKit

theorem ringB_in {t list : List (List Int)} (h : ringB t list = true) : ∀ p ∈ list, ∀ x ∈ p, 0 ≤ x ∧ x < t.length := fun p hp => fitsB_in ((ringB_iff.1 h).2 p hp)
theorem ring_out {t list : List (List Int)} (h : inB list.length 1 5 = false) : ringB t list = false := by simp [ringB, h]
theorem ring_bad {t list : List (List Int)} {k : Nat} {xs : List Int} (hx : list[k]? = some xs) (h : fitsB t xs = false) : ringB t list = false := by
  have : list.all (fitsB t) = false := by rw [List.all_eq_false]; exact ⟨xs, List.mem_of_getElem? hx, by simp [h]⟩
  simp [ringB, this]
theorem ring_all {t list : List (List Int)} (h : list.all (fitsB t) = true) : ringB t list = inB list.length 1 5 := by simp [ringB, h]

set_option maxHeartbeats 4000000 in
theorem validRing_c (At : Option Addr) (m ct : Nat) (t : List (List Int)) (A : Option Addr) (n c : Nat) (list : List (List Int)) (w : World) (B : Nat) (hT : Sl2 w B ILit At m ct t) (hS : Sl2 w B ILit A n c list) (hB : B ≤ w.heap.size) (hpl : ∀ p ∈ list, p.length ≤ 1099511627776) :
    Calls Try.prog 61 #[.slice At m ct, .slice A n c] w fun e w' => e = .returned (.bool (ringB t list)) ∧ Below w.heap.size w w' := by
  obtain ⟨hc0, hc1⟩ := hS.cap
  have HL := Lib.hid hS.len
  have HPL := Lib.hid hpl
  have hT0 := hT.more hB
  have hS0 := hS.more hB
  clear hT hS hpl
  go_enter Try.func61, Try.ntmps61
  go_wp2_with fail
  go_loopw [5] (fun i wr => ∃ (k : Nat), k ≤ n ∧ i = .int .i64 k ∧ Hid ((list.take k).all (fitsB t) = true) ∧ Below w.heap.size w wr) (fun i _ => n - (intOf i).toNat)
  case atStart => exact ⟨0, by omega, rfl, Lib.hid (by simp), Below.refl _ _⟩
  case round =>
    obtain ⟨k, hk, rfl, hall, hb⟩ := hrel
    have hzr := hb.size
    by_cases hlt : k < n
    · obtain ⟨b, o, xs, A1, n1, c1, rfl, hbl, hx, hcell, hrow⟩ := (hS0.below hb).at_ hlt
      have r1 : wr.cell? ⟨b, o + k, none⟩ = some (.slice A1 n1 c1) := hcell
      have hp1 := HPL.out xs (List.mem_of_getElem? hx)
      rw [hrow.len] at hp1
      have cf := fits_c At m ct t A1 n1 c1 xs wr _ (hT0.below hb) hrow hzr hp1
      have hts : (list.take (k + 1)).all (fitsB t) = fitsB t xs := by rw [take_snoc hx, List.all_append, hall.out]; simp
      cases hf : fitsB t xs
      · rw [hf] at cf
        have CF := Lib.hid cf
        have HE := Lib.hid (ring_bad hx hf)
        clear cf hcell hx hrow hts hf
        go_wp2_with fail
        refine CF.out.mono ?_
        rintro e w1 ⟨rfl, hb1⟩
        go_wp2_with fail
        go_ret
        exact ⟨by rw [HE.out]; rfl, hb.trans (hb1.mono hzr)⟩
      · rw [hf] at cf
        have CF := Lib.hid cf
        have HE := Lib.hid (hts.trans hf)
        clear cf hcell hx hrow hts hf
        go_wp2_with fail
        refine CF.out.mono ?_
        rintro e w1 ⟨rfl, hb1⟩
        go_wp2_with fail
        go_roundw
        case rel => exact ⟨k + 1, by omega, by go_num, HE, hb.trans (hb1.mono hzr)⟩
        case measure => simp [intOf]; omega
    · obtain rfl : k = n := by omega
      have hE := hall.out
      rw [List.take_of_length_le (by rw [HL.out]; exact Nat.le_refl _)] at hE
      have hr := ring_all hE
      rw [HL.out] at hr
      have HE := Lib.hid hr
      clear hE hr
      go_wp2_with fail
      refine (inRange_c (k : Int) 1 5 wr).mono ?_
      rintro e w1 ⟨rfl, rfl⟩
      go_wp2_with fail
      go_ret
      exact ⟨by rw [HE.out]; rfl, hb⟩

set_option maxHeartbeats 4000000 in
theorem sLostTime_c (At : Option Addr) (m ct : Nat) (t : List (List Int)) (A : Option Addr) (n c : Nat) (list : List (List Int)) (w : World) (B : Nat) (hT : Sl2 w B ILit At m ct t) (hS : Sl2 w B ILit A n c list) (hB : B ≤ w.heap.size) (hpl : ∀ p ∈ list, p.length ≤ 1048576) :
    Calls Try.prog 37 #[.slice At m ct, .slice A n c] w fun e w' => e = .returned (.int .i64 (lostF t list)) ∧ Below w.heap.size w w' := by
  have hl := hT.len
  have hln := hS.len
  have hT0 := hT.more hB
  have hS0 := hS.more hB
  have cv := validRing_c At m ct t A n c list w B hT hS hB (fun p hp => Nat.le_trans (hpl p hp) (by omega))
  cases hr : ringB t list
  · have HE : Hid (lostF t list = -1) := Lib.hid (by simp [lostF, hr])
    rw [hr] at cv
    have CV := Lib.hid cv
    clear cv hr hT hS hT0 hS0 hl hln hpl
    go_enter Try.func37, Try.ntmps37
    go_wp2_with fail
    refine CV.out.mono ?_
    rintro e w1 ⟨rfl, hb1⟩
    go_wp2_with fail
    go_ret
    exact ⟨by rw [HE.out]; rfl, hb1⟩
  · have HE : Hid (lostF t list = lostN t list) := Lib.hid (by simp [lostF, hr])
    rw [hr] at cv
    have CV := Lib.hid cv
    obtain ⟨hok, hic⟩ := ringB_inC hr
    have hin := ringB_in hr
    rw [hl] at hin
    have h5 := (ringB_iff.1 hr).1.2
    rw [hln] at h5
    have C2 := Lib.hid (fun w' (hb : Below w.heap.size w w') => sLostOf_c At m ct t A n c list w' _ (hT0.below hb) (hS0.below hb) hb.size (cOk_iff.1 hok).2.2.1 hin hic (by omega) hpl)
    clear cv hr hT hS hT0 hS0 hl hln hpl hok hic hin
    go_enter Try.func37, Try.ntmps37
    go_wp2_with fail
    refine CV.out.mono ?_
    rintro e w1 ⟨rfl, hb1⟩
    go_wp2_with fail
    refine (C2.out w1 hb1).mono ?_
    rintro e w2 ⟨rfl, hb2⟩
    go_wp2_with fail
    go_ret
    exact ⟨by rw [HE.out]; rfl, hb1.trans (hb2.mono hb1.size)⟩
set_option maxHeartbeats 4000000 in
theorem lostTime_c (At : Option Addr) (m ct : Nat) (t : List (List Int)) (A : Option Addr) (n c : Nat) (list : List (List Int)) (w : World) (B : Nat) (hT : Sl2 w B ILit At m ct t) (hS : Sl2 w B ILit A n c list) (hB : B ≤ w.heap.size) (hpl : ∀ p ∈ list, p.length ≤ 1048576) :
    Calls Try.prog 38 #[.slice At m ct, .slice A n c] w fun e w' => e = .returned (.int .i64 (lostF t list)) ∧ Below w.heap.size w w' := by
  have hl := hT.len
  have hln := hS.len
  have hT0 := hT.more hB
  have hS0 := hS.more hB
  have cw := within_c (n : Int) 1 5 w
  have cv := validPhases_c At m ct t A n c list w B hT hS hB (fun p hp => Nat.le_trans (hpl p hp) (by omega))
  cases hin5 : inB (n : Int) 1 5
  · have HE : Hid (lostF t list = -1) := Lib.hid (by rw [lostF, ring_out (by rw [hln]; exact hin5)]; simp)
    rw [hin5] at cw
    have CW := Lib.hid cw
    clear cv cw hT hS hT0 hS0 hl hln hpl hin5
    go_enter Try.func38, Try.ntmps38
    go_wp2_with fail
    refine CW.out.mono ?_
    rintro e w1 ⟨rfl, rfl⟩
    go_wp2_with fail
    go_ret
    exact ⟨by rw [HE.out]; rfl, Below.refl _ _⟩
  · rw [hin5] at cw
    have CW := Lib.hid cw
    have hrr : ringB t list = list.all (fitsB t) := by rw [ringB, hln, hin5]; rfl
    rw [← hrr] at cv
    cases hr : ringB t list
    · have HE : Hid (lostF t list = -1) := Lib.hid (by simp [lostF, hr])
      rw [hr] at cv
      have CV := Lib.hid cv
      clear cv cw hr hrr hT hS hT0 hS0 hl hln hpl hin5
      go_enter Try.func38, Try.ntmps38
      go_wp2_with fail
      refine CW.out.mono ?_
      rintro e w1 ⟨rfl, rfl⟩
      go_wp2_with fail
      refine CV.out.mono ?_
      rintro e w1 ⟨rfl, hb1⟩
      go_wp2_with fail
      go_ret
      exact ⟨by rw [HE.out]; rfl, hb1⟩
    · have HE : Hid (lostF t list = lostN t list) := Lib.hid (by simp [lostF, hr])
      rw [hr] at cv
      have CV := Lib.hid cv
      obtain ⟨hok, hic⟩ := ringB_inC hr
      have hin := ringB_in hr
      rw [hl] at hin
      have h5 := (ringB_iff.1 hr).1.2
      rw [hln] at h5
      have C2 := Lib.hid (fun w' (hb : Below w.heap.size w w') => lostOf_c At m ct t A n c list w' _ (hT0.below hb) (hS0.below hb) hb.size (cOk_iff.1 hok).2.2.1 hin hic (by omega))
      clear cv cw hr hrr hT hS hT0 hS0 hl hln hpl hok hic hin hin5
      go_enter Try.func38, Try.ntmps38
      go_wp2_with fail
      refine CW.out.mono ?_
      rintro e w1 ⟨rfl, rfl⟩
      go_wp2_with fail
      refine CV.out.mono ?_
      rintro e w1 ⟨rfl, hb1⟩
      go_wp2_with fail
      refine (C2.out w1 hb1).mono ?_
      rintro e w2 ⟨rfl, hb2⟩
      go_wp2_with fail
      go_ret
      exact ⟨by rw [HE.out]; rfl, hb1.trans (hb2.mono hb1.size)⟩
end Go.Proofs.Ytlpbmnmhpknppaa
