/- impl.validPhases, walked. -/
import Derived.Test.YtlpbmnmhpknppaaCd2
import Derived.Test.YtlpbmnmhpknppaaCb3
set_option linter.unusedVariables false
set_option linter.unusedSimpArgs false
namespace Go.Proofs.Ytlpbmnmhpknppaa
open Go.RowKit

set_option maxHeartbeats 4000000 in
theorem validPhases_c (At : Option Addr) (m ct : Nat) (t : List (List Int)) (A : Option Addr) (n c : Nat) (xss : List (List Int)) (w : World) (B : Nat) (hT : Sl2 w B ILit At m ct t) (hS : Sl2 w B ILit A n c xss) (hB : B ≤ w.heap.size) (hrl : ∀ xs ∈ xss, xs.length ≤ 1099511627776) :
    Calls Try.prog 58 #[.slice At m ct, .slice A n c] w fun e w' => e = .returned (.bool (xss.all (fitsB t))) ∧ Below w.heap.size w w' := by
  obtain ⟨hc0, hc1⟩ := hS.cap
  have HL := Lib.hid hS.len
  have HR := Lib.hid hrl
  have hS0 := hS.more hB
  have C0 := Lib.hid (conflictsOf_c At m ct t w _ (hT.more hB) (Nat.le_refl _))
  clear hS hT hrl
  go_enter Try.func58, Try.ntmps58
  go_wp2_with fail
  refine C0.out.mono ?_
  rintro e w1 ⟨A1, n1, c1, rfl, hO1, hb1⟩
  have hz1 := hb1.size
  have hT1 := hO1.sl2
  clear hO1
  go_wp2_with fail
  go_loopw [12] (fun i wr => ∃ (k : Nat), k ≤ n ∧ i = .int .i64 k ∧ Hid ((xss.take k).all (fitsB t) = true) ∧ Below w1.heap.size w1 wr) (fun i _ => n - (intOf i).toNat)
  case atStart => exact ⟨0, by omega, rfl, Lib.hid (by simp), Below.refl _ _⟩
  case round =>
    obtain ⟨k, hk, rfl, hall, hb⟩ := hrel
    have hzr := hb.size
    by_cases hlt : k < n
    · obtain ⟨b, o, xs, A', n', c', rfl, hbl, hx, hcell, hrow⟩ := (hS0.below (hb1.trans (hb.mono hz1))).at_ hlt
      have hcell' : wr.cell? ⟨b, o + k, none⟩ = some (.slice A' n' c') := hcell
      have hrn := HR.out xs (List.mem_of_getElem? hx)
      rw [hrow.len] at hrn
      have cv := validPhase_c A1 n1 c1 (confF t) A' n' c' xs wr _ ((hT1.below hb).more (B' := wr.heap.size) hzr) (hrow.more (by omega)) (Nat.le_refl _) hrn
      have hts : (xss.take (k + 1)).all (fitsB t) = fitsB t xs := by rw [take_snoc hx, List.all_append, hall.out]; simp
      have hbad : fitsB t xs = false → xss.all (fitsB t) = false := fun h => by
        rw [List.all_eq_false]; exact ⟨xs, List.mem_of_getElem? hx, by simp [h]⟩
      have HT := Lib.hid hts
      have HBD := Lib.hid hbad
      change Calls _ _ _ _ (fun e w' => e = .returned (.bool (fitsB t xs)) ∧ _) at cv
      clear hcell hx hts hbad hrow
      cases hf : fitsB t xs
      · rw [hf] at cv
        have CV := Lib.hid cv
        have HE := Lib.hid (HBD.out hf)
        clear cv
        go_wp2_with fail
        refine CV.out.mono ?_
        rintro e w2 ⟨rfl, hb2⟩
        go_wp2_with fail
        go_ret
        exact ⟨by rw [HE.out]; rfl, (hb1.trans (hb.mono hz1)).trans (hb2.mono (by omega))⟩
      · rw [hf] at cv
        have CV := Lib.hid cv
        have HE := Lib.hid (HT.out.trans hf)
        clear cv
        go_wp2_with fail
        refine CV.out.mono ?_
        rintro e w2 ⟨rfl, hb2⟩
        go_wp2_with fail
        go_roundw
        case rel => exact ⟨k + 1, by omega, by go_num, HE, hb.trans (hb2.mono hzr)⟩
        case measure => simp [intOf]; omega
    · obtain rfl : k = n := by omega
      have hE := hall.out
      rw [List.take_of_length_le (by rw [HL.out]; omega)] at hE
      have HE := Lib.hid hE
      clear hE
      go_wp2_with fail
      go_ret
      exact ⟨by rw [HE.out]; rfl, hb1.trans (hb.mono hz1)⟩
end Go.Proofs.Ytlpbmnmhpknppaa
