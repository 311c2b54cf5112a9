/- laws.isPart, walked. -/
import Derived.Test.YtfdlcphiidfkcaaDoorBb
set_option linter.unusedVariables false
set_option linter.unusedSimpArgs false
namespace Go.Proofs.YtfdlcphiidfkcaaDoor
open Go.RowKit

set_option maxHeartbeats 1000000 in
theorem isPart_c (A : Option Addr) (n c : Nat) (xs : List Int) (A2 : Option Addr) (n2 c2 : Nat) (ys : List Int) (w : World) (B : Nat) (hS : Sl w B ILit A n c xs) (hT : Sl w B ILit A2 n2 c2 ys) (hB : B ≤ w.heap.size) (hn : n ≤ 1048576) (hn2 : n2 ≤ 1048576) :
    Calls Tryd.prog 30 #[.slice A n c, .slice A2 n2 c2] w fun e w' => e = .returned (.bool (xs.all fun x => decide (x ∈ ys))) ∧ Below w.heap.size w w' := by
  obtain ⟨hc0, hc1⟩ := hS.cap
  have HL := Lib.hid hS.len
  have hS1 := hS.more hB
  have HT := Lib.hid (hT.more hB)
  clear hS hT
  go_enter Tryd.func30, Tryd.ntmps30
  go_wp2_with fail
  go_loopw [5] (fun i wr => ∃ (k : Nat), k ≤ n ∧ i = .int .i64 k ∧ Hid ((xs.take k).all (fun x => decide (x ∈ ys)) = true) ∧ Below w.heap.size w wr) (fun i _ => n - (intOf i).toNat)
  case atStart => exact ⟨0, by omega, rfl, Lib.hid rfl, Below.refl _ _⟩
  case round =>
    obtain ⟨k, hk, rfl, hall, hb⟩ := hrel
    have hzr := hb.size
    by_cases hlt : k < n
    · obtain ⟨b, o, x, rfl, hbl, hx, hcell⟩ := hS1.at_ hlt
      have r1 : wr.cell? ⟨b, o + k, none⟩ = some (.int .i64 x) := (hb.cell (p := ⟨b, o + k, none⟩) hbl).trans hcell
      have ci := lIsIn_c A2 n2 c2 ys x wr _ (HT.out.below hb) hzr (by omega)
      have hts : (xs.take (k + 1)).all (fun x => decide (x ∈ ys)) = ((xs.take k).all (fun x => decide (x ∈ ys)) && decide (x ∈ ys)) := by rw [take_snoc hx, List.all_append]; simp
      rw [hall.out, Bool.true_and] at hts
      have HB := Lib.hid hb
      cases hu : decide (x ∈ ys)
      · rw [hu] at ci hts
        have CI := Lib.hid ci
        have HE : Hid ((xs.all fun x => decide (x ∈ ys)) = false) := Lib.hid (by
          rw [List.all_eq_false]
          exact ⟨x, List.mem_of_getElem? hx, by rw [hu]; decide⟩)
        clear ci hts hu hx hcell hb hall
        go_wp2_with fail
        clear r1
        refine CI.out.mono ?_
        rintro e wa ⟨rfl, hba⟩
        go_wp2_with fail
        go_ret
        exact ⟨by rw [HE.out]; rfl, HB.out.trans (hba.mono hzr)⟩
      · rw [hu] at ci hts
        have CI := Lib.hid ci
        have HTS := Lib.hid hts
        clear ci hts hu hx hcell hb hall
        go_wp2_with fail
        clear r1
        refine CI.out.mono ?_
        rintro e wa ⟨rfl, hba⟩
        have hbn := HB.out.trans (hba.mono hzr)
        go_wp2_with fail
        go_roundw
        case rel => exact ⟨k + 1, by omega, by go_num, HTS, hbn⟩
        case measure => simp [intOf]; omega
    · obtain rfl : k = n := by omega
      have hE := hall.out
      rw [List.take_of_length_le (by rw [HL.out]; exact Nat.le_refl _)] at hE
      have HE := Lib.hid hE
      clear hE
      go_wp2_with fail
      go_ret
      exact ⟨by rw [HE.out]; rfl, hb⟩
end Go.Proofs.YtfdlcphiidfkcaaDoor
