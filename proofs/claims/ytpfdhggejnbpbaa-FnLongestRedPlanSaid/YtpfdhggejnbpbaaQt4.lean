/- The law LongestRedPlan. -/
import Derived.Test.YtpfdhggejnbpbaaQt3
set_option linter.unusedVariables false
set_option linter.unusedSimpArgs false
namespace Go.Proofs.Ytpfdhggejnbpbaa
open Go.RowKit

set_option maxHeartbeats 8000000 in
theorem longestRedPlanLaw_walk (A : Option Addr) (n c : Nat) (bs : List Int) (w : World) (hS : Sl w w.heap.size BLit A n c bs) (hbs : ∀ x ∈ bs, 0 ≤ x ∧ x ≤ 255) :
    Calls Try.prog 6 #[.slice A n c] w fun e w' => e = .returned (.bool true) ∧ Below w.heap.size w w' := by
  obtain ⟨hc0, hc1⟩ := hS.cap
  by_cases hn : 1048576 < n
  · go_enter Try.func6, Try.ntmps6
    go_wp2
    go_ret
    exact ⟨rfl, by (repeat' (first | (with_reducible exact Below.refl _ _) | (with_reducible assumption) | (with_reducible refine Below.alloc ?_ ?_ _) | (with_reducible refine below_plus ?_ ?_ _ _) | (with_reducible refine Below.drew ?_) | (with_reducible refine Below.setCell ?_ ?_ _) | (with_reducible refine below_adv ?_ ?_ _) | go_size | (simp; done) | (simp; omega)))⟩
  · go_enter Try.func6, Try.ntmps6
    go_wp2_with fail
    refine (dDrawLongestRed_c A n c bs w _ hS (Nat.le_refl _) hbs).mono ?_
    rintro e w1 ⟨At, m, ct, t, A2, n2, c2, ss, x, rfl, hK, hKS, hm8, hn1, hn5, hpl, hx0, hx1, hb1⟩
    have hz1 := hb1.size
    obtain ⟨W2, hW2⟩ : ∃ W2, w1.alloc (.cells #[.slice At m ct, .slice A2 n2 c2] 26) = W2 := ⟨_, rfl⟩
    have hb12 : Below w1.heap.size w1 W2 := by rw [← hW2]; (repeat' (first | (with_reducible exact Below.refl _ _) | (with_reducible assumption) | (with_reducible refine Below.alloc ?_ ?_ _) | (with_reducible refine below_plus ?_ ?_ _ _) | (with_reducible refine Below.drew ?_) | (with_reducible refine Below.setCell ?_ ?_ _) | (with_reducible refine below_adv ?_ ?_ _) | go_size | (simp; done) | (simp; omega)))
    have hT1 := (hK.here.below hb12).more hb12.size
    have hS1 := ((hKS w1 fun _ _ _ => rfl).below hb12).more hb12.size
    obtain ⟨hk0, hk1⟩ := hS1.cap
    obtain ⟨hct0, hct1⟩ := hT1.cap
    have hP2 : W2.heap[w1.heap.size]? = some (.cells #[.slice At m ct, .slice A2 n2 c2] 26 (0, 0)) := by rw [← hW2]; exact heap_alloc_new w1 _
    have hgP := lt_of_heap hP2
    have p0 : W2.cell? ⟨w1.heap.size, 0, none⟩ = some (.slice At m ct) := by rw [cell_of_row _ _ _ _ _ _ hP2]; rfl
    have p1 : W2.cell? ⟨w1.heap.size, 1, none⟩ = some (.slice A2 n2 c2) := by rw [cell_of_row _ _ _ _ _ _ hP2]; rfl
    have P0 := Lib.hid (fun (w' : World) (hb : Below W2.heap.size W2 w') => And.intro ((hb.cell (p := ⟨w1.heap.size, 0, none⟩) hgP).trans p0) ((hb.cell (p := ⟨w1.heap.size, 1, none⟩) hgP).trans p1))
    have hpl6 : ∀ s ∈ ss, s.1.length ≤ 1048576 := fun s hs => by have := hpl s hs; omega
    have htl := hT1.len
    have hlen := hS1.len
    have HT := Lib.hid hT1
    have HS := Lib.hid hS1
    have c1' := fun (x : Int) w' (hw : Below W2.heap.size W2 w') => longestRed_c At m ct t A2 n2 c2 ss x w' _ (HT.out.below hw) (HS.out.below hw) hw.size hpl6 (by omega)
    have c2' := fun w' (hw : Below W2.heap.size W2 w') => sLongestRed_c At m ct t A2 n2 c2 ss x w' _ (HT.out.below hw) (HS.out.below hw) hw.size hpl6 (by omega)
    have hb02 := hb1.trans (hb12.mono hz1)
    obtain ⟨V, hV⟩ : ∃ V, lrF t ss x = V := ⟨_, rfl⟩
    have C1 := Lib.hid (c1' x)
    have C2 := Lib.hid c2'
    rw [hV] at C1 C2
    have HB02 := Lib.hid hb02
    have HPL6 := Lib.hid hpl6
    clear hS hbs hP2 hK hKS hT1 hS1 c2' hb1 hb12 hb02
    by_cases hneg : V < 0
    · clear c1' hV hpl hpl6 htl hlen
      go_wp2_with fail
      clear hW2 p0 p1
      obtain ⟨q0, q1⟩ := P0.out W2 (Below.refl _ _)
      refine (C1.out W2 (Below.refl _ _)).mono ?_
      rintro e w2 ⟨rfl, hb2⟩
      have hz2 := hb2.size
      obtain ⟨q0, q1⟩ := P0.out w2 hb2
      go_wp2_with fail
      refine (C2.out w2 hb2).mono ?_
      rintro e w3 ⟨rfl, hb3⟩
      have hb23 := hb2.trans (hb3.mono hz2)
      clear q0 q1 hb2 hb3
      obtain ⟨q0, q1⟩ := P0.out w3 hb23
      go_wp2_with fail
      refine (C2.out w3 hb23).mono ?_
      rintro e w4 ⟨rfl, hb4⟩
      go_wp2_with fail
      go_ret
      exact ⟨rfl, HB02.out.trans ((hb23.trans (hb4.mono hb23.size)).mono HB02.out.size)⟩
    · rw [← hV] at hneg
      obtain ⟨hok, hx2, hx3, hv⟩ := lrF_ok hneg
      obtain ⟨N, hN, hN5, hN225, p1', p2', p4', -, -, hcf⟩ := plan_num hok
      rw [hN, Int.toNat_natCast, hV] at hv
      have HLP := Lib.hid (fun (k : Nat) (hk : k < n2) (hx : x ∉ phAt ss k) => lr_plan (x := x) p2' p4' hN hv (by omega) hx)
      have HPL := Lib.hid hpl
      rw [hV] at hneg
      clear c1' hV hpl hpl6 htl hlen hok hv p1' p2' p4' hcf hN
      go_wp2_with fail
      clear hW2 p0 p1
      refine (C1.out W2 (Below.refl _ _)).mono ?_
      rintro e w2 ⟨rfl, hb2⟩
      have hz2 := hb2.size
      obtain ⟨q0, q1⟩ := P0.out w2 hb2
      go_wp2_with fail
      refine (C2.out w2 hb2).mono ?_
      rintro e w3 ⟨rfl, hb3⟩
      have hb23 := hb2.trans (hb3.mono hz2)
      clear q0 q1 hb2 hb3 hz2 C1 C2
      obtain ⟨q0, q1⟩ := P0.out w3 hb23
      have hz3 := hb23.size
      go_wp2_with fail
      clear q0 q1
      go_loopw [6] (fun i wr => ∃ (k : Nat), k ≤ n2 ∧ i = .int .i64 k ∧ Below W2.heap.size W2 wr) (fun i _ => n2 - (intOf i).toNat)
      case atStart => exact ⟨0, by omega, rfl, hb23⟩
      case round =>
        clear hb23 hz3
        obtain ⟨k, hk, rfl, hb⟩ := hrel
        have hzr := hb.size
        obtain ⟨q0, q1⟩ := P0.out wr hb
        by_cases hlt : k < n2
        · obtain ⟨b, o, ph, g, A1, n1, c1, rfl, hbl, hx, hcell, hcellg, hrow⟩ := HS.out.at_ hlt
          have r1 := (hb.cell (p := ⟨b, o + k * 2, none⟩) hbl).trans hcell
          obtain ⟨e1, e2⟩ := phAt_of hx
          have HE : Hid (x ∉ ph → g ≤ V) := Lib.hid (fun h => by have := HLP.out k hlt (by rw [e1]; exact h); rw [e2] at this; exact this)
          have hp1 := HPL.out _ (List.mem_of_getElem? hx)
          simp only at hp1
          rw [hrow.len] at hp1
          have ci := lIsIn_c A1 n1 c1 ph x wr _ (hrow.below hb) hzr (by omega)
          have HCG := Lib.hid hcellg
          have HB := Lib.hid hb
          by_cases hin : x ∈ ph
          · rw [decide_eq_true hin] at ci
            have CI := Lib.hid ci
            clear ci hin hcell hcellg hrow hx e1 e2 hb
            go_wp2_with fail
            clear q0 q1 r1
            refine CI.out.mono ?_
            rintro e wa ⟨rfl, hba⟩
            have hbb := HB.out.trans (hba.mono hzr)
            go_wp2_with fail
            go_roundw
            case rel => exact ⟨k + 1, by omega, by go_num, hbb⟩
            case measure => simp [intOf]; omega
          · rw [decide_eq_false hin] at ci
            have hgV := HE.out hin
            have CI := Lib.hid ci
            clear ci hin hcell hcellg hrow hx e1 e2 hb
            go_wp2_with fail
            clear q0 q1 r1
            refine CI.out.mono ?_
            rintro e wa ⟨rfl, hba⟩
            have hbb := HB.out.trans (hba.mono hzr)
            have hza := hbb.size
            obtain ⟨q0, q1⟩ := P0.out wa hbb
            have r2 := (hbb.cell (p := ⟨b, o + k * 2 + 1, none⟩) hbl).trans HCG.out
            go_wp2_with fail
            go_roundw
            case rel => exact ⟨k + 1, by omega, by go_num, hbb⟩
            case measure => simp [intOf]; omega
        · obtain rfl : k = n2 := by omega
          have hbb := HB02.out.trans (hb.mono HB02.out.size)
          clear hb
          go_wp2_with fail
          go_ret
          exact ⟨rfl, hbb⟩
end Go.Proofs.Ytpfdhggejnbpbaa
