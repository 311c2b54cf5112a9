/- spec.change, walked. -/
import Derived.Test.YtlpbmnmhpknppaaCd2
import Derived.StillTailTactics
set_option linter.unusedVariables false
set_option linter.unusedSimpArgs false
namespace Go.Proofs.Ytlpbmnmhpknppaa
open Go.RowKit

set_option maxHeartbeats 4000000 in
theorem sChange_c (At : Option Addr) (m ct : Nat) (t : List (List Int)) (A : Option Addr) (n c : Nat) (fr : List Int) (A2 : Option Addr) (n2 c2 : Nat) (to : List Int) (w : World) (B : Nat) (hT : Sl2 w B ILit At m ct t) (hS : Sl w B ILit A n c fr) (hS2 : Sl w B ILit A2 n2 c2 to) (hB : B ≤ w.heap.size) (hn : n ≤ 1099511627776) (hn2 : n2 ≤ 1099511627776)
    (hsq : sqB t = true) (hfr : ∀ x ∈ fr, 0 ≤ x ∧ x < m) (hto : ∀ x ∈ to, 0 ≤ x ∧ x < m) :
    Calls Try.prog 57 #[.slice At m ct, .slice A n c, .slice A2 n2 c2] w fun e w' => e = .returned (.int .i64 (changeN t fr to)) ∧ Below w.heap.size w w' := by
  obtain ⟨hc0, hc1⟩ := hS.cap
  obtain ⟨hd0, hd1⟩ := hS2.cap
  obtain ⟨ht0, ht1⟩ := hT.cap
  have HL1 := Lib.hid hS.len
  have HL2 := Lib.hid hS2.len
  have HSQ := Lib.hid hsq
  have HFR := Lib.hid hfr
  have HTO := Lib.hid hto
  have hT0 := hT.more hB
  have hF0 := hS.more hB
  have hG0 := hS2.more hB
  clear hsq hfr hto hT hS hS2
  go_enter Try.func57, Try.ntmps57
  go_wp2_with fail
  go_loopw [7, 8] (fun l i wr => ∃ (k : Nat) (M : Int), k ≤ n ∧ i = .int .i64 k ∧ l = .int .i64 M ∧ Hid (M = (fr.take k).foldl (rowC t fr to) 0) ∧ Below w.heap.size w wr) (fun _ i _ => n - (intOf i).toNat)
  case atStart => exact ⟨0, 0, by omega, rfl, rfl, Lib.hid (by simp), Below.refl _ _⟩
  case round =>
    obtain ⟨k, M, hk, rfl, rfl, hM, hb⟩ := hrel
    have hzr := hb.size
    by_cases hlt : k < n
    · obtain ⟨b, o, a, rfl, hbl, ha, -⟩ := (hF0.below hb).at_ hlt
      have hF := foldl_snoc (rowC t fr to) 0 ha
      rw [← hM.out] at hF
      have HF := Lib.hid hF
      have HAA := Lib.hid ha
      obtain ⟨ha0, ha1⟩ := HFR.out a (List.mem_of_getElem? ha)
      obtain ⟨a, rfl⟩ := Int.eq_ofNat_of_zero_le ha0
      clear ha hF
      go_wp2_with fail
      go_loopw [7, 9] (fun l i wr2 => ∃ (j : Nat) (M2 : Int), j ≤ n2 ∧ i = .int .i64 j ∧ l = .int .i64 M2 ∧ Hid (M2 = (to.take j).foldl (stepC t fr to a) M) ∧ Below w.heap.size w wr2) (fun _ i _ => n2 - (intOf i).toNat)
      case atStart => exact ⟨0, M, by omega, rfl, rfl, Lib.hid (by simp), hb⟩
      case round =>
        clear hb hzr
        obtain ⟨j, M2, hj, rfl, rfl, hM2, hb2⟩ := hrel
        have hzr2 := hb2.size
        by_cases hjn : j < n2
        · obtain ⟨g, p, x, rfl, hgl, hx, hcx⟩ := (hG0.below hb2).at_ hjn
          have hcx' : wr.cell? ⟨g, p + j, none⟩ = some (.int .i64 x) := hcx
          obtain ⟨b', o', a2, hA, -, ha2, hca⟩ := (hF0.below hb2).at_ hlt
          injection hA with hA
          injection hA with hA1 hA2
          subst hA1 hA2
          rw [HAA.out] at ha2
          injection ha2 with ha2
          subst ha2
          have hca' : wr.cell? ⟨b, o + k, none⟩ = some (.int .i64 (a : Int)) := hca
          have hF2 := foldl_snoc (stepC t fr to a) M hx
          rw [← hM2.out] at hF2
          have HF2 := Lib.hid hF2
          obtain ⟨hx0, hx1⟩ := HTO.out x (List.mem_of_getElem? hx)
          obtain ⟨x, rfl⟩ := Int.eq_ofNat_of_zero_le hx0
          have C1 := Lib.hid (isIn_c _ n2 c2 to a wr _ (hG0.below hb2) hzr2 hn2)
          have C2 := Lib.hid (fun w' (hw : Below wr.heap.size wr w') => isIn_c _ n c fr x w' _ (hF0.below (hb2.trans (hw.mono hzr2))) (Nat.le_trans hzr2 hw.size) hn)
          have i0 : (0 : Int) ≤ (k : Int) := by omega
          have i1 : (k : Int) < (n : Int) := by omega
          have j0 : (0 : Int) ≤ (j : Int) := by omega
          have j1 : (j : Int) < (n2 : Int) := by omega
          clear hcx hx hca hF2
          by_cases hin : (a : Int) ∈ to
          · rw [decide_eq_true hin] at C1
            have HN : Hid (M2 = (to.take (j + 1)).foldl (stepC t fr to a) M) := Lib.hid (by rw [HF2.out, stepC_in t fr to hin])
            clear C2
            go_wp2_with fail
            refine C1.out.mono ?_
            rintro e w1 ⟨rfl, hb1⟩
            go_wp2_with fail
            go_roundw
            case rel => exact ⟨j + 1, M2, by omega, by go_num, rfl, HN, hb2.trans (hb1.mono hzr2)⟩
            case measure => simp [intOf]; omega
          · rw [decide_eq_false hin] at C1
            by_cases hix : (x : Int) ∈ fr
            · rw [decide_eq_true hix] at C2
              have HN : Hid (M2 = (to.take (j + 1)).foldl (stepC t fr to a) M) := Lib.hid (by rw [HF2.out]; simp [stepC, hix])
              have hgw : g < wr.heap.size := by omega
              go_wp2_with fail
              refine C1.out.mono ?_
              rintro e w1 ⟨rfl, hb1⟩
              have hcx1 := (hb1.cell (p := ⟨g, p + j, none⟩) hgw).trans hcx'
              have hz1 := hb1.size
              clear hcx' hca'
              go_wp2_with fail
              refine (C2.out w1 hb1).mono ?_
              rintro e w2 ⟨rfl, hb3⟩
              go_wp2_with fail
              go_roundw
              case rel => exact ⟨j + 1, M2, by omega, by go_num, rfl, HN, (hb2.trans (hb1.mono hzr2)).trans (hb3.mono (by omega))⟩
              case measure => simp [intOf]; omega
            · rw [decide_eq_false hix] at C2
              have hgw : g < wr.heap.size := by omega
              have hbw : b < wr.heap.size := by omega
              obtain ⟨b1, o1, b2, o2, d2, ra, rfl, hl1, hl2, hra, hral, hrac, hrc, hrow⟩ := (hT0.below hb2).entry HSQ.out (a := a) (by omega)
              obtain ⟨y, hy⟩ : ∃ y, ra[x]? = some y := ⟨_, List.getElem?_eq_getElem (by omega)⟩
              have r1 : wr.cell? ⟨b1, o1 + a, none⟩ = some (.slice (some ⟨b2, o2, none⟩) m d2) := hrc
              have r2 : wr.cell? ⟨b2, o2 + x, none⟩ = some (.int .i64 y) := hrow x y hy
              have hyc := cAt_of hra hy
              have HN : Hid (max M2 y = (to.take (j + 1)).foldl (stepC t fr to a) M) := Lib.hid (by rw [HF2.out]; simp [stepC, hix, hin, hyc])
              clear hrc hrow hra hy hyc hral
              go_wp2_with fail
              refine C1.out.mono ?_
              rintro e w1 ⟨rfl, hb1⟩
              have hcx1 := (hb1.cell (p := ⟨g, p + j, none⟩) hgw).trans hcx'
              have hz1 := hb1.size
              go_wp2_with fail
              refine (C2.out w1 hb1).mono ?_
              rintro e w2 ⟨rfl, hb3⟩
              have hb13 := hb1.trans (hb3.mono hz1)
              have hz3 := hb13.size
              have e1 := (hb13.cell (p := ⟨g, p + j, none⟩) hgw).trans hcx'
              have e2 := (hb13.cell (p := ⟨b, o + k, none⟩) hbw).trans hca'
              have e3 := (hb13.cell (p := ⟨b1, o1 + a, none⟩) (show b1 < _ by omega)).trans r1
              have e4 := (hb13.cell (p := ⟨b2, o2 + x, none⟩) (show b2 < _ by omega)).trans r2
              have hb4 := hb2.trans (hb13.mono hzr2)
              have HB4 := Lib.hid hb4
              have a1 : (a : Int) < (m : Int) := by omega
              have x1 : (x : Int) < (m : Int) := by omega
              clear hcx' hcx1 hca' r1 r2 hb1 hb3 hb13 hb2 hb4 C1 C2 hT0 hF0 hG0
              go_wp2_with fail
              go_still_tail 14, (by kernel_rfl)
              change wpList _ _ _ _ _ w2.drew
              go_wp2_with fail
              go_roundw
              case rel => exact ⟨j + 1, max M2 y, by omega, by go_num, by simp; try (split <;> omega), HN, HB4.out.drew⟩
              case measure => simp [intOf]; omega
        · obtain rfl : j = n2 := by omega
          have hE := hM2.out
          rw [List.take_of_length_le (by rw [HL2.out]; omega)] at hE
          have HN : Hid (M2 = (fr.take (k + 1)).foldl (rowC t fr to) 0) := Lib.hid (by rw [HF.out, hE]; rfl)
          clear hE
          go_wp2_with fail
          go_roundw
          case rel => exact ⟨k + 1, M2, by omega, by go_num, rfl, HN, hb2⟩
          case measure => simp [intOf]; omega
    · obtain rfl : k = n := by omega
      have hE := hM.out
      rw [List.take_of_length_le (by rw [HL1.out]; omega)] at hE
      have HE : Hid (M = changeN t fr to) := Lib.hid hE
      clear hE
      go_wp2_with fail
      go_ret
      exact ⟨by rw [← HE.out]; rfl, hb⟩
end Go.Proofs.Ytlpbmnmhpknppaa
