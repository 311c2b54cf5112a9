/- impl.changeOf, walked. -/
import Derived.Test.YtlpbmnmhpknppaaCd1
import Derived.Test.YtlpbmnmhpknppaaCc1
set_option linter.unusedVariables false
set_option linter.unusedSimpArgs false
namespace Go.Proofs.Ytlpbmnmhpknppaa
open Go.RowKit

theorem stepC_in (t : List (List Int)) (fr to : List Int) {a : Int} (h : a ∈ to) (m b : Int) : stepC t fr to a m b = m := by simp [stepC, h]
theorem rowC_in (t : List (List Int)) (fr to : List Int) {a : Int} (h : a ∈ to) (m : Int) : rowC t fr to m a = m := by
  unfold rowC
  have : ∀ (l : List Int) (m : Int), l.foldl (stepC t fr to a) m = m := fun l => by
    induction l with
    | nil => intro m; rfl
    | cons x l ih => intro m; rw [List.foldl_cons, stepC_in t fr to h]; exact ih m
  exact this to m

set_option maxHeartbeats 4000000 in
theorem changeOf_c (At : Option Addr) (m ct : Nat) (t : List (List Int)) (A : Option Addr) (n c : Nat) (fr : List Int) (A2 : Option Addr) (n2 c2 : Nat) (to : List Int) (w : World) (B : Nat) (hT : Sl2 w B ILit At m ct t) (hS : Sl w B ILit A n c fr) (hS2 : Sl w B ILit A2 n2 c2 to) (hB : B ≤ w.heap.size)
    (hsq : sqB t = true) (hfr : ∀ x ∈ fr, 0 ≤ x ∧ x < m) (hto : ∀ x ∈ to, 0 ≤ x ∧ x < m) :
    Calls Try.prog 59 #[.slice At m ct, .slice A n c, .slice A2 n2 c2] w fun e w' => e = .returned (.int .i64 (changeN t fr to)) ∧ Below w.heap.size w w' := by
  obtain ⟨hc0, hc1⟩ := hS.cap
  obtain ⟨hd0, hd1⟩ := hS2.cap
  obtain ⟨ht0, ht1⟩ := hT.cap
  have HL1 := Lib.hid hS.len
  have HL2 := Lib.hid hS2.len
  have HSQ := Lib.hid hsq
  have HFR := Lib.hid hfr
  have HTO := Lib.hid hto
  have hT0 := hT.more hB
  have hF0 := hS.more hB
  have hG0 := hS2.more hB
  clear hsq hfr hto hT hS hS2
  go_enter Try.func59, Try.ntmps59
  go_wp2_with fail
  go_loopw [7, 14] (fun l i wr => ∃ (k : Nat) (M : Int), k ≤ n ∧ i = .int .i64 k ∧ l = .int .i64 M ∧ Hid (M = (fr.take k).foldl (rowC t fr to) 0) ∧ Below w.heap.size w wr) (fun _ i _ => n - (intOf i).toNat)
  case atStart => exact ⟨0, 0, by omega, rfl, rfl, Lib.hid (by simp), Below.refl _ _⟩
  case round =>
    obtain ⟨k, M, hk, rfl, rfl, hM, hb⟩ := hrel
    have hzr := hb.size
    by_cases hlt : k < n
    · obtain ⟨b, o, a, rfl, hbl, ha, hcell⟩ := (hF0.below hb).at_ hlt
      have hcell' : wr.cell? ⟨b, o + k, none⟩ = some (.int .i64 a) := hcell
      have hF := foldl_snoc (rowC t fr to) 0 ha
      rw [← hM.out] at hF
      have HF := Lib.hid hF
      have HA := Lib.hid (HFR.out a (List.mem_of_getElem? ha))
      have C1 := Lib.hid (contains_c A2 n2 c2 to a wr _ (hG0.below hb) hzr)
      clear hcell ha hF
      by_cases hin : a ∈ to
      · rw [decide_eq_true hin] at C1
        have HN : Hid (M = (fr.take (k + 1)).foldl (rowC t fr to) 0) := Lib.hid (by rw [HF.out, rowC_in t fr to hin])
        go_wp2_with fail
        refine C1.out.mono ?_
        rintro e w1 ⟨rfl, hb1⟩
        go_wp2_with fail
        go_roundw
        case rel => exact ⟨k + 1, M, by omega, by go_num, rfl, HN, hb.trans (hb1.mono hzr)⟩
        case measure => simp [intOf]; omega
      · rw [decide_eq_false hin] at C1
        go_wp2_with fail
        refine C1.out.mono ?_
        rintro e w1 ⟨rfl, hb1⟩
        have hz1 := hb1.size
        have hb01 := hb.trans (hb1.mono hzr)
        clear C1
        go_wp2_with fail
        go_loopw [7, 23] (fun l i wr2 => ∃ (j : Nat) (M2 : Int), j ≤ n2 ∧ i = .int .i64 j ∧ l = .int .i64 M2 ∧ Hid (M2 = (to.take j).foldl (stepC t fr to a) M) ∧ Below w.heap.size w wr2) (fun _ i _ => n2 - (intOf i).toNat)
        case atStart => exact ⟨0, M, by omega, rfl, rfl, Lib.hid (by simp), hb01⟩
        case round =>
          clear hb1 hb01 hz1
          obtain ⟨j, M2, hj, rfl, rfl, hM2, hb2⟩ := hrel
          have hzr2 := hb2.size
          by_cases hjn : j < n2
          · obtain ⟨g, p, x, rfl, hgl, hx, hcx⟩ := (hG0.below hb2).at_ hjn
            have hcx' : wr.cell? ⟨g, p + j, none⟩ = some (.int .i64 x) := hcx
            have hF2 := foldl_snoc (stepC t fr to a) M hx
            rw [← hM2.out] at hF2
            have HF2 := Lib.hid hF2
            have HX := Lib.hid (HTO.out x (List.mem_of_getElem? hx))
            have C2 := Lib.hid (contains_c _ n c fr x wr _ (hF0.below hb2) hzr2)
            clear hcx hx hF2
            by_cases hix : x ∈ fr
            · rw [decide_eq_true hix] at C2
              have HN : Hid (M2 = (to.take (j + 1)).foldl (stepC t fr to a) M) := Lib.hid (by rw [HF2.out]; simp [stepC, hix])
              go_wp2_with fail
              refine C2.out.mono ?_
              rintro e w2 ⟨rfl, hb3⟩
              go_wp2_with fail
              go_roundw
              case rel => exact ⟨j + 1, M2, by omega, by go_num, rfl, HN, hb2.trans (hb3.mono hzr2)⟩
              case measure => simp [intOf]; omega
            · rw [decide_eq_false hix] at C2
              obtain ⟨ha0, ha1⟩ := HA.out
              obtain ⟨hx0, hx1⟩ := HX.out
              obtain ⟨a', rfl⟩ := Int.eq_ofNat_of_zero_le ha0
              obtain ⟨x', rfl⟩ := Int.eq_ofNat_of_zero_le hx0
              go_wp2_with fail
              refine C2.out.mono ?_
              rintro e w2 ⟨rfl, hb3⟩
              have hb4 := hb2.trans (hb3.mono hzr2)
              have hz4 := hb4.size
              obtain ⟨b1, o1, b2, o2, d2, ra, rfl, hl1, hl2, hra, hral, hrac, hrc, hrow⟩ := (hT0.below hb4).entry HSQ.out (a := a') (by omega)
              obtain ⟨y, hy⟩ : ∃ y, ra[x']? = some y := ⟨_, List.getElem?_eq_getElem (by omega)⟩
              have r1 : w2.cell? ⟨b1, o1 + a', none⟩ = some (.slice (some ⟨b2, o2, none⟩) m d2) := hrc
              have r2 : w2.cell? ⟨b2, o2 + x', none⟩ = some (.int .i64 y) := hrow x' y hy
              have hyc := cAt_of hra hy
              have HN : Hid (max M2 y = (to.take (j + 1)).foldl (stepC t fr to a') M) := Lib.hid (by rw [HF2.out]; simp [stepC, hix, hin, hyc])
              clear hrc hrow hra hy hyc hral
              go_wp2_with fail
              go_roundw
              case rel => exact ⟨j + 1, max M2 y, by omega, by go_num, by simp; split <;> omega, HN, hb4⟩
              case measure => simp [intOf]; omega
          · obtain rfl : j = n2 := by omega
            have hE := hM2.out
            rw [List.take_of_length_le (by rw [HL2.out]; omega)] at hE
            have HN : Hid (M2 = (fr.take (k + 1)).foldl (rowC t fr to) 0) := Lib.hid (by rw [HF.out, hE]; rfl)
            clear hE
            go_wp2_with fail
            go_roundw
            case rel => exact ⟨k + 1, M2, by omega, by go_num, rfl, HN, hb2⟩
            case measure => simp [intOf]; omega
    · obtain rfl : k = n := by omega
      have hE := hM.out
      rw [List.take_of_length_le (by rw [HL1.out]; omega)] at hE
      have HE : Hid (M = changeN t fr to) := Lib.hid hE
      clear hE
      go_wp2_with fail
      go_ret
      exact ⟨by rw [← HE.out]; rfl, hb⟩
end Go.Proofs.Ytlpbmnmhpknppaa
