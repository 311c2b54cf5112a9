/- The law GreenAtClear. -/
import Derived.Test.YtckohbjgogbfaaaQu2
set_option linter.unusedVariables false
set_option linter.unusedSimpArgs false
namespace Go.Proofs.Ytckohbjgogbfaaa
open Go.RowKit

set_option maxHeartbeats 8000000 in
theorem greenAtClearLaw_walk (A : Option Addr) (n c : Nat) (bs : List Int) (w : World) (hS : Sl w w.heap.size BLit A n c bs) (hbs : ∀ x ∈ bs, 0 ≤ x ∧ x ≤ 255) :
    Calls Try.prog 3 #[.slice A n c] w fun e w' => e = .returned (.bool true) ∧ Below w.heap.size w w' := by
  obtain ⟨hc0, hc1⟩ := hS.cap
  by_cases hn : 1048576 < n
  · go_enter Try.func3, Try.ntmps3
    go_wp2
    go_ret
    exact ⟨rfl, by (repeat' (first | (with_reducible exact Below.refl _ _) | (with_reducible assumption) | (with_reducible refine Below.alloc ?_ ?_ _) | (with_reducible refine below_plus ?_ ?_ _ _) | (with_reducible refine Below.drew ?_) | (with_reducible refine Below.setCell ?_ ?_ _) | (with_reducible refine below_adv ?_ ?_ _) | go_size | (simp; done) | (simp; omega)))⟩
  · go_enter Try.func3, Try.ntmps3
    go_wp2_with fail
    refine (dDrawGreenAt_c A n c bs w _ hS (Nat.le_refl _) hbs).mono ?_
    rintro e w1 ⟨At, m, ct, t, A2, n2, c2, ss, x, rfl, hK, hKS, hm8, hn1, hn5, hpl, hx0, hx1, hb1⟩
    have hz1 := hb1.size
    obtain ⟨W2, hW2⟩ : ∃ W2, w1.alloc (.cells #[.slice At m ct, .slice A2 n2 c2] 26) = W2 := ⟨_, rfl⟩
    have hb12 : Below w1.heap.size w1 W2 := by rw [← hW2]; (repeat' (first | (with_reducible exact Below.refl _ _) | (with_reducible assumption) | (with_reducible refine Below.alloc ?_ ?_ _) | (with_reducible refine below_plus ?_ ?_ _ _) | (with_reducible refine Below.drew ?_) | (with_reducible refine Below.setCell ?_ ?_ _) | (with_reducible refine below_adv ?_ ?_ _) | go_size | (simp; done) | (simp; omega)))
    have hT1 := (hK.here.below hb12).more hb12.size
    have hS1 := ((hKS w1 fun _ _ _ => rfl).below hb12).more hb12.size
    obtain ⟨hk0, hk1⟩ := hS1.cap
    obtain ⟨hct0, hct1⟩ := hT1.cap
    have hP2 : W2.heap[w1.heap.size]? = some (.cells #[.slice At m ct, .slice A2 n2 c2] 26 (0, 0)) := by rw [← hW2]; exact heap_alloc_new w1 _
    have hgP := lt_of_heap hP2
    have p0 : W2.cell? ⟨w1.heap.size, 0, none⟩ = some (.slice At m ct) := by rw [cell_of_row _ _ _ _ _ _ hP2]; rfl
    have p1 : W2.cell? ⟨w1.heap.size, 1, none⟩ = some (.slice A2 n2 c2) := by rw [cell_of_row _ _ _ _ _ _ hP2]; rfl
    have P0 := Lib.hid (fun (w' : World) (hb : Below W2.heap.size W2 w') => And.intro ((hb.cell (p := ⟨w1.heap.size, 0, none⟩) hgP).trans p0) ((hb.cell (p := ⟨w1.heap.size, 1, none⟩) hgP).trans p1))
    have hpl6 : ∀ s ∈ ss, s.1.length ≤ 1048576 := fun s hs => by have := hpl s hs; omega
    have htl := hT1.len
    have hlen := hS1.len
    have HT := Lib.hid hT1
    have HS := Lib.hid hS1
    have CI := Lib.hid (fun (x : Int) w' (hw : Below W2.heap.size W2 w') => greenAt_c At m ct t A2 n2 c2 ss x w' _ (HT.out.below hw) (HS.out.below hw) hw.size hpl6 (by omega))
    have c2' := fun w' (hw : Below W2.heap.size W2 w') => sGreenAt1_c At m ct t A2 n2 c2 ss x w' _ (HT.out.below hw) (HS.out.below hw) hw.size hpl6 (by omega)
    have cv := fun w' (hw : Below W2.heap.size W2 w') => validPlan_c At m ct t A2 n2 c2 ss w' _ (HT.out.below hw) (HS.out.below hw) hw.size (fun s hs => Nat.le_trans (hpl6 s hs) (by omega))
    have hb02 := hb1.trans (hb12.mono hz1)
    obtain ⟨L, hL⟩ : ∃ L, gaF t ss x = L := ⟨_, rfl⟩
    have C1 := Lib.hid (CI.out x)
    have C2 := Lib.hid c2'
    rw [hL] at C1 C2
    have HB02 := Lib.hid hb02
    have HPL6 := Lib.hid hpl6
    clear hS hbs hP2 hK hKS hT1 hS1 c2' hb1 hb12 hb02
    cases hok : planB t ss
    · skip
      rw [hok] at cv
      have CV := Lib.hid cv
      clear cv hok hL hpl hpl6 htl hlen CI
      go_wp2_with fail
      clear hW2 p0 p1
      refine (C1.out W2 (Below.refl _ _)).mono ?_
      rintro e w2 ⟨v2, nl, rfl, hO2, hb2⟩
      obtain ⟨Al, cl, rfl, hWl⟩ := Ow.of_own hO2
      have hz2 := hb2.size
      have HSL := Lib.hid hWl.sl
      have HB2 := Lib.hid hb2
      have PP := Lib.hid (fun w' (hb : Below w2.heap.size w2 w') => P0.out w' (hb2.trans (hb.mono hz2)))
      have SG := Lib.hid (fun w' (hb : Below w2.heap.size w2 w') => C2.out w' (hb2.trans (hb.mono hz2)))
      have VP := Lib.hid (fun w' (hb : Below w2.heap.size w2 w') => CV.out w' (hb2.trans (hb.mono hz2)))
      have EQ := Lib.hid (fun w' (hb : Below w2.heap.size w2 w') A3 n3 c3 (h3 : Sl w' w'.heap.size ILit A3 n3 c3 L) => equalInts_t Al nl cl L A3 n3 c3 w' _ _ (HSL.out.below hb) hb.size h3 (Nat.le_refl _))
      clear hO2 hWl hb2 C1 C2 CV
      obtain ⟨q0, q1⟩ := PP.out w2 (Below.refl _ _)
      go_wp2_with fail
      refine (SG.out w2 (Below.refl _ _)).mono ?_
      rintro e w3 ⟨v3, n3, rfl, hO3, hb3⟩
      obtain ⟨A3, c3, rfl, hW3⟩ := Ow.of_own hO3
      have E3 := Lib.hid (EQ.out w3 hb3 A3 n3 c3 hW3.sl)
      have hz3 := hb3.size
      clear hO3 hW3 q0 q1
      go_wp2_with fail
      refine E3.out.mono ?_
      rintro e w4 ⟨rfl, hb4⟩
      have hb24 := hb3.trans (hb4.mono hz3)
      have hz4 := hb24.size
      clear hb3 hb4 E3
      obtain ⟨q0, q1⟩ := PP.out w4 hb24
      go_wp2_with fail
      refine (VP.out w4 hb24).mono ?_
      rintro e w5 ⟨rfl, hb5⟩
      have hb25 := hb24.trans (hb5.mono hz4)
      have hz5 := hb25.size
      clear q0 q1 hb24 hb5
      obtain ⟨q0, q1⟩ := PP.out w5 hb25
      go_wp2_with fail
      refine (SG.out w5 hb25).mono ?_
      rintro e w7 ⟨v7, n7, rfl, hO7, hb7⟩
      obtain ⟨A7, c7, rfl, hW7⟩ := Ow.of_own hO7
      have hb27 := Below.trans hb25 (hb7.mono (Below.size hb25))
      have E7 := Lib.hid (EQ.out w7 hb27 A7 n7 c7 hW7.sl)
      clear hO7 hW7 q0 q1
      go_wp2_with fail
      refine E7.out.mono ?_
      rintro e w8 ⟨rfl, hb8⟩
      go_wp2_with fail
      go_ret
      exact ⟨rfl, HB02.out.trans ((HB2.out.trans ((hb27.trans (hb8.mono hb27.size)).mono hz2)).mono HB02.out.size)⟩
    · obtain ⟨N, hN, hN5, hN225, hsq, hic, hgr, -, -⟩ := plan_num' hok
      have HGA := Lib.hid (fun (x y : Int) (h : y ∈ gaF t ss x) => show 0 ≤ y ∧ y < (m : Int) by have := (gaF_sub h).2; rw [htl] at this; exact this)
      have HCK := Lib.hid (fun (s k : Nat) (hs : x = (s : Int)) (hk : 1 ≤ k) (hks : k ≤ s) (h9 : s ≤ 9999) (a b : Int) (ha : a ∈ gaF t ss ((s : Int) - k)) (hb : b ∈ L) => gaF_clear hok hk hks h9 ha (by rw [← hs, hL]; exact hb))
      have HLB := Lib.hid (fun (y : Int) (h : y ∈ L) => HGA.out x y (by rw [hL]; exact h))
      have HSQ := Lib.hid hsq
      have HIC := Lib.hid hic
      have HLN := Lib.hid (fun (x : Int) => show (gaF t ss x).length ≤ 1048576 by
        unfold gaF; split
        · exact greenN_len hpl6
        · exact Nat.zero_le _)
      have HLL := HLN.out x
      rw [hL] at HLL
      have HOK := Lib.hid hok
      rw [hok] at cv
      have CV := Lib.hid cv
      clear cv hok hL hpl hpl6 htl hlen hN hgr hsq hic
      go_wp2_with fail
      clear hW2 p0 p1
      refine (C1.out W2 (Below.refl _ _)).mono ?_
      rintro e w2 ⟨v2, nl, rfl, hO2, hb2⟩
      obtain ⟨Al, cl, rfl, hWl⟩ := Ow.of_own hO2
      have hz2 := hb2.size
      have HSL := Lib.hid hWl.sl
      have HB2 := Lib.hid hb2
      have PP := Lib.hid (fun w' (hb : Below w2.heap.size w2 w') => P0.out w' (hb2.trans (hb.mono hz2)))
      have SG := Lib.hid (fun w' (hb : Below w2.heap.size w2 w') => C2.out w' (hb2.trans (hb.mono hz2)))
      have VP := Lib.hid (fun w' (hb : Below w2.heap.size w2 w') => CV.out w' (hb2.trans (hb.mono hz2)))
      have EQ := Lib.hid (fun w' (hb : Below w2.heap.size w2 w') A3 n3 c3 (h3 : Sl w' w'.heap.size ILit A3 n3 c3 L) => equalInts_t Al nl cl L A3 n3 c3 w' _ _ (HSL.out.below hb) hb.size h3 (Nat.le_refl _))
      clear hO2 hWl hb2 C1 C2 CV
      obtain ⟨q0, q1⟩ := PP.out w2 (Below.refl _ _)
      go_wp2_with fail
      refine (SG.out w2 (Below.refl _ _)).mono ?_
      rintro e w3 ⟨v3, n3, rfl, hO3, hb3⟩
      obtain ⟨A3, c3, rfl, hW3⟩ := Ow.of_own hO3
      have E3 := Lib.hid (EQ.out w3 hb3 A3 n3 c3 hW3.sl)
      have hz3 := hb3.size
      clear hO3 hW3 q0 q1
      go_wp2_with fail
      refine E3.out.mono ?_
      rintro e w4 ⟨rfl, hb4⟩
      have hb24 := hb3.trans (hb4.mono hz3)
      have hz4 := hb24.size
      clear hb3 hb4 E3
      obtain ⟨q0, q1⟩ := PP.out w4 hb24
      go_wp2_with fail
      refine (VP.out w4 hb24).mono ?_
      rintro e w5 ⟨rfl, hb5⟩
      have hb25 := hb24.trans (hb5.mono hz4)
      have hz5 := hb25.size
      clear q0 q1 hb24 hb5
      obtain ⟨q0, q1⟩ := PP.out w5 hb25
      have hnl := HSL.out.len
      by_cases hneg : x < 5
      · go_wp2_with fail
        refine (SG.out w5 hb25).mono ?_
        rintro e w7 ⟨v7, n7, rfl, hO7, hb7⟩
        obtain ⟨A7, c7, rfl, hW7⟩ := Ow.of_own hO7
        have hb27 := Below.trans hb25 (hb7.mono (Below.size hb25))
        have E7 := Lib.hid (EQ.out w7 hb27 A7 n7 c7 hW7.sl)
        clear hO7 hW7 q0 q1
        go_wp2_with fail
        refine E7.out.mono ?_
        rintro e w8 ⟨rfl, hb8⟩
        go_wp2_with fail
        go_ret
        exact ⟨rfl, HB02.out.trans ((HB2.out.trans ((hb27.trans (hb8.mono hb27.size)).mono hz2)).mono HB02.out.size)⟩
      · by_cases hbig : 9999 < x
        · go_wp2_with fail
          refine (SG.out w5 hb25).mono ?_
          rintro e w7 ⟨v7, n7, rfl, hO7, hb7⟩
          obtain ⟨A7, c7, rfl, hW7⟩ := Ow.of_own hO7
          have hb27 := Below.trans hb25 (hb7.mono (Below.size hb25))
          have E7 := Lib.hid (EQ.out w7 hb27 A7 n7 c7 hW7.sl)
          clear hO7 hW7 q0 q1
          go_wp2_with fail
          refine E7.out.mono ?_
          rintro e w8 ⟨rfl, hb8⟩
          go_wp2_with fail
          go_ret
          exact ⟨rfl, HB02.out.trans ((HB2.out.trans ((hb27.trans (hb8.mono hb27.size)).mono hz2)).mono HB02.out.size)⟩
        · obtain ⟨s, rfl⟩ := Int.eq_ofNat_of_zero_le (show 0 ≤ x by omega)
          have HCS := Lib.hid (fun (k : Nat) (hk : 1 ≤ k) (hk5 : k ≤ 5) => HCK.out s k rfl hk (by omega) (by omega))
          clear HCK
          go_wp2_with fail
          clear q0 q1
          go_loopw [6] (fun i wr => ∃ (k : Nat), 1 ≤ k ∧ k ≤ 6 ∧ i = .int .i64 k ∧ Below w2.heap.size w2 wr) (fun i _ => 6 - (intOf i).toNat)
          case atStart => exact ⟨1, by omega, by omega, rfl, hb25⟩
          case round =>
            clear hb25 hz5
            obtain ⟨k, hk1', hk6, rfl, hb⟩ := hrel
            have hzr := hb.size
            obtain ⟨q0, q1⟩ := PP.out wr hb
            by_cases hlt : k ≤ 5
            · have X5 := Lib.hid (CI.out ((s : Int) - k) wr (HB2.out.trans (hb.mono hz2)))
              have HC5 := Lib.hid (HCS.out k hk1' hlt)
              obtain ⟨Bf, hBf⟩ : ∃ Bf, gaF t ss ((s : Int) - k) = Bf := ⟨_, rfl⟩
              have HBB := Lib.hid (fun (y : Int) (h : y ∈ Bf) => HGA.out _ y (by rw [hBf]; exact h))
              have hbl := HLN.out ((s : Int) - k)
              rw [hBf] at X5 HC5 hbl
              have HB := Lib.hid hb
              clear hb hBf
              go_wp2_with fail
              clear q0 q1
              refine X5.out.mono ?_
              rintro e w7 ⟨v7, n7, rfl, hO7, hb7⟩
              obtain ⟨A7, c7, rfl, hW7⟩ := Ow.of_own hO7
              have hb27 := HB.out.trans (hb7.mono hzr)
              have H7 := Lib.hid hW7.sl
              have hn7 := H7.out.len
              have hz7 := hb27.size
              have H27 := Lib.hid hb27
              clear hO7 hW7 hb7
              go_wp2_with fail
              go_loopw [8] (fun i wr => ∃ (q : Nat), q ≤ n7 ∧ i = .int .i64 q ∧ Below w7.heap.size w7 wr) (fun i _ => n7 - (intOf i).toNat)
              case atStart => exact ⟨0, by omega, rfl, Below.refl _ _⟩
              case round =>
                clear hb27
                obtain ⟨q, hq, rfl, hb⟩ := hrel
                by_cases hqn : q < n7
                · go_wp2_with fail
                  go_loopw [9] (fun i wr => ∃ (p : Nat), p ≤ nl ∧ i = .int .i64 p ∧ Below w7.heap.size w7 wr) (fun i _ => nl - (intOf i).toNat)
                  case atStart => exact ⟨0, by omega, rfl, hb⟩
                  case round =>
                    clear hb
                    obtain ⟨p, hp, rfl, hb⟩ := hrel
                    have hzr2 := hb.size
                    by_cases hpn : p < nl
                    · have hbr := H27.out.trans (hb.mono hz7)
                      obtain ⟨q0, q1⟩ := PP.out _ hbr
                      obtain ⟨ba, oa, a, rfl, hba, hax, hac⟩ := (H7.out.below hb).at_ hqn
                      obtain ⟨bb, ob, d, rfl, hbb, hbx, hbc⟩ := (HSL.out.below hbr).at_ hpn
                      have ha := HBB.out a (List.mem_of_getElem? hax)
                      have hd := HLB.out d (List.mem_of_getElem? hbx)
                      have hck := HC5.out a d (List.mem_of_getElem? hax) (List.mem_of_getElem? hbx)
                      obtain ⟨ha0, ha1⟩ := ha
                      obtain ⟨hd0, hd1⟩ := hd
                      obtain ⟨a, rfl⟩ := Int.eq_ofNat_of_zero_le ha0
                      obtain ⟨d, rfl⟩ := Int.eq_ofNat_of_zero_le hd0
                      obtain ⟨bt, ot, br, or', dr, rr, rfl, hbtl, hbrl, hrr, hrl, hrc, hcellr, hrowr⟩ := (HT.out.below (HB2.out.trans (hbr.mono hz2))).entry HSQ.out (show a < m by omega)
                      obtain ⟨P, hP⟩ : ∃ P, rr[d]? = some P := ⟨_, List.getElem?_eq_getElem (by omega)⟩
                      have hPc := cAt_of hrr hP
                      simp only [Int.toNat_natCast] at hck
                      rw [hPc] at hck
                      have r1 : wr.cell? ⟨ba, oa + q, none⟩ = some (.int .i64 a) := hac
                      have r2 : wr.cell? ⟨bb, ob + p, none⟩ = some (.int .i64 d) := hbc
                      have r3 : wr.cell? ⟨bt, ot + a, none⟩ = some (.slice (some ⟨br, or', none⟩) m dr) := hcellr
                      have r4 : wr.cell? ⟨br, or' + d, none⟩ = some (.int .i64 P) := hrowr d P hP
                      have hz2W := HB2.out.size
                      have hzbr := hbr.size
                      have u1 : ba < wr.heap.size := by omega
                      have u2 : bb < wr.heap.size := by omega
                      have u3 : bt < wr.heap.size := by omega
                      have u4 : br < wr.heap.size := by omega
                      have u5 : w1.heap.size < wr.heap.size := by omega
                      have i0 : (0 : Int) ≤ (a : Int) := by omega
                      have i2 : (0 : Int) ≤ (d : Int) := by omega
                      have i4 : (0 : Int) ≤ (q : Int) := by omega
                      have i5 : (q : Int) < (n7 : Int) := by omega
                      have i6 : (0 : Int) ≤ (p : Int) := by omega
                      have i7 : (p : Int) < (nl : Int) := by omega
                      have g1 : decide ((k : Int) ≤ P) = false := by simp; omega
                      have HBr := Lib.hid hb
                      clear hac hbc hcellr hrowr hax hbx hrr hrl hrc hP hPc hb hbr
                      go_wp2_with fail
                      refine wp_region_plus (by kernel_rfl) (by kernel_rfl) ?_; (repeat (go_big_quiet_step (fail))); refine wpQuiet_nil ?_; intro _ hw'; obtain ⟨⟨osq, dq⟩, hw''⟩ := hw'; subst hw''
                      clear r1 r2 r3 r4 q0 q1 g1
                      go_wp2_with fail
                      go_roundw
                      case rel => exact ⟨p + 1, by omega, by go_num, by have hb := HBr.out; (repeat' (first | (with_reducible exact Below.refl _ _) | (with_reducible assumption) | (with_reducible refine Below.alloc ?_ ?_ _) | (with_reducible refine below_plus ?_ ?_ _ _) | (with_reducible refine Below.drew ?_) | (with_reducible refine Below.setCell ?_ ?_ _) | (with_reducible refine below_adv ?_ ?_ _) | go_size | (simp; done) | (simp; omega)))⟩
                      case measure => simp [intOf]; omega
                    · obtain rfl : p = nl := by omega
                      go_wp2_with fail
                      go_roundw
                      case rel => exact ⟨q + 1, by omega, by go_num, hb⟩
                      case measure => simp [intOf]; omega
                · obtain rfl : q = n7 := by omega
                  have hbr := H27.out.trans (hb.mono hz7)
                  clear hb
                  go_wp2_with fail
                  go_roundw
                  case rel => exact ⟨k + 1, by omega, by omega, by go_num, hbr⟩
                  case measure => simp [intOf]; omega
            · go_wp2_with fail
              go_ret
              exact ⟨rfl, HB02.out.trans ((HB2.out.trans (hb.mono hz2)).mono HB02.out.size)⟩
end Go.Proofs.Ytckohbjgogbfaaa
