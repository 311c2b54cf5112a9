/- The law FullPhases. -/
import Derived.Test.YtfdlcphiidfkcaaDoorFd1
import Derived.Test.YtfdlcphiidfkcaaDoorFd2
import Derived.Test.YtfdlcphiidfkcaaDoorFc3
import Derived.Test.YtfdlcphiidfkcaaDoorPg
import Derived.Test.YtfdlcphiidfkcaaDoorBb
set_option linter.unusedVariables false
set_option linter.unusedSimpArgs false
namespace Go.Proofs.YtfdlcphiidfkcaaDoor
open Go.RowKit

set_option maxRecDepth 4000 in
set_option maxHeartbeats 8000000 in
theorem fullPhasesLaw_walk (A : Option Addr) (n c : Nat) (bs : List Int) (w : World) (hS : Sl w w.heap.size BLit A n c bs) (hbs : ∀ x ∈ bs, 0 ≤ x ∧ x ≤ 255) (hTab : TabB w) :
    Calls Tryd.prog 10 #[.slice A n c] w fun e w' => e = .returned (.bool true) ∧ Below w.heap.size w w' := by
  obtain ⟨hc0, hc1⟩ := hS.cap
  by_cases hn : 1048576 < n
  · go_enter Tryd.func10, Tryd.ntmps10
    go_wp2
    go_ret
    exact ⟨rfl, by (repeat' (first | (with_reducible exact Below.refl _ _) | (with_reducible assumption) | (with_reducible refine Below.alloc ?_ ?_ _) | (with_reducible refine below_plus ?_ ?_ _ _) | (with_reducible refine Below.drew ?_) | (with_reducible refine Below.setCell ?_ ?_ _) | (with_reducible refine below_adv ?_ ?_ _) | go_size | (simp; done) | (simp; omega)))⟩
  · go_enter Tryd.func10, Tryd.ntmps10
    go_wp2_with fail
    refine (drawFullPhases_c A n c bs w _ hS (Nat.le_refl _) hbs).mono ?_
    rintro e w1 ⟨At, m, ct, t, rfl, hT1, hm8, hb1⟩
    have hz1 := hb1.size
    have htl := hT1.len
    obtain ⟨hct0, hct1⟩ := hT1.cap
    have HT := Lib.hid hT1
    have HTB := Lib.hid (hTab.below hb1)
    have CI := Lib.hid (fun w' (hw : Below w1.heap.size w1 w') => fullPhases_c At m ct t w' _ (HT.out.below hw) hw.size (HTB.out.below hw))
    have CS := Lib.hid (fun w' (hw : Below w1.heap.size w1 w') => sFullPhases_c At m ct t w' _ (HT.out.below hw) hw.size)
    have HB1 := Lib.hid hb1
    obtain ⟨L, hL⟩ : ∃ L, fullL t = L := ⟨_, rfl⟩
    rw [hL] at CI CS
    clear hS hbs hT1 hb1 hTab
    go_wp2_with fail
    refine (CI.out w1 (Below.refl _ _)).mono ?_
    rintro e w2 ⟨A4, n4, c4, rfl, hO4, hb2⟩
    have hz2 := hb2.size
    have hl4 := hO4.len
    obtain ⟨hk0, hk1⟩ := hO4.cap
    have HL := Lib.hid hO4.sl2
    have HB2 := Lib.hid hb2
    have EQ := Lib.hid (fun w' (hb : Below w2.heap.size w2 w') A3 n3 c3 (h3 : Sl2 w' w'.heap.size ILit A3 n3 c3 L) => by
      have := equalLists_c A4 n4 c4 L A3 n3 c3 L w' _ _ (HL.out.below hb) hb.size h3 (Nat.le_refl _)
      rwa [eqL_true rfl] at this)
    have CS2 := Lib.hid (fun w' (hb : Below w2.heap.size w2 w') => CS.out w' (hb2.trans (hb.mono hz2)))
    clear hO4 hb2
    go_wp2_with fail
    refine (CS2.out w2 (Below.refl _ _)).mono ?_
    rintro e w3 ⟨A3, n3, c3, rfl, hO3, hb3⟩
    have hz3 := hb3.size
    have E3 := Lib.hid (EQ.out w3 hb3 A3 n3 c3 hO3.sl2)
    clear hO3
    go_wp2_with fail
    refine E3.out.mono ?_
    rintro e w4 ⟨rfl, hb4⟩
    have hb24 := hb3.trans (hb4.mono hz3)
    have hz24 := hb24.size
    clear hb3 hb4 E3
    by_cases h0 : n4 = 0
    · subst h0
      go_wp2_with fail
      refine (CS2.out w4 hb24).mono ?_
      rintro e w5 ⟨A5, n5, c5, rfl, hO5, hb5⟩
      have hb25 := hb24.trans (hb5.mono hz24)
      have E5 := Lib.hid (EQ.out w5 hb25 A5 n5 c5 hO5.sl2)
      clear hO5
      go_wp2_with fail
      refine E5.out.mono ?_
      rintro e w6 ⟨rfl, hb6⟩
      go_wp2_with fail
      go_ret
      exact ⟨rfl, HB1.out.trans ((HB2.out.trans ((hb25.trans (hb6.mono hb25.size)).mono hz2)).mono HB1.out.size)⟩
    have ht : tOk t = true := fullL_ok (by rw [hL, hl4]; omega)
    have hn0 : ((n4 : Int) == 0) = false := by simp; omega
    have hn00 : ¬ n4 = 0 := h0
    have HVP := Lib.hid (fun ph (h : ph ∈ L) => full_valid ht (ph := ph) (by rw [hL]; exact h))
    have HIN := Lib.hid (fun ph (h : ph ∈ L) => full_in ht (ph := ph) (by rw [hL]; exact h))
    have HLN := Lib.hid (fun ph (h : ph ∈ L) => full_len ht (ph := ph) (by rw [hL]; exact h))
    have HST := Lib.hid (fun ph (h : ph ∈ L) (a : Nat) (ha : a < t.length) => full_stuck ht (ph := ph) (by rw [hL]; exact h) ha)
    have HCO := Lib.hid (fun (a : Nat) (ha : a < t.length) => full_cover ht ha)
    rw [hL] at HCO
    have HSQ := Lib.hid (tOk_iff.1 ht).2.2.1
    have HTL := Lib.hid htl
    have HL4 := Lib.hid hl4
    clear hL ht htl hl4 CI CS CS2 EQ
    go_wp2_with fail
    go_loopw [5] (fun i wr => ∃ (k : Nat), k ≤ n4 ∧ i = .int .i64 k ∧ Below w2.heap.size w2 wr) (fun i _ => n4 - (intOf i).toNat)
    case atStart => exact ⟨0, by omega, rfl, hb24⟩
    case round =>
      clear hb24 hz24
      obtain ⟨k, hk, rfl, hb⟩ := hrel
      have hzr := hb.size
      by_cases hlt : k < n4
      · obtain ⟨b, o, ph, A5, n5, c5, rfl, hbl, hp, hcp, hrp⟩ := HL.out.at_ hlt
        have hmem := List.mem_of_getElem? hp
        have hvp := HVP.out ph hmem
        have hpl := HLN.out ph hmem
        rw [hrp.len, HTL.out] at hpl
        have r1 := (hb.cell (p := ⟨b, o + k, none⟩) hbl).trans hcp
        have cv := validPhase_c At m ct t A5 n5 c5 ph wr _ ((HT.out.below (HB2.out.trans (hb.mono hz2))).more (B' := wr.heap.size) (by omega)) ((hrp.below hb).more hzr) (Nat.le_refl _) (by omega)
        rw [hvp] at cv
        have CV := Lib.hid cv
        have HR := Lib.hid hrp
        have HC := Lib.hid hcp
        have HM := Lib.hid hmem
        have HB := Lib.hid hb
        have i0 : (0 : Int) ≤ (k : Int) := by omega
        have i1 : (k : Int) < (n4 : Int) := by omega
        clear cv hrp hcp hp hmem hvp hb
        go_wp2_with fail
        clear r1
        refine CV.out.mono ?_
        rintro e wa ⟨rfl, hba⟩
        have hbb := HB.out.trans (hba.mono hzr)
        clear hba CV
        go_wp2_with fail
        go_loopw [6] (fun i wr => ∃ (a : Nat), a ≤ m ∧ i = .int .i64 a ∧ Below w2.heap.size w2 wr) (fun i _ => m - (intOf i).toNat)
        case atStart => exact ⟨0, by omega, rfl, hbb⟩
        case round =>
          clear hbb
          obtain ⟨a, ha, rfl, hb⟩ := hrel
          have hzr2 := hb.size
          by_cases ham : a < m
          · go_wp2_with fail
            go_loopw [7, 8] (fun f i wr => ∃ (q : Nat), q ≤ n5 ∧ i = .int .i64 q ∧ f = .bool ((ph.take q).all fun x => !tAt t a x.toNat) ∧ Below w2.heap.size w2 wr) (fun _ i _ => n5 - (intOf i).toNat)
            case atStart => exact ⟨0, by omega, rfl, rfl, hb⟩
            case round =>
              clear hb hzr2
              obtain ⟨q, hq, rfl, rfl, hb⟩ := hrel
              have hzr3 := hb.size
              have r1 := (hb.cell (p := ⟨b, o + k, none⟩) hbl).trans HC.out
              by_cases hqn : q < n5
              · obtain ⟨b1, o1, x, rfl, hb1, hx, hcx⟩ := (HR.out.below hb).at_ hqn
                obtain ⟨hx0, hx1⟩ := HIN.out ph HM.out x (List.mem_of_getElem? hx)
                rw [HTL.out] at hx1
                obtain ⟨x, rfl⟩ := Int.eq_ofNat_of_zero_le hx0
                have hts : (ph.take (q + 1)).all (fun x => !tAt t a x.toNat) = ((ph.take q).all (fun x => !tAt t a x.toNat) && !tAt t a x) := by rw [take_snoc hx, List.all_append]; simp
                obtain ⟨f, hf⟩ : ∃ f, ((ph.take q).all fun x => !tAt t a x.toNat) = f := ⟨_, rfl⟩
                rw [hf] at hts ⊢
                obtain ⟨bt, ot, br, or', dr, rr, rfl, hbtl, hbrl, hrr, hrl, hrc, hcellr, hrowr⟩ := (HT.out.below (HB2.out.trans (hb.mono hz2))).entry HSQ.out ham
                obtain ⟨P, hP⟩ : ∃ P, rr[x]? = some P := ⟨_, List.getElem?_eq_getElem (by omega)⟩
                have hPc := tAt_of hrr hP
                rw [hPc] at hts
                have r2 : wr.cell? ⟨b1, o1 + q, none⟩ = some (.int .i64 x) := hcx
                have r3 : wr.cell? ⟨bt, ot + a, none⟩ = some (.slice (some ⟨br, or', none⟩) m dr) := hcellr
                have r4 : wr.cell? ⟨br, or' + x, none⟩ = some (.bool P) := hrowr x P hP
                have u1 : b < wr.heap.size := by omega
                have u2 : b1 < wr.heap.size := by omega
                have u3 : bt < wr.heap.size := by have := HB2.out.size; omega
                have u4 : br < wr.heap.size := by have := HB2.out.size; omega
                have j0 : (0 : Int) ≤ (a : Int) := by omega
                have j1 : (a : Int) < (m : Int) := by omega
                have j2 : (0 : Int) ≤ (q : Int) := by omega
                have j3 : (q : Int) < (n5 : Int) := by omega
                have j4 : (0 : Int) ≤ (x : Int) := by omega
                have j5 : (x : Int) < (m : Int) := by omega
                have HTS := Lib.hid hts
                have HBr := Lib.hid hb
                clear hcx hcellr hrowr hrr hrl hrc hP hPc hx hf hts hb hx0 hx1
                cases f
                · cases P <;>
                  · go_wp2_with fail
                    refine wp_region_plus (by kernel_rfl) (by kernel_rfl) ?_; (repeat (go_big_quiet_step (fail))); refine wpQuiet_nil ?_; intro _ hw'; obtain ⟨⟨osq, dq⟩, hw''⟩ := hw'; subst hw''
                    clear r1 r2 r3 r4
                    go_wp2_with fail
                    go_roundw
                    case rel => exact ⟨q + 1, by omega, by go_num, by rw [HTS.out]; rfl, by have hb := HBr.out; (repeat' (first | (with_reducible exact Below.refl _ _) | (with_reducible assumption) | (with_reducible refine Below.alloc ?_ ?_ _) | (with_reducible refine below_plus ?_ ?_ _ _) | (with_reducible refine Below.drew ?_) | (with_reducible refine Below.setCell ?_ ?_ _) | (with_reducible refine below_adv ?_ ?_ _) | go_size | (simp; done) | (simp; omega)))⟩
                    case measure => simp [intOf]; omega
                · cases P <;>
                  · go_wp2_with fail
                    refine wp_region_plus (by kernel_rfl) (by kernel_rfl) ?_; (repeat (go_big_quiet_step (fail))); refine wpQuiet_nil ?_; intro _ hw'; obtain ⟨⟨osq, dq⟩, hw''⟩ := hw'; subst hw''
                    clear r1 r2 r3 r4
                    go_wp2_with fail
                    go_roundw
                    case rel => exact ⟨q + 1, by omega, by go_num, by rw [HTS.out]; rfl, by have hb := HBr.out; (repeat' (first | (with_reducible exact Below.refl _ _) | (with_reducible assumption) | (with_reducible refine Below.alloc ?_ ?_ _) | (with_reducible refine below_plus ?_ ?_ _ _) | (with_reducible refine Below.drew ?_) | (with_reducible refine Below.setCell ?_ ?_ _) | (with_reducible refine below_adv ?_ ?_ _) | go_size | (simp; done) | (simp; omega)))⟩
                    case measure => simp [intOf]; omega
              · obtain rfl : q = n5 := by omega
                have htk : ph.take q = ph := List.take_of_length_le (by rw [HR.out.len]; exact Nat.le_refl _)
                rw [htk]
                have hst := HST.out ph HM.out a (by rw [HTL.out]; exact ham)
                have ci := lIsIn_c A5 q c5 ph a wr _ (HR.out.below hb) hzr3 (by omega)
                obtain ⟨f, hf⟩ : ∃ f, (ph.all fun x => !tAt t a x.toNat) = f := ⟨_, rfl⟩
                have HBr := Lib.hid hb
                cases f
                · rw [hf]
                  clear hf htk hst ci hb
                  go_wp2_with fail
                  go_roundw
                  case rel => exact ⟨a + 1, by omega, by go_num, HBr.out⟩
                  case measure => simp [intOf]; omega
                · have hin : (a : Int) ∈ ph := by
                    rcases hst with h | ⟨y, hy, hc⟩
                    · exact h
                    · have := List.all_eq_true.1 hf y hy
                      rw [hc] at this; cases this
                  rw [decide_eq_true hin] at ci
                  have CII := Lib.hid ci
                  rw [hf]
                  clear hf htk hst ci hb hin
                  go_wp2_with fail
                  clear r1
                  refine CII.out.mono ?_
                  rintro e wc ⟨rfl, hbc⟩
                  have hbn := HBr.out.trans (hbc.mono hzr3)
                  go_wp2_with fail
                  go_roundw
                  case rel => exact ⟨a + 1, by omega, by go_num, hbn⟩
                  case measure => simp [intOf]; omega
          · obtain rfl : a = m := by omega
            go_wp2_with fail
            go_roundw
            case rel => exact ⟨k + 1, by omega, by go_num, hb⟩
            case measure => simp [intOf]; omega
      · obtain rfl : k = n4 := by omega
        go_wp2_with fail
        go_loopw [9] (fun i wr => ∃ (a : Nat), a ≤ m ∧ i = .int .i64 a ∧ Below w2.heap.size w2 wr) (fun i _ => m - (intOf i).toNat)
        case atStart => exact ⟨0, by omega, rfl, hb⟩
        case round =>
          clear hb hzr
          obtain ⟨a, ha, rfl, hb⟩ := hrel
          by_cases ham : a < m
          · go_wp2_with fail
            go_loopw [10, 11] (fun f i wr => ∃ (q : Nat), q ≤ k ∧ i = .int .i64 q ∧ f = .bool ((L.take q).any fun ph => decide ((a : Int) ∈ ph)) ∧ Below w2.heap.size w2 wr) (fun _ i _ => k - (intOf i).toNat)
            case atStart => exact ⟨0, by omega, rfl, rfl, hb⟩
            case round =>
              clear hb
              obtain ⟨q, hq, rfl, rfl, hb⟩ := hrel
              have hzr3 := hb.size
              by_cases hqn : q < k
              · obtain ⟨b, o, ph, A5, n5, c5, rfl, hbl, hp, hcp, hrp⟩ := HL.out.at_ hqn
                have r1 := (hb.cell (p := ⟨b, o + q, none⟩) hbl).trans hcp
                have hpl := HLN.out ph (List.mem_of_getElem? hp)
                rw [hrp.len, HTL.out] at hpl
                have hts : (L.take (q + 1)).any (fun ph => decide ((a : Int) ∈ ph)) = ((L.take q).any (fun ph => decide ((a : Int) ∈ ph)) || decide ((a : Int) ∈ ph)) := by rw [take_snoc hp, List.any_append]; simp
                obtain ⟨f, hf⟩ : ∃ f, ((L.take q).any fun ph => decide ((a : Int) ∈ ph)) = f := ⟨_, rfl⟩
                rw [hf] at hts ⊢
                have ci := lIsIn_c A5 n5 c5 ph a wr _ (hrp.below hb) hzr3 (by omega)
                obtain ⟨u, hu⟩ : ∃ u, decide ((a : Int) ∈ ph) = u := ⟨_, rfl⟩
                rw [hu] at hts ci
                have CII := Lib.hid ci
                have HTS := Lib.hid hts
                have HBr := Lib.hid hb
                clear hcp hrp hp hf hu hts ci hb
                cases f
                · go_wp2_with fail
                  clear r1
                  refine CII.out.mono ?_
                  rintro e wc ⟨rfl, hbc⟩
                  have hbn := HBr.out.trans (hbc.mono hzr3)
                  go_wp2_with fail
                  go_roundw
                  case rel => exact ⟨q + 1, by omega, by go_num, by rw [HTS.out]; rfl, hbn⟩
                  case measure => simp [intOf]; omega
                · go_wp2_with fail
                  go_roundw
                  case rel => exact ⟨q + 1, by omega, by go_num, by rw [HTS.out]; rfl, HBr.out⟩
                  case measure => simp [intOf]; omega
              · obtain rfl : q = k := by omega
                have htk : L.take q = L := List.take_of_length_le (by rw [HL4.out]; exact Nat.le_refl _)
                have hc : (L.any fun ph => decide ((a : Int) ∈ ph)) = true := by
                  obtain ⟨p, hp, hin⟩ := HCO.out a (by rw [HTL.out]; exact ham)
                  exact List.any_eq_true.2 ⟨p, hp, by simpa using hin⟩
                rw [htk, hc]
                clear htk hc
                go_wp2_with fail
                go_roundw
                case rel => exact ⟨a + 1, by omega, by go_num, hb⟩
                case measure => simp [intOf]; omega
          · obtain rfl : a = m := by omega
            go_wp2_with fail
            go_ret
            exact ⟨rfl, HB1.out.trans ((HB2.out.trans (hb.mono hz2)).mono HB1.out.size)⟩
end Go.Proofs.YtfdlcphiidfkcaaDoor
