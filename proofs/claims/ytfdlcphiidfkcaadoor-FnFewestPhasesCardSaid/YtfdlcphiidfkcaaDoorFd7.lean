/- The law FewestPhases. -/
import Derived.Test.YtfdlcphiidfkcaaDoorFg4
import Derived.Test.YtfdlcphiidfkcaaDoorFg6
import Derived.Test.YtfdlcphiidfkcaaDoorFg7
import Derived.Test.YtfdlcphiidfkcaaDoorFd2
import Derived.Test.YtfdlcphiidfkcaaDoorPg
import Derived.Test.YtfdlcphiidfkcaaDoorBb
set_option linter.unusedVariables false
set_option linter.unusedSimpArgs false
namespace Go.Proofs.YtfdlcphiidfkcaaDoor
open Go.RowKit

set_option maxRecDepth 4000 in
set_option maxHeartbeats 8000000 in
theorem fewestPhasesLaw_walk (A : Option Addr) (n c : Nat) (bs : List Int) (w : World) (hS : Sl w w.heap.size BLit A n c bs) (hbs : ∀ x ∈ bs, 0 ≤ x ∧ x ≤ 255) (hTab : TabB w) :
    Calls Tryd.prog 4 #[.slice A n c] w fun e w' => e = .returned (.bool true) ∧ Below w.heap.size w w' := by
  obtain ⟨hc0, hc1⟩ := hS.cap
  by_cases hn : 1048576 < n
  · go_enter Tryd.func4, Tryd.ntmps4
    go_wp2
    go_ret
    exact ⟨rfl, by (repeat' (first | (with_reducible exact Below.refl _ _) | (with_reducible assumption) | (with_reducible refine Below.alloc ?_ ?_ _) | (with_reducible refine below_plus ?_ ?_ _ _) | (with_reducible refine Below.drew ?_) | (with_reducible refine Below.setCell ?_ ?_ _) | (with_reducible refine below_adv ?_ ?_ _) | go_size | (simp; done) | (simp; omega)))⟩
  · go_enter Tryd.func4, Tryd.ntmps4
    go_wp2_with fail
    refine (drawFewestPhases_c A n c bs w _ hS (Nat.le_refl _) hbs).mono ?_
    rintro e w1 ⟨At, m, ct, t, rfl, hT1, hm8, hb1⟩
    have hz1 := hb1.size
    have htl := hT1.len
    obtain ⟨hct0, hct1⟩ := hT1.cap
    have HT := Lib.hid hT1
    have HTB := Lib.hid (hTab.below hb1)
    have CI := Lib.hid (fun w' (hw : Below w1.heap.size w1 w') => fewestPhases_c At m ct t w' _ (HT.out.below hw) hw.size (HTB.out.below hw))
    have CS := Lib.hid (fun w' (hw : Below w1.heap.size w1 w') => sFewestPhases_c At m ct t w' _ (HT.out.below hw) hw.size)
    have HB1 := Lib.hid hb1
    obtain ⟨L, hL⟩ : ∃ L, fewL t = L := ⟨_, rfl⟩
    rw [hL] at CI CS
    clear hS hbs hT1 hb1 hTab
    go_wp2_with fail
    refine (CI.out w1 (Below.refl _ _)).mono ?_
    rintro e w2 ⟨A4, n4, c4, rfl, hO4, hb2⟩
    have hz2 := hb2.size
    have hl4 := hO4.len
    obtain ⟨hk0, hk1⟩ := hO4.cap
    have HL := Lib.hid hO4.sl2
    have HB2 := Lib.hid hb2
    have EQ := Lib.hid (fun w' (hb : Below w2.heap.size w2 w') A3 n3 c3 (h3 : Sl2 w' w'.heap.size ILit A3 n3 c3 L) => by
      have := equalLists_c A4 n4 c4 L A3 n3 c3 L w' _ _ (HL.out.below hb) hb.size h3 (Nat.le_refl _)
      rwa [eqL_true rfl] at this)
    have CS2 := Lib.hid (fun w' (hb : Below w2.heap.size w2 w') => CS.out w' (hb2.trans (hb.mono hz2)))
    clear hO4 hb2
    go_wp2_with fail
    refine (CS2.out w2 (Below.refl _ _)).mono ?_
    rintro e w3 ⟨A3, n3, c3, rfl, hO3, hb3⟩
    have hz3 := hb3.size
    have E3 := Lib.hid (EQ.out w3 hb3 A3 n3 c3 hO3)
    clear hO3
    go_wp2_with fail
    refine E3.out.mono ?_
    rintro e w4 ⟨rfl, hb4⟩
    have hb24 := hb3.trans (hb4.mono hz3)
    have hz24 := hb24.size
    clear hb3 hb4 E3
    by_cases h0 : n4 = 0
    · subst h0
      go_wp2_with fail
      refine (CS2.out w4 hb24).mono ?_
      rintro e w5 ⟨A5, n5, c5, rfl, hO5, hb5⟩
      have hb25 := hb24.trans (hb5.mono hz24)
      have E5 := Lib.hid (EQ.out w5 hb25 A5 n5 c5 hO5)
      clear hO5
      go_wp2_with fail
      refine E5.out.mono ?_
      rintro e w6 ⟨rfl, hb6⟩
      go_wp2_with fail
      go_ret
      exact ⟨rfl, HB1.out.trans ((HB2.out.trans ((hb25.trans (hb6.mono hb25.size)).mono hz2)).mono HB1.out.size)⟩
    have ht : tOk t = true := (few_parts (by rw [hL, hl4]; omega)).1
    have hn0 : ((n4 : Int) == 0) = false := by simp; omega
    have hn00 : ¬ n4 = 0 := h0
    have HCO := Lib.hid (fun (a : Nat) (ha : a < t.length) => few_cover (t := t) (by rw [hL, hl4]; omega) ha)
    have hsb := few_sub t
    have HLN := Lib.hid (fun ph (h : ph ∈ L) => full_len ht (ph := ph) (hsb.subset (by rw [hL]; exact h)))
    rw [hL] at HCO hsb
    have CG := Lib.hid (fun w' (hw : Below w1.heap.size w1 w') => fullPhases_c At m ct t w' _ (HT.out.below hw) hw.size (HTB.out.below hw))
    obtain ⟨F, hF⟩ : ∃ F, fullL t = F := ⟨_, rfl⟩
    rw [hF] at hsb CG
    have HSB := Lib.hid hsb
    have HTL := Lib.hid htl
    have HL4 := Lib.hid hl4
    clear hL hF hsb ht htl hl4 CI CS CS2 EQ
    go_wp2_with fail
    refine (CG.out w4 (HB2.out.trans (hb24.mono hz2))).mono ?_
    rintro e w5 ⟨A6, n6, c6, rfl, hO6, hb45⟩
    have hb25 := hb24.trans (hb45.mono hz24)
    have hz25 := hb25.size
    have HF := Lib.hid hO6.sl2
    have hl6 := hO6.len
    obtain ⟨hd0, hd1⟩ := hO6.cap
    have hle : n4 ≤ n6 := by have h1 := HSB.out.length_le; have h2 := HL4.out; omega
    have HF6 := Lib.hid hl6
    have HB25 := Lib.hid hb25
    clear hO6 hb45 hb24 CG hl6 hz24
    go_wp2_with fail
    go_loopw [6] (fun i wr => ∃ (k : Nat), k ≤ n4 ∧ i = .int .i64 k ∧ Below w5.heap.size w5 wr) (fun i _ => n4 - (intOf i).toNat)
    case atStart => exact ⟨0, by omega, rfl, Below.refl _ _⟩
    case round =>
      obtain ⟨k, hk, rfl, hb⟩ := hrel
      by_cases hlt : k < n4
      · obtain ⟨b, o, ph, A5, n5, c5, rfl, hbl, hp, hcp, hrp⟩ := (HL.out.below HB25.out).at_ hlt
        have hbl5 : b < w5.heap.size := by omega
        have HC := Lib.hid hcp
        have HR := Lib.hid (hrp.more (B' := w5.heap.size) hz25)
        have HM : Hid (ph ∈ F) := Lib.hid (HSB.out.subset (List.mem_of_getElem? hp))
        clear hcp hrp hp
        go_wp2_with fail
        go_loopw [7, 8] (fun f i wr => ∃ (q : Nat), q ≤ n6 ∧ i = .int .i64 q ∧ f = .bool (decide (ph ∈ F.take q)) ∧ Below w5.heap.size w5 wr) (fun _ i _ => n6 - (intOf i).toNat)
        case atStart => exact ⟨0, by omega, rfl, by simp, hb⟩
        case round =>
          clear hb
          obtain ⟨q, hq, rfl, rfl, hb⟩ := hrel
          have hzr := hb.size
          by_cases hqn : q < n6
          · obtain ⟨b2, o2, ph2, A7, n7, c7, rfl, hbl2, hp2, hcp2, hrp2⟩ := HF.out.at_ hqn
            have r1 := (hb.cell (p := ⟨b, o + k, none⟩) hbl5).trans HC.out
            have r2 := (hb.cell (p := ⟨b2, o2 + q, none⟩) hbl2).trans hcp2
            have hts : decide (ph ∈ F.take (q + 1)) = (decide (ph ∈ F.take q) || decide (ph2 = ph)) := by
              rw [take_snoc hp2, Bool.eq_iff_iff]
              simp only [List.mem_append, List.mem_singleton, decide_eq_true_eq, Bool.or_eq_true]
              exact ⟨fun h => h.imp_right Eq.symm, fun h => h.imp_right Eq.symm⟩
            have ce := fun (os : Array Obj) (d : Nat) => equalInts_c A7 n7 c7 ph2 A5 n5 c5 ph (plus wr os d) _ _ (((hrp2.below hb).more (B' := wr.heap.size) hzr).plus (Nat.le_refl _) os d) (by simp) (((HR.out.below hb).more (B' := wr.heap.size) hzr).plus (Nat.le_refl _) os d) (by simp)
            rw [show eqL ph2 ph = decide (ph2 = ph) from rfl] at ce
            obtain ⟨f, hf⟩ : ∃ f, decide (ph ∈ F.take q) = f := ⟨_, rfl⟩
            obtain ⟨u, hu⟩ : ∃ u, decide (ph2 = ph) = u := ⟨_, rfl⟩
            rw [hf, hu] at hts
            rw [hu] at ce
            rw [hf]
            have i0 : (0 : Int) ≤ (k : Int) := by omega
            have i1 : (k : Int) < (n4 : Int) := by omega
            have i2 : (0 : Int) ≤ (q : Int) := by omega
            have i3 : (q : Int) < (n6 : Int) := by omega
            have CE := Lib.hid ce
            have HTS := Lib.hid hts
            have HBr := Lib.hid hb
            clear hcp2 hrp2 hp2 hf hu hts ce hb
            have u1 : b < wr.heap.size := by omega
            have u2 : b2 < wr.heap.size := by omega
            cases f
            · go_wp2_with fail
              refine wp_region_plus (by kernel_rfl) (by kernel_rfl) ?_; (repeat (go_big_quiet_step ((go_at_call 16; exact quiet_plus (CE.out _ _))))); refine wpQuiet_nil ?_; intro _ hw'; obtain ⟨⟨osq, dq⟩, hw''⟩ := hw'; subst hw''
              clear r1 r2
              go_wp2_with fail
              go_roundw
              case rel => exact ⟨q + 1, by omega, by go_num, by rw [HTS.out]; first | rfl | simp, by have hb := HBr.out; (repeat' (first | (with_reducible exact Below.refl _ _) | (with_reducible assumption) | (with_reducible refine Below.alloc ?_ ?_ _) | (with_reducible refine below_plus ?_ ?_ _ _) | (with_reducible refine Below.drew ?_) | (with_reducible refine Below.setCell ?_ ?_ _) | (with_reducible refine below_adv ?_ ?_ _) | go_size | (simp; done) | (simp; omega)))⟩
              case measure => simp [intOf]; omega
            · go_wp2_with fail
              refine wp_region_plus (by kernel_rfl) (by kernel_rfl) ?_; (repeat (go_big_quiet_step (fail))); refine wpQuiet_nil ?_; intro _ hw'; obtain ⟨⟨osq, dq⟩, hw''⟩ := hw'; subst hw''
              clear r1 r2
              go_wp2_with fail
              go_roundw
              case rel => exact ⟨q + 1, by omega, by go_num, by rw [HTS.out]; rfl, by have hb := HBr.out; (repeat' (first | (with_reducible exact Below.refl _ _) | (with_reducible assumption) | (with_reducible refine Below.alloc ?_ ?_ _) | (with_reducible refine below_plus ?_ ?_ _ _) | (with_reducible refine Below.drew ?_) | (with_reducible refine Below.setCell ?_ ?_ _) | (with_reducible refine below_adv ?_ ?_ _) | go_size | (simp; done) | (simp; omega)))⟩
              case measure => simp [intOf]; omega
          · obtain rfl : q = n6 := by omega
            have htk : F.take q = F := List.take_of_length_le (by rw [HF6.out]; exact Nat.le_refl _)
            rw [htk, decide_eq_true HM.out]
            clear htk
            go_wp2_with fail
            go_roundw
            case rel => exact ⟨k + 1, by omega, by go_num, hb⟩
            case measure => simp [intOf]; omega
      · obtain rfl : k = n4 := by omega
        have hle2 : (k : Int) ≤ (n6 : Int) := by omega
        go_wp2_with fail
        go_loopw [9] (fun i wr => ∃ (a : Nat), a ≤ m ∧ i = .int .i64 a ∧ Below w5.heap.size w5 wr) (fun i _ => m - (intOf i).toNat)
        case atStart => exact ⟨0, by omega, rfl, hb⟩
        case round =>
          clear hb
          obtain ⟨a, ha, rfl, hb⟩ := hrel
          by_cases ham : a < m
          · go_wp2_with fail
            go_loopw [10, 11] (fun f i wr => ∃ (q : Nat), q ≤ k ∧ i = .int .i64 q ∧ f = .bool ((L.take q).any fun ph => decide ((a : Int) ∈ ph)) ∧ Below w5.heap.size w5 wr) (fun _ i _ => k - (intOf i).toNat)
            case atStart => exact ⟨0, by omega, rfl, rfl, hb⟩
            case round =>
              clear hb
              obtain ⟨q, hq, rfl, rfl, hb⟩ := hrel
              have hzr3 := hb.size
              by_cases hqn : q < k
              · obtain ⟨b, o, ph, A5, n5, c5, rfl, hbl, hp, hcp, hrp⟩ := (HL.out.below HB25.out).at_ hqn
                have hbl5 : b < w5.heap.size := by omega
                have r1 := (hb.cell (p := ⟨b, o + q, none⟩) hbl5).trans hcp
                have hpl := HLN.out ph (List.mem_of_getElem? hp)
                rw [hrp.len, HTL.out] at hpl
                have hts : (L.take (q + 1)).any (fun ph => decide ((a : Int) ∈ ph)) = ((L.take q).any (fun ph => decide ((a : Int) ∈ ph)) || decide ((a : Int) ∈ ph)) := by rw [take_snoc hp, List.any_append]; simp
                obtain ⟨f, hf⟩ : ∃ f, ((L.take q).any fun ph => decide ((a : Int) ∈ ph)) = f := ⟨_, rfl⟩
                rw [hf] at hts ⊢
                have ci := lIsIn_c A5 n5 c5 ph a wr _ ((hrp.more (B' := w5.heap.size) hz25).below hb) hzr3 (by omega)
                obtain ⟨u, hu⟩ : ∃ u, decide ((a : Int) ∈ ph) = u := ⟨_, rfl⟩
                rw [hu] at hts ci
                have CII := Lib.hid ci
                have HTS := Lib.hid hts
                have HBr := Lib.hid hb
                clear hcp hrp hp hf hu hts ci hb
                cases f
                · go_wp2_with fail
                  clear r1
                  refine CII.out.mono ?_
                  rintro e wc ⟨rfl, hbc⟩
                  have hbn := HBr.out.trans (hbc.mono hzr3)
                  go_wp2_with fail
                  go_roundw
                  case rel => exact ⟨q + 1, by omega, by go_num, by rw [HTS.out]; first | rfl | simp, hbn⟩
                  case measure => simp [intOf]; omega
                · go_wp2_with fail
                  go_roundw
                  case rel => exact ⟨q + 1, by omega, by go_num, by rw [HTS.out]; rfl, HBr.out⟩
                  case measure => simp [intOf]; omega
              · obtain rfl : q = k := by omega
                have htk : L.take q = L := List.take_of_length_le (by rw [HL4.out]; exact Nat.le_refl _)
                have hc := HCO.out a (by rw [HTL.out]; exact ham)
                rw [htk, hc]
                clear htk hc
                go_wp2_with fail
                go_roundw
                case rel => exact ⟨a + 1, by omega, by go_num, hb⟩
                case measure => simp [intOf]; omega
          · obtain rfl : a = m := by omega
            have hbf := HB1.out.trans ((HB2.out.trans ((HB25.out.trans (hb.mono hz25)).mono hz2)).mono HB1.out.size)
            clear hb
            go_wp2_with fail
            go_ret
            exact ⟨by first | rfl | simp, hbf⟩
end Go.Proofs.YtfdlcphiidfkcaaDoor
