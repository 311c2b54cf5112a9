/- The law FewestPhasesLeast. -/
import Derived.Test.YtfdlcphiidfkcaaDoorFg4
import Derived.Test.YtfdlcphiidfkcaaDoorFg6
import Derived.Test.YtfdlcphiidfkcaaDoorFg7
import Derived.Test.YtfdlcphiidfkcaaDoorFd2
import Derived.Test.YtfdlcphiidfkcaaDoorPg
import Derived.Test.YtfdlcphiidfkcaaDoorBb
set_option linter.unusedVariables false
set_option linter.unusedSimpArgs false
namespace Go.Proofs.YtfdlcphiidfkcaaDoor
open Go.RowKit

def nn (t : List (List Bool)) (a : Nat) : Bool := (List.range a).all fun i => (List.range t.length).all fun k => !tAt t i k
theorem nn_succ (t : List (List Bool)) (a : Nat) : nn t (a + 1) = (nn t a && (List.range t.length).all fun k => !tAt t a k) := by
  rw [nn, nn, List.range_succ, List.all_append]; simp
theorem nn_one {t : List (List Bool)} (h : 0 < (fewL t).length) : nn t t.length = decide ((fewL t).length = 1) := by
  rw [Bool.eq_iff_iff, decide_eq_true_eq, few_one h]
  simp only [nn, List.all_eq_true, List.mem_range, Bool.not_eq_true']
  exact ⟨fun h a b ha hb => h a ha b hb, fun h a ha b hb => h a b ha hb⟩
theorem clq_len (t : List (List Bool)) : ∀ a, (clq t a).length ≤ a
  | 0 => Nat.le_refl _
  | a + 1 => by
    have := clq_len t a
    rw [clq]
    split
    · simp; omega
    · omega

set_option maxRecDepth 4000 in
set_option maxHeartbeats 8000000 in
theorem fewestPhasesLeastLaw_walk (A : Option Addr) (n c : Nat) (bs : List Int) (w : World) (hS : Sl w w.heap.size BLit A n c bs) (hbs : ∀ x ∈ bs, 0 ≤ x ∧ x ≤ 255) (hTab : TabB w) :
    Calls Tryd.prog 3 #[.slice A n c] w fun e w' => e = .returned (.bool true) ∧ Below w.heap.size w w' := by
  obtain ⟨hc0, hc1⟩ := hS.cap
  by_cases hn : 1048576 < n
  · go_enter Tryd.func3, Tryd.ntmps3
    go_wp2
    go_ret
    exact ⟨rfl, by (repeat' (first | (with_reducible exact Below.refl _ _) | (with_reducible assumption) | (with_reducible refine Below.alloc ?_ ?_ _) | (with_reducible refine below_plus ?_ ?_ _ _) | (with_reducible refine Below.drew ?_) | (with_reducible refine Below.setCell ?_ ?_ _) | (with_reducible refine below_adv ?_ ?_ _) | go_size | (simp; done) | (simp; omega)))⟩
  · go_enter Tryd.func3, Tryd.ntmps3
    go_wp2_with fail
    refine (drawFewestPhases_c A n c bs w _ hS (Nat.le_refl _) hbs).mono ?_
    rintro e w1 ⟨At, m, ct, t, rfl, hT1, hm8, hb1⟩
    have hz1 := hb1.size
    have htl := hT1.len
    obtain ⟨hct0, hct1⟩ := hT1.cap
    have HT := Lib.hid hT1
    have HTB := Lib.hid (hTab.below hb1)
    have CI := Lib.hid (fun w' (hw : Below w1.heap.size w1 w') => fewestPhases_c At m ct t w' _ (HT.out.below hw) hw.size (HTB.out.below hw))
    have CS := Lib.hid (fun w' (hw : Below w1.heap.size w1 w') => sFewestPhases_c At m ct t w' _ (HT.out.below hw) hw.size)
    have HB1 := Lib.hid hb1
    obtain ⟨L, hL⟩ : ∃ L, fewL t = L := ⟨_, rfl⟩
    rw [hL] at CI CS
    clear hS hbs hT1 hb1 hTab
    go_wp2_with fail
    refine (CI.out w1 (Below.refl _ _)).mono ?_
    rintro e w2 ⟨A4, n4, c4, rfl, hO4, hb2⟩
    have hz2 := hb2.size
    have hl4 := hO4.len
    obtain ⟨hk0, hk1⟩ := hO4.cap
    have HL := Lib.hid hO4.sl2
    have HB2 := Lib.hid hb2
    have EQ := Lib.hid (fun w' (hb : Below w2.heap.size w2 w') A3 n3 c3 (h3 : Sl2 w' w'.heap.size ILit A3 n3 c3 L) => by
      have := equalLists_c A4 n4 c4 L A3 n3 c3 L w' _ _ (HL.out.below hb) hb.size h3 (Nat.le_refl _)
      rwa [eqL_true rfl] at this)
    have CS2 := Lib.hid (fun w' (hb : Below w2.heap.size w2 w') => CS.out w' (hb2.trans (hb.mono hz2)))
    clear hO4 hb2
    go_wp2_with fail
    refine (CS2.out w2 (Below.refl _ _)).mono ?_
    rintro e w3 ⟨A3, n3, c3, rfl, hO3, hb3⟩
    have hz3 := hb3.size
    have E3 := Lib.hid (EQ.out w3 hb3 A3 n3 c3 hO3)
    clear hO3
    go_wp2_with fail
    refine E3.out.mono ?_
    rintro e w4 ⟨rfl, hb4⟩
    have hb24 := hb3.trans (hb4.mono hz3)
    have hz24 := hb24.size
    clear hb3 hb4 E3
    by_cases h0 : n4 = 0
    · subst h0
      go_wp2_with fail
      refine (CS2.out w4 hb24).mono ?_
      rintro e w5 ⟨A5, n5, c5, rfl, hO5, hb5⟩
      have hb25 := hb24.trans (hb5.mono hz24)
      have E5 := Lib.hid (EQ.out w5 hb25 A5 n5 c5 hO5)
      clear hO5
      go_wp2_with fail
      refine E5.out.mono ?_
      rintro e w6 ⟨rfl, hb6⟩
      go_wp2_with fail
      go_ret
      exact ⟨rfl, HB1.out.trans ((HB2.out.trans ((hb25.trans (hb6.mono hb25.size)).mono hz2)).mono HB1.out.size)⟩
    have ht : tOk t = true := (few_parts (by rw [hL, hl4]; omega)).1
    have hn0 : ((n4 : Int) == 0) = false := by simp; omega
    have hn00 : ¬ n4 = 0 := h0
    obtain ⟨i0, hi, hi0, hi1, hi2⟩ := info_parts info_int
    have hcl := clq_few (t := t) (by rw [hL, hl4]; omega)
    have hnn := nn_one (t := t) (by rw [hL, hl4]; omega)
    rw [hL, hl4, htl] at hcl hnn
    have hm8 := (tOk_iff.1 ht).2.1
    rw [htl] at hm8
    have HSQ := Lib.hid (tOk_iff.1 ht).2.2.1
    have HTL := Lib.hid htl
    have HCL := Lib.hid hcl
    have HNN := Lib.hid hnn
    have HB14 := Lib.hid (HB2.out.trans (hb24.mono hz2))
    clear hL ht htl hl4 CI CS CS2 EQ hcl hnn hb24
    go_wp2_with fail
    go_loopw [5, 6, 7] (fun cl no i wr => ∃ (a j : Nat), a ≤ m ∧ j ≤ a ∧ i = .int .i64 a ∧ no = .bool (nn t a) ∧ wr.ownsRow w4.heap.size 3 1 cl j ((clq t a).map ILit) ∧ Below w4.heap.size w4 wr) (fun _ _ i _ => m - (intOf i).toNat)
    case atStart => exact ⟨0, 0, by omega, by omega, rfl, rfl, World.ownsRow_made _ #[] 0 (Nat.le_refl _) (by decide) rfl, by (repeat' (first | (with_reducible exact Below.refl _ _) | (with_reducible assumption) | (with_reducible refine Below.alloc ?_ ?_ _) | (with_reducible refine below_plus ?_ ?_ _ _) | (with_reducible refine Below.drew ?_) | (with_reducible refine Below.setCell ?_ ?_ _) | (with_reducible refine below_adv ?_ ?_ _) | go_size | (simp; done) | (simp; omega)))⟩
    case round =>
      obtain ⟨a, j, ha, hja, rfl, rfl, hO, hb⟩ := hrel
      obtain ⟨wz, rfl⟩ : ∃ wz, wz = wr := ⟨_, rfl⟩
      have hzz := hb.size
      have hjl : (clq t a).length = j := by have := hO.1; simpa using this
      obtain ⟨Ac, cc, rfl, hOw⟩ := Ow.of_own hO
      have hcc0 := hOw.2.1
      have hcc1 := hOw.2.2.1
      have HOW := Lib.hid hOw.sl
      have HO := Lib.hid hO
      have HB4 := Lib.hid hb
      clear hO hOw hb
      by_cases ham : a < m
      · go_wp2_with fail
        go_loopw [8, 9] (fun f i wr => ∃ (q : Nat), q ≤ j ∧ i = .int .i64 q ∧ f = .bool (((clq t a).take q).all fun x => tAt t a x.toNat) ∧ Below wz.heap.size wz wr) (fun _ i _ => j - (intOf i).toNat)
        case atStart => exact ⟨0, by omega, rfl, rfl, Below.refl _ _⟩
        case round =>
          obtain ⟨q, hq, rfl, rfl, hb⟩ := hrel
          have hzr := hb.size
          by_cases hqj : q < j
          · obtain ⟨b1, o1, x, rfl, hb1, hx, hcx⟩ := (HOW.out.below hb).at_ hqj
            obtain ⟨hx0, hx1⟩ := clq_in t a x (List.mem_of_getElem? hx)
            obtain ⟨x, rfl⟩ := Int.eq_ofNat_of_zero_le hx0
            have hbw := HB14.out.trans ((HB4.out.trans (hb.mono hzz)).mono HB14.out.size)
            have hts : ((clq t a).take (q + 1)).all (fun x => tAt t a x.toNat) = (((clq t a).take q).all (fun x => tAt t a x.toNat) && tAt t a x) := by rw [take_snoc hx, List.all_append]; simp
            obtain ⟨f, hf⟩ : ∃ f, (((clq t a).take q).all fun x => tAt t a x.toNat) = f := ⟨_, rfl⟩
            rw [hf] at hts ⊢
            obtain ⟨bt, ot, br, or', dr, rr, rfl, hbtl, hbrl, hrr, hrl, hrc, hcellr, hrowr⟩ := (HT.out.below hbw).entry HSQ.out ham
            obtain ⟨P, hP⟩ : ∃ P, rr[x]? = some P := ⟨_, List.getElem?_eq_getElem (by omega)⟩
            have hPc := tAt_of hrr hP
            rw [hPc] at hts
            have r2 : wr.cell? ⟨b1, o1 + q, none⟩ = some (.int .i64 x) := hcx
            have r3 : wr.cell? ⟨bt, ot + a, none⟩ = some (.slice (some ⟨br, or', none⟩) m dr) := hcellr
            have r4 : wr.cell? ⟨br, or' + x, none⟩ = some (.bool P) := hrowr x P hP
            have u2 : b1 < wr.heap.size := by omega
            have u3 : bt < wr.heap.size := by have := hbw.size; omega
            have u4 : br < wr.heap.size := by have := hbw.size; omega
            have j0 : (0 : Int) ≤ (a : Int) := by omega
            have j1 : (a : Int) < (m : Int) := by omega
            have j2 : (0 : Int) ≤ (q : Int) := by omega
            have j3 : (q : Int) < (j : Int) := by omega
            have j4 : (0 : Int) ≤ (x : Int) := by omega
            have j5 : (x : Int) < (m : Int) := by omega
            have HTS := Lib.hid hts
            have HBr := Lib.hid hb
            clear hcx hcellr hrowr hrr hrl hrc hP hPc hx hf hts hb hx0 hx1 hbw
            cases f
            · cases P <;>
              · go_wp2_with fail
                refine wp_region_plus (by kernel_rfl) (by kernel_rfl) ?_; (repeat (go_big_quiet_step (fail))); refine wpQuiet_nil ?_; intro _ hw'; obtain ⟨⟨osq, dq⟩, hw''⟩ := hw'; subst hw''
                clear r2 r3 r4
                go_wp2_with fail
                go_roundw
                case rel => exact ⟨q + 1, by omega, by go_num, by rw [HTS.out]; rfl, by have hb := HBr.out; (repeat' (first | (with_reducible exact Below.refl _ _) | (with_reducible assumption) | (with_reducible refine Below.alloc ?_ ?_ _) | (with_reducible refine below_plus ?_ ?_ _ _) | (with_reducible refine Below.drew ?_) | (with_reducible refine Below.setCell ?_ ?_ _) | (with_reducible refine below_adv ?_ ?_ _) | go_size | (simp; done) | (simp; omega)))⟩
                case measure => simp [intOf]; omega
            · cases P <;>
              · go_wp2_with fail
                refine wp_region_plus (by kernel_rfl) (by kernel_rfl) ?_; (repeat (go_big_quiet_step (fail))); refine wpQuiet_nil ?_; intro _ hw'; obtain ⟨⟨osq, dq⟩, hw''⟩ := hw'; subst hw''
                clear r2 r3 r4
                go_wp2_with fail
                go_roundw
                case rel => exact ⟨q + 1, by omega, by go_num, by rw [HTS.out]; rfl, by have hb := HBr.out; (repeat' (first | (with_reducible exact Below.refl _ _) | (with_reducible assumption) | (with_reducible refine Below.alloc ?_ ?_ _) | (with_reducible refine below_plus ?_ ?_ _ _) | (with_reducible refine Below.drew ?_) | (with_reducible refine Below.setCell ?_ ?_ _) | (with_reducible refine below_adv ?_ ?_ _) | go_size | (simp; done) | (simp; omega)))⟩
                case measure => simp [intOf]; omega
          · obtain rfl : j = q := by omega
            have htk : (clq t a).take j = clq t a := List.take_of_length_le (by omega)
            rw [htk]
            have hOn := own_below HO.out hb
            have hbr := HB4.out.trans (hb.mono hzz)
            have hcs : clq t (a + 1) = if ((clq t a).all fun x => tAt t a x.toNat) = true then clq t a ++ [(a : Int)] else clq t a := rfl
            obtain ⟨u, hu⟩ : ∃ u, ((clq t a).all fun x => tAt t a x.toNat) = u := ⟨_, rfl⟩
            rw [hu] at hcs ⊢
            obtain ⟨wy, rfl⟩ : ∃ wy, wy = wr := ⟨_, rfl⟩
            have hzy := hbr.size
            clear htk hu hb
            cases u
            · rw [if_neg (by decide)] at hcs
              have HCS := Lib.hid hcs
              clear hcs
              go_wp2_with fail
              go_loopw [6, 10] (fun f i wr => ∃ (q : Nat), q ≤ m ∧ i = .int .i64 q ∧ f = .bool (nn t a && (List.range q).all fun k => !tAt t a k) ∧ Below wy.heap.size wy wr) (fun _ i _ => m - (intOf i).toNat)
              case atStart => exact ⟨0, by omega, rfl, by simp, Below.refl _ _⟩
              case round =>
                obtain ⟨q, hq, rfl, rfl, hb⟩ := hrel
                by_cases hqm : q < m
                · have hbw := HB14.out.trans ((hbr.trans (hb.mono hbr.size)).mono HB14.out.size)
                  obtain ⟨f, hf⟩ : ∃ f, (nn t a && (List.range q).all fun k => !tAt t a k) = f := ⟨_, rfl⟩
                  have hts : (nn t a && (List.range (q + 1)).all fun k => !tAt t a k) = (f && !tAt t a q) := by
                    rw [← hf, List.range_succ, List.all_append, Bool.and_assoc]; simp
                  rw [hf]
                  obtain ⟨bt, ot, br, or', dr, rr, rfl, hbtl, hbrl, hrr, hrl, hrc, hcellr, hrowr⟩ := (HT.out.below hbw).entry HSQ.out ham
                  obtain ⟨P, hP⟩ : ∃ P, rr[q]? = some P := ⟨_, List.getElem?_eq_getElem (by omega)⟩
                  have hPc := tAt_of hrr hP
                  rw [hPc] at hts
                  have r3 : wr.cell? ⟨bt, ot + a, none⟩ = some (.slice (some ⟨br, or', none⟩) m dr) := hcellr
                  have r4 : wr.cell? ⟨br, or' + q, none⟩ = some (.bool P) := hrowr q P hP
                  have u3 : bt < wr.heap.size := by have := hbw.size; omega
                  have u4 : br < wr.heap.size := by have := hbw.size; omega
                  have j0 : (0 : Int) ≤ (a : Int) := by omega
                  have j1 : (a : Int) < (m : Int) := by omega
                  have j4 : (0 : Int) ≤ (q : Int) := by omega
                  have j5 : (q : Int) < (m : Int) := by omega
                  have HTS := Lib.hid hts
                  have HBr := Lib.hid hb
                  clear hcellr hrowr hrr hrl hrc hP hPc hf hts hb hbw
                  cases f
                  · cases P <;>
                    · go_wp2_with fail
                      clear r3 r4
                      go_roundw
                      case rel => exact ⟨q + 1, by omega, by go_num, by rw [HTS.out]; rfl, HBr.out⟩
                      case measure => simp [intOf]; omega
                  · cases P <;>
                    · go_wp2_with fail
                      clear r3 r4
                      go_roundw
                      case rel => exact ⟨q + 1, by omega, by go_num, by rw [HTS.out]; rfl, HBr.out⟩
                      case measure => simp [intOf]; omega
                · obtain rfl : q = m := by omega
                  have hn := nn_succ t a
                  rw [HTL.out] at hn
                  rw [← hn]
                  have hO9 := own_below hOn hb
                  have hbn := hbr.trans (hb.mono hbr.size)
                  rw [← HCS.out] at hO9
                  clear hb hn
                  go_wp2_with fail
                  go_roundw
                  case rel => exact ⟨a + 1, j, by omega, by omega, by go_num, rfl, hO9, hbn⟩
                  case measure => simp [intOf]; omega
            · rw [if_pos rfl] at hcs
              have HCS : Hid ((clq t a).map ILit ++ [.int .i64 (a : Int)] = (clq t (a + 1)).map ILit) := Lib.hid (by rw [hcs, List.map_append]; rfl)
              clear hcs
              go_wp2_with (at_builtin; refine wpList_app1 w4 wy rfl _ _ 28 rfl 3 i0 (.int .i64 0) 8 Tryd.underlying28 hi hi0 hi1 hi2 rfl (by decide) w4.heap.size _ j _ (by rfl) hOn _ rfl _ (by rfl) rfl (by omega) hbr hzy ?_; intro v8 w8 hO8 hb8 hg8)
              clear hOn hbr hg8
              go_wp2_with fail
              go_loopw [6, 10] (fun f i wr => ∃ (q : Nat), q ≤ m ∧ i = .int .i64 q ∧ f = .bool (nn t a && (List.range q).all fun k => !tAt t a k) ∧ Below w8.heap.size w8 wr) (fun _ i _ => m - (intOf i).toNat)
              case atStart => exact ⟨0, by omega, rfl, by simp, Below.refl _ _⟩
              case round =>
                obtain ⟨q, hq, rfl, rfl, hb⟩ := hrel
                by_cases hqm : q < m
                · have hbw := HB14.out.trans ((hb8.trans (hb.mono hb8.size)).mono HB14.out.size)
                  obtain ⟨f, hf⟩ : ∃ f, (nn t a && (List.range q).all fun k => !tAt t a k) = f := ⟨_, rfl⟩
                  have hts : (nn t a && (List.range (q + 1)).all fun k => !tAt t a k) = (f && !tAt t a q) := by
                    rw [← hf, List.range_succ, List.all_append, Bool.and_assoc]; simp
                  rw [hf]
                  obtain ⟨bt, ot, br, or', dr, rr, rfl, hbtl, hbrl, hrr, hrl, hrc, hcellr, hrowr⟩ := (HT.out.below hbw).entry HSQ.out ham
                  obtain ⟨P, hP⟩ : ∃ P, rr[q]? = some P := ⟨_, List.getElem?_eq_getElem (by omega)⟩
                  have hPc := tAt_of hrr hP
                  rw [hPc] at hts
                  have r3 : wr.cell? ⟨bt, ot + a, none⟩ = some (.slice (some ⟨br, or', none⟩) m dr) := hcellr
                  have r4 : wr.cell? ⟨br, or' + q, none⟩ = some (.bool P) := hrowr q P hP
                  have u3 : bt < wr.heap.size := by have := hbw.size; omega
                  have u4 : br < wr.heap.size := by have := hbw.size; omega
                  have j0 : (0 : Int) ≤ (a : Int) := by omega
                  have j1 : (a : Int) < (m : Int) := by omega
                  have j4 : (0 : Int) ≤ (q : Int) := by omega
                  have j5 : (q : Int) < (m : Int) := by omega
                  have HTS := Lib.hid hts
                  have HBr := Lib.hid hb
                  clear hcellr hrowr hrr hrl hrc hP hPc hf hts hb hbw
                  cases f
                  · cases P <;>
                    · go_wp2_with fail
                      clear r3 r4
                      go_roundw
                      case rel => exact ⟨q + 1, by omega, by go_num, by rw [HTS.out]; rfl, HBr.out⟩
                      case measure => simp [intOf]; omega
                  · cases P <;>
                    · go_wp2_with fail
                      clear r3 r4
                      go_roundw
                      case rel => exact ⟨q + 1, by omega, by go_num, by rw [HTS.out]; rfl, HBr.out⟩
                      case measure => simp [intOf]; omega
                · obtain rfl : q = m := by omega
                  have hn := nn_succ t a
                  rw [HTL.out] at hn
                  rw [← hn]
                  have hO9 := own_below hO8 hb
                  have hbn := hb8.trans (hb.mono hb8.size)
                  rw [HCS.out] at hO9
                  clear hb hn
                  go_wp2_with fail
                  go_roundw
                  case rel => exact ⟨a + 1, j + 1, by omega, by omega, by go_num, rfl, hO9, hbn⟩
                  case measure => simp [intOf]; omega
      · obtain rfl : a = m := by omega
        have hle : j ≤ n4 := by have := HCL.out; omega
        have hle2 : (j : Int) ≤ (n4 : Int) := by omega
        rw [HNN.out]
        have hbf := HB1.out.trans ((HB14.out.trans (HB4.out.mono HB14.out.size)).mono HB1.out.size)
        by_cases h1 : n4 = 1
        · have e1 : ((n4 : Int) == 1) = true := by simp; omega
          rw [decide_eq_true h1]
          clear h1
          go_wp2_with fail
          go_ret
          exact ⟨by first | rfl | simp, hbf⟩
        · have e1 : ((n4 : Int) == 1) = false := by simp; omega
          have e2 : ¬ (n4 : Int) = 1 := by omega
          rw [decide_eq_false h1]
          go_wp2_with fail
          go_ret
          exact ⟨by first | rfl | simp, hbf⟩
end Go.Proofs.YtfdlcphiidfkcaaDoor
