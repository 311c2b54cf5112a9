/- The law GreenAtStages. -/
import Derived.Test.YtckohbjgogbfaaaQu2
set_option linter.unusedVariables false
set_option linter.unusedSimpArgs false
namespace Go.Proofs.Ytckohbjgogbfaaa
open Go.RowKit

set_option maxHeartbeats 8000000 in
theorem greenAtStagesLaw_walk (A : Option Addr) (n c : Nat) (bs : List Int) (w : World) (hS : Sl w w.heap.size BLit A n c bs) (hbs : ∀ x ∈ bs, 0 ≤ x ∧ x ≤ 255) :
    Calls Try.prog 4 #[.slice A n c] w fun e w' => e = .returned (.bool true) ∧ Below w.heap.size w w' := by
  obtain ⟨hc0, hc1⟩ := hS.cap
  by_cases hn : 1048576 < n
  · go_enter Try.func4, Try.ntmps4
    go_wp2
    go_ret
    exact ⟨rfl, by (repeat' (first | (with_reducible exact Below.refl _ _) | (with_reducible assumption) | (with_reducible refine Below.alloc ?_ ?_ _) | (with_reducible refine below_plus ?_ ?_ _ _) | (with_reducible refine Below.drew ?_) | (with_reducible refine Below.setCell ?_ ?_ _) | (with_reducible refine below_adv ?_ ?_ _) | go_size | (simp; done) | (simp; omega)))⟩
  · go_enter Try.func4, Try.ntmps4
    go_wp2_with fail
    refine (dDrawGreenAt_c A n c bs w _ hS (Nat.le_refl _) hbs).mono ?_
    rintro e w1 ⟨At, m, ct, t, A2, n2, c2, ss, x, rfl, hK, hKS, hm8, hn1, hn5, hpl, hx0, hx1, hb1⟩
    have hz1 := hb1.size
    obtain ⟨W2, hW2⟩ : ∃ W2, w1.alloc (.cells #[.slice At m ct, .slice A2 n2 c2] 26) = W2 := ⟨_, rfl⟩
    have hb12 : Below w1.heap.size w1 W2 := by rw [← hW2]; (repeat' (first | (with_reducible exact Below.refl _ _) | (with_reducible assumption) | (with_reducible refine Below.alloc ?_ ?_ _) | (with_reducible refine below_plus ?_ ?_ _ _) | (with_reducible refine Below.drew ?_) | (with_reducible refine Below.setCell ?_ ?_ _) | (with_reducible refine below_adv ?_ ?_ _) | go_size | (simp; done) | (simp; omega)))
    have hT1 := (hK.here.below hb12).more hb12.size
    have hS1 := ((hKS w1 fun _ _ _ => rfl).below hb12).more hb12.size
    obtain ⟨hk0, hk1⟩ := hS1.cap
    obtain ⟨hct0, hct1⟩ := hT1.cap
    have hP2 : W2.heap[w1.heap.size]? = some (.cells #[.slice At m ct, .slice A2 n2 c2] 26 (0, 0)) := by rw [← hW2]; exact heap_alloc_new w1 _
    have hgP := lt_of_heap hP2
    have p0 : W2.cell? ⟨w1.heap.size, 0, none⟩ = some (.slice At m ct) := by rw [cell_of_row _ _ _ _ _ _ hP2]; rfl
    have p1 : W2.cell? ⟨w1.heap.size, 1, none⟩ = some (.slice A2 n2 c2) := by rw [cell_of_row _ _ _ _ _ _ hP2]; rfl
    have P0 := Lib.hid (fun (w' : World) (hb : Below W2.heap.size W2 w') => And.intro ((hb.cell (p := ⟨w1.heap.size, 0, none⟩) hgP).trans p0) ((hb.cell (p := ⟨w1.heap.size, 1, none⟩) hgP).trans p1))
    have hpl6 : ∀ s ∈ ss, s.1.length ≤ 1048576 := fun s hs => by have := hpl s hs; omega
    have htl := hT1.len
    have hlen := hS1.len
    have HT := Lib.hid hT1
    have HS := Lib.hid hS1
    have CI := Lib.hid (fun (x : Int) w' (hw : Below W2.heap.size W2 w') => greenAt_c At m ct t A2 n2 c2 ss x w' _ (HT.out.below hw) (HS.out.below hw) hw.size hpl6 (by omega))
    have c2' := fun w' (hw : Below W2.heap.size W2 w') => sGreenAt1_c At m ct t A2 n2 c2 ss x w' _ (HT.out.below hw) (HS.out.below hw) hw.size hpl6 (by omega)
    have cv := fun w' (hw : Below W2.heap.size W2 w') => validPlan_c At m ct t A2 n2 c2 ss w' _ (HT.out.below hw) (HS.out.below hw) hw.size (fun s hs => Nat.le_trans (hpl6 s hs) (by omega))
    have hb02 := hb1.trans (hb12.mono hz1)
    obtain ⟨L, hL⟩ : ∃ L, gaF t ss x = L := ⟨_, rfl⟩
    have C1 := Lib.hid (CI.out x)
    have C2 := Lib.hid c2'
    rw [hL] at C1 C2
    have HB02 := Lib.hid hb02
    have HPL6 := Lib.hid hpl6
    clear hS hbs hP2 hK hKS hT1 hS1 c2' hb1 hb12 hb02
    cases hok : planB t ss
    · skip
      rw [hok] at cv
      have CV := Lib.hid cv
      clear cv hok hL hpl hpl6 htl hlen CI
      go_wp2_with fail
      clear hW2 p0 p1
      refine (C1.out W2 (Below.refl _ _)).mono ?_
      rintro e w2 ⟨v2, nl, rfl, hO2, hb2⟩
      obtain ⟨Al, cl, rfl, hWl⟩ := Ow.of_own hO2
      have hz2 := hb2.size
      have HSL := Lib.hid hWl.sl
      have HB2 := Lib.hid hb2
      have PP := Lib.hid (fun w' (hb : Below w2.heap.size w2 w') => P0.out w' (hb2.trans (hb.mono hz2)))
      have SG := Lib.hid (fun w' (hb : Below w2.heap.size w2 w') => C2.out w' (hb2.trans (hb.mono hz2)))
      have VP := Lib.hid (fun w' (hb : Below w2.heap.size w2 w') => CV.out w' (hb2.trans (hb.mono hz2)))
      have EQ := Lib.hid (fun w' (hb : Below w2.heap.size w2 w') A3 n3 c3 (h3 : Sl w' w'.heap.size ILit A3 n3 c3 L) => equalInts_t Al nl cl L A3 n3 c3 w' _ _ (HSL.out.below hb) hb.size h3 (Nat.le_refl _))
      clear hO2 hWl hb2 C1 C2 CV
      obtain ⟨q0, q1⟩ := PP.out w2 (Below.refl _ _)
      go_wp2_with fail
      refine (SG.out w2 (Below.refl _ _)).mono ?_
      rintro e w3 ⟨v3, n3, rfl, hO3, hb3⟩
      obtain ⟨A3, c3, rfl, hW3⟩ := Ow.of_own hO3
      have E3 := Lib.hid (EQ.out w3 hb3 A3 n3 c3 hW3.sl)
      have hz3 := hb3.size
      clear hO3 hW3 q0 q1
      go_wp2_with fail
      refine E3.out.mono ?_
      rintro e w4 ⟨rfl, hb4⟩
      have hb24 := hb3.trans (hb4.mono hz3)
      have hz4 := hb24.size
      clear hb3 hb4 E3
      obtain ⟨q0, q1⟩ := PP.out w4 hb24
      go_wp2_with fail
      refine (VP.out w4 hb24).mono ?_
      rintro e w5 ⟨rfl, hb5⟩
      have hb25 := hb24.trans (hb5.mono hz4)
      have hz5 := hb25.size
      clear q0 q1 hb24 hb5
      obtain ⟨q0, q1⟩ := PP.out w5 hb25
      go_wp2_with fail
      refine (SG.out w5 hb25).mono ?_
      rintro e w7 ⟨v7, n7, rfl, hO7, hb7⟩
      obtain ⟨A7, c7, rfl, hW7⟩ := Ow.of_own hO7
      have hb27 := Below.trans hb25 (hb7.mono (Below.size hb25))
      have E7 := Lib.hid (EQ.out w7 hb27 A7 n7 c7 hW7.sl)
      clear hO7 hW7 q0 q1
      go_wp2_with fail
      refine E7.out.mono ?_
      rintro e w8 ⟨rfl, hb8⟩
      go_wp2_with fail
      go_ret
      exact ⟨rfl, HB02.out.trans ((HB2.out.trans ((hb27.trans (hb8.mono hb27.size)).mono hz2)).mono HB02.out.size)⟩
    · obtain ⟨N, hN, hN5, hN225, -, -, hgr, -, -⟩ := plan_num' hok
      have HFS := Lib.hid (fun (s : Nat) (h : (s : Int) < grAt ss 0) => gaF_first hok h)
      have HGR := Lib.hid hgr
      have HOK := Lib.hid hok
      rw [hok] at cv
      have CV := Lib.hid cv
      clear cv hok hL hpl hpl6 htl hlen hN hgr
      go_wp2_with fail
      clear hW2 p0 p1
      refine (C1.out W2 (Below.refl _ _)).mono ?_
      rintro e w2 ⟨v2, nl, rfl, hO2, hb2⟩
      obtain ⟨Al, cl, rfl, hWl⟩ := Ow.of_own hO2
      have hz2 := hb2.size
      have HSL := Lib.hid hWl.sl
      have HB2 := Lib.hid hb2
      have PP := Lib.hid (fun w' (hb : Below w2.heap.size w2 w') => P0.out w' (hb2.trans (hb.mono hz2)))
      have SG := Lib.hid (fun w' (hb : Below w2.heap.size w2 w') => C2.out w' (hb2.trans (hb.mono hz2)))
      have VP := Lib.hid (fun w' (hb : Below w2.heap.size w2 w') => CV.out w' (hb2.trans (hb.mono hz2)))
      have EQ := Lib.hid (fun w' (hb : Below w2.heap.size w2 w') A3 n3 c3 (h3 : Sl w' w'.heap.size ILit A3 n3 c3 L) => equalInts_t Al nl cl L A3 n3 c3 w' _ _ (HSL.out.below hb) hb.size h3 (Nat.le_refl _))
      clear hO2 hWl hb2 C1 C2 CV
      obtain ⟨q0, q1⟩ := PP.out w2 (Below.refl _ _)
      go_wp2_with fail
      refine (SG.out w2 (Below.refl _ _)).mono ?_
      rintro e w3 ⟨v3, n3, rfl, hO3, hb3⟩
      obtain ⟨A3, c3, rfl, hW3⟩ := Ow.of_own hO3
      have E3 := Lib.hid (EQ.out w3 hb3 A3 n3 c3 hW3.sl)
      have hz3 := hb3.size
      clear hO3 hW3 q0 q1
      go_wp2_with fail
      refine E3.out.mono ?_
      rintro e w4 ⟨rfl, hb4⟩
      have hb24 := hb3.trans (hb4.mono hz3)
      have hz4 := hb24.size
      clear hb3 hb4 E3
      obtain ⟨q0, q1⟩ := PP.out w4 hb24
      go_wp2_with fail
      refine (VP.out w4 hb24).mono ?_
      rintro e w5 ⟨rfl, hb5⟩
      have hb25 := hb24.trans (hb5.mono hz4)
      have hz5 := hb25.size
      clear q0 q1 hb24 hb5
      obtain ⟨q0, q1⟩ := PP.out w5 hb25
      obtain ⟨b, o, ph, g, A1, n1, c1, rfl, hbl, hx, hcell', hcellg', hrow⟩ := HS.out.at_ (show 0 < n2 by omega)
      have hcell : W2.cell? ⟨b, o, none⟩ = some (.slice A1 n1 c1) := by simpa using hcell'
      have hcellg : W2.cell? ⟨b, o + 1, none⟩ = some (.int .i64 g) := by simpa using hcellg'
      obtain ⟨e1, e2⟩ := phAt_of hx
      obtain ⟨g5, g40⟩ := HGR.out _ (List.mem_of_getElem? hx)
      have hcx : ∀ (s : Nat), (s : Int) < g → ∀ w', Below w2.heap.size w2 w' → Calls Try.prog 8 #[.agg #[.slice At m ct, .slice (some ⟨b, o, none⟩) n2 c2], .int .i64 s] w' (OwnGreen w' ph) := fun s hs w' hb => by
        have h := CI.out (s : Int) w' (HB2.out.trans (hb.mono hz2))
        rw [HFS.out s (by rw [e2]; exact hs), e1] at h
        exact h
      have CX := Lib.hid hcx
      have EX := Lib.hid (fun w' (hb : Below w2.heap.size w2 w') A3 n3 c3 (h3 : Sl w' w'.heap.size ILit A3 n3 c3 ph) => equalInts_t A3 n3 c3 ph A1 n1 c1 w' _ _ h3 (Nat.le_refl _) (((hrow.below (HB2.out.trans (hb.mono hz2))))) (by have h1 := HB2.out.size; have h2 := hb.size; omega))
      have RR := Lib.hid (fun w' (hb : Below w2.heap.size w2 w') => And.intro (((HB2.out.trans (hb.mono hz2)).cell (p := ⟨b, o, none⟩) hbl).trans hcell) (((HB2.out.trans (hb.mono hz2)).cell (p := ⟨b, o + 1, none⟩) hbl).trans hcellg))
      have n20 : (0 : Int) < (n2 : Int) := by omega
      have n21 : 0 < n2 := by omega
      clear hcx CI hrow hx e1 e2 hcell' hcellg' hcell hcellg
      go_wp2_with fail
      clear q0 q1
      go_loopw [6] (fun i wr => ∃ (k : Nat), (k : Int) ≤ g ∧ i = .int .i64 k ∧ Below w2.heap.size w2 wr) (fun i _ => g.toNat - (intOf i).toNat)
      case atStart => exact ⟨0, by omega, rfl, hb25⟩
      case round =>
        clear hb25 hz5
        obtain ⟨k, hk, rfl, hb⟩ := hrel
        have hzr := hb.size
        obtain ⟨q0, q1⟩ := PP.out wr hb
        obtain ⟨r0, r1⟩ := RR.out wr hb
        by_cases hlt : (k : Int) < g
        · have hbd : Below w2.heap.size w2 wr.drew := ⟨hb.os, hb.tape, hb.output, hb.size, hb.block⟩
          have X5 := Lib.hid (CX.out k hlt wr.drew hbd)
          have HB := Lib.hid hb
          clear hb hbd
          go_wp2_with fail
          go_region_held3 (fun w' => w'.cell? ⟨w1.heap.size, 0, none⟩ = some (.slice At m ct) ∧ w'.cell? ⟨w1.heap.size, 1, none⟩ = some (.slice (some ⟨b, o, none⟩) n2 c2) ∧ w'.cell? ⟨b, o, none⟩ = some (.slice A1 n1 c1)) (first | go_keep | (exact ⟨u0, u1, u2⟩) | (exact ⟨t0, t1, t2⟩))
            (first | (go_at_call 8; refine X5.out.mono ?_; rintro e wd ⟨v9, n9, rfl, hO9, hbd'⟩; obtain ⟨A9, c9, rfl, hW9⟩ := Ow.of_own hO9; have hbd := HB.out.trans ((below_undrew hbd').mono hzr); have hzd := hbd.size; obtain ⟨u0, u1⟩ := PP.out wd hbd; have u2 := (RR.out wd hbd).1; have E9 := Lib.hid (EX.out wd hbd A9 n9 c9 hW9.sl); clear hO9 hW9) | (go_at_call 9; refine E9.out.mono ?_; rintro e we ⟨rfl, hbe'⟩; have hbe := hbd.trans (hbe'.mono hzd); obtain ⟨t0, t1⟩ := PP.out we hbe; have t2 := (RR.out we hbe).1) | fail)
          all_goals
            clear u0 u1 u2 t0 t1 t2 q0 q1 r0 r1 hbd' hbd hbe'
            go_wp2_with fail
            go_roundw
            case rel => exact ⟨k + 1, by omega, by go_num, hbe⟩
            case measure => simp [intOf]; omega
        · go_wp2_with fail
          go_ret
          exact ⟨rfl, HB02.out.trans ((HB2.out.trans (hb.mono hz2)).mono HB02.out.size)⟩
end Go.Proofs.Ytckohbjgogbfaaa
