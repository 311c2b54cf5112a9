/- The law GreenAt. -/
import Derived.Test.YtckohbjgogbfaaaQg5
import Derived.Test.YtckohbjgogbfaaaQu1
import Derived.Test.YtckohbjgogbfaaaBc
import Derived.Test.YtckohbjgogbfaaaPc
import Derived.Test.YtckohbjgogbfaaaPp
set_option linter.unusedVariables false
set_option linter.unusedSimpArgs false
namespace Go.Proofs.Ytckohbjgogbfaaa
open Go.RowKit

theorem plan_num' {t : List (List Int)} {ss : List (List Int × Int)} (hok : planB t ss = true) : ∃ N : Nat, cycN t ss = (N : Int) ∧ 5 ≤ N ∧ N ≤ 225 ∧ sqB t = true ∧ inC t = true ∧ grOk ss ∧ 1 ≤ ss.length ∧ ss.length ≤ 5 := by
  obtain ⟨p1, p2, p3, p4, p5, p6⟩ := plan_parts hok rfl rfl
  have hcb := cycUp_bd p2 p4 (t := t) ss.length
  have hcn : cycN t ss = cycUp t ss ss.length := rfl
  have hcl := cycUp_lt p2 p4 (t := t) (k := 0) (by omega)
  have hcm := cycUp_mono p2 p4 (t := t) (i := 0 + 1) (j := ss.length) (by omega) (Nat.le_refl _)
  have hc0 : cycUp t ss 0 = 0 := rfl
  exact ⟨(cycN t ss).toNat, by omega, by omega, by omega, p1, p2, p4, p5, p6⟩
theorem gaF_sub {t : List (List Int)} {ss : List (List Int × Int)} {x y : Int} (h : y ∈ gaF t ss x) : planB t ss = true ∧ 0 ≤ y ∧ y < t.length := by
  unfold gaF at h
  split at h
  · rename_i h2
    obtain ⟨p1, p2, p3, p4, p5, p6⟩ := plan_parts h2.1 rfl rfl
    have hl := stg_le (t := t) (ss := ss) (s := ((x.toNat % (cycN t ss).toNat : Nat) : Int)) (k := ss.length - 1)
    obtain ⟨k, hk⟩ : ∃ k, stg t ss ((x.toNat % (cycN t ss).toNat : Nat) : Int) (ss.length - 1) = k := ⟨_, rfl⟩
    rw [greenN, hk] at h
    rw [hk] at hl
    have h3 := greenK_sub h
    have hx : ss[k]? = some ss[k] := List.getElem?_eq_getElem (by omega)
    obtain ⟨e1, -⟩ := phAt_of (ph := (ss[k]).1) (g := (ss[k]).2) hx
    rw [e1] at h3
    exact ⟨h2.1, p3 _ (List.mem_of_getElem? hx) y h3⟩
  · cases h
theorem fitsB_filter {t : List (List Int)} {ph : List Int} (h : fitsB t ph = true) (p : Int → Bool) : fitsB t (ph.filter p) = true := by
  have hok := fitsB_ok h
  rw [fitsB_yes hok] at h ⊢
  simp only [ascB, allB, clearB, Bool.and_eq_true, decide_eq_true_eq, List.all_eq_true] at h ⊢
  exact ⟨⟨h.1.1.filter p, fun x hx => h.1.2 x (List.mem_filter.1 hx).1⟩, h.2.filter p⟩
theorem gaF_fits {t : List (List Int)} {ss : List (List Int × Int)} {x : Int} (h : planB t ss = true) (h0 : 0 ≤ x) (h1 : x ≤ 9999) : fitsB t (gaF t ss x) = true := by
  rw [gaF, if_pos ⟨h, h0, h1⟩]
  obtain ⟨p1, p2, p3, p4, p5, p6⟩ := plan_parts h rfl rfl
  have hl := stg_le (t := t) (ss := ss) (s := ((x.toNat % (cycN t ss).toNat : Nat) : Int)) (k := ss.length - 1)
  have hf := phAt_fits (fun s hs => ((plan_iff.1 h).2.2 s hs).1) (show stg t ss ((x.toNat % (cycN t ss).toNat : Nat) : Int) (ss.length - 1) < ss.length by omega)
  unfold greenN greenK
  split
  · exact hf
  · exact fitsB_filter hf _
theorem gaF_next {t : List (List Int)} {ss : List (List Int × Int)} {N : Nat} {x : Int} (h : planB t ss = true) (hN : cycN t ss = (N : Int)) (h0 : 0 ≤ x) (h1 : x + N ≤ 9999) : gaF t ss (x + N) = gaF t ss x := by
  rw [gaF, gaF, if_pos ⟨h, by omega, h1⟩, if_pos ⟨h, h0, by omega⟩, hN, Int.toNat_natCast, show (x + (N : Int)).toNat = x.toNat + N by omega, Nat.add_mod_right]
theorem gaF_first {t : List (List Int)} {ss : List (List Int × Int)} {s : Nat} (h : planB t ss = true) (h1 : (s : Int) < grAt ss 0) : gaF t ss s = phAt ss 0 := by
  obtain ⟨p1, p2, p3, p4, p5, p6⟩ := plan_parts h rfl rfl
  have hg := (grAt_bd p4 0).2
  obtain ⟨N, hN, -⟩ := plan_num' h
  have hd := changeN_bd p2 (phAt ss 0) (phAt ss ((0 + 1) % ss.length))
  have he : cycUp t ss (0 + 1) = cycUp t ss 0 + (grAt ss 0 + changeN t (phAt ss 0) (phAt ss ((0 + 1) % ss.length))) := rfl
  have h0 : cycUp t ss 0 = 0 := rfl
  have hm := cycUp_mono p2 p4 (t := t) (i := 0 + 1) (j := ss.length) (by omega) (Nat.le_refl _)
  have e : cycN t ss = cycUp t ss ss.length := rfl
  rw [gaF, if_pos ⟨h, by omega, by omega⟩, hN, Int.toNat_natCast, Int.toNat_natCast, Nat.mod_eq_of_lt (by omega), greenN, stg_of p2 p4 (i := 0) (by omega) (by omega) (by omega), greenK, if_pos (by omega)]
theorem gaF_clear {t : List (List Int)} {ss : List (List Int × Int)} {s k : Nat} (h : planB t ss = true) (hk : 1 ≤ k) (hks : k ≤ s) (hs : s ≤ 9999) {a b : Int} (ha : a ∈ gaF t ss ((s : Int) - k)) (hb : b ∈ gaF t ss s) : cAt t a.toNat b.toNat < k := by
  obtain ⟨N, hN, -⟩ := plan_num' h
  rw [gaF, if_pos ⟨h, by omega, by omega⟩, hN, Int.toNat_natCast] at ha hb
  rw [show ((s : Int) - k).toNat = s - k by omega] at ha
  rw [Int.toNat_natCast] at hb
  have := clear_kept h hN (show s - k < s by omega) ha hb
  omega

set_option maxHeartbeats 8000000 in
theorem greenAtLaw_walk (A : Option Addr) (n c : Nat) (bs : List Int) (w : World) (hS : Sl w w.heap.size BLit A n c bs) (hbs : ∀ x ∈ bs, 0 ≤ x ∧ x ≤ 255) :
    Calls Try.prog 5 #[.slice A n c] w fun e w' => e = .returned (.bool true) ∧ Below w.heap.size w w' := by
  obtain ⟨hc0, hc1⟩ := hS.cap
  by_cases hn : 1048576 < n
  · go_enter Try.func5, Try.ntmps5
    go_wp2
    go_ret
    exact ⟨rfl, by (repeat' (first | (with_reducible exact Below.refl _ _) | (with_reducible assumption) | (with_reducible refine Below.alloc ?_ ?_ _) | (with_reducible refine below_plus ?_ ?_ _ _) | (with_reducible refine Below.drew ?_) | (with_reducible refine Below.setCell ?_ ?_ _) | (with_reducible refine below_adv ?_ ?_ _) | go_size | (simp; done) | (simp; omega)))⟩
  · go_enter Try.func5, Try.ntmps5
    go_wp2_with fail
    refine (dDrawGreenAt_c A n c bs w _ hS (Nat.le_refl _) hbs).mono ?_
    rintro e w1 ⟨At, m, ct, t, A2, n2, c2, ss, x, rfl, hK, hKS, hm8, hn1, hn5, hpl, hx0, hx1, hb1⟩
    have hz1 := hb1.size
    obtain ⟨W2, hW2⟩ : ∃ W2, w1.alloc (.cells #[.slice At m ct, .slice A2 n2 c2] 26) = W2 := ⟨_, rfl⟩
    have hb12 : Below w1.heap.size w1 W2 := by rw [← hW2]; (repeat' (first | (with_reducible exact Below.refl _ _) | (with_reducible assumption) | (with_reducible refine Below.alloc ?_ ?_ _) | (with_reducible refine below_plus ?_ ?_ _ _) | (with_reducible refine Below.drew ?_) | (with_reducible refine Below.setCell ?_ ?_ _) | (with_reducible refine below_adv ?_ ?_ _) | go_size | (simp; done) | (simp; omega)))
    have hT1 := (hK.here.below hb12).more hb12.size
    have hS1 := ((hKS w1 fun _ _ _ => rfl).below hb12).more hb12.size
    obtain ⟨hk0, hk1⟩ := hS1.cap
    obtain ⟨hct0, hct1⟩ := hT1.cap
    have hP2 : W2.heap[w1.heap.size]? = some (.cells #[.slice At m ct, .slice A2 n2 c2] 26 (0, 0)) := by rw [← hW2]; exact heap_alloc_new w1 _
    have hgP := lt_of_heap hP2
    have p0 : W2.cell? ⟨w1.heap.size, 0, none⟩ = some (.slice At m ct) := by rw [cell_of_row _ _ _ _ _ _ hP2]; rfl
    have p1 : W2.cell? ⟨w1.heap.size, 1, none⟩ = some (.slice A2 n2 c2) := by rw [cell_of_row _ _ _ _ _ _ hP2]; rfl
    have P0 := Lib.hid (fun (w' : World) (hb : Below W2.heap.size W2 w') => And.intro ((hb.cell (p := ⟨w1.heap.size, 0, none⟩) hgP).trans p0) ((hb.cell (p := ⟨w1.heap.size, 1, none⟩) hgP).trans p1))
    have hpl6 : ∀ s ∈ ss, s.1.length ≤ 1048576 := fun s hs => by have := hpl s hs; omega
    have htl := hT1.len
    have hlen := hS1.len
    have HT := Lib.hid hT1
    have HS := Lib.hid hS1
    have CI := Lib.hid (fun (x : Int) w' (hw : Below W2.heap.size W2 w') => greenAt_c At m ct t A2 n2 c2 ss x w' _ (HT.out.below hw) (HS.out.below hw) hw.size hpl6 (by omega))
    have c2' := fun w' (hw : Below W2.heap.size W2 w') => sGreenAt1_c At m ct t A2 n2 c2 ss x w' _ (HT.out.below hw) (HS.out.below hw) hw.size hpl6 (by omega)
    have cv := fun w' (hw : Below W2.heap.size W2 w') => validPlan_c At m ct t A2 n2 c2 ss w' _ (HT.out.below hw) (HS.out.below hw) hw.size (fun s hs => Nat.le_trans (hpl6 s hs) (by omega))
    have hb02 := hb1.trans (hb12.mono hz1)
    obtain ⟨L, hL⟩ : ∃ L, gaF t ss x = L := ⟨_, rfl⟩
    have C1 := Lib.hid (CI.out x)
    have C2 := Lib.hid c2'
    rw [hL] at C1 C2
    have HB02 := Lib.hid hb02
    have HPL6 := Lib.hid hpl6
    clear hS hbs hP2 hK hKS hT1 hS1 c2' hb1 hb12 hb02
    cases hok : planB t ss
    · skip
      rw [hok] at cv
      have CV := Lib.hid cv
      clear cv hok hL hpl hpl6 htl hlen CI
      go_wp2_with fail
      clear hW2 p0 p1
      refine (C1.out W2 (Below.refl _ _)).mono ?_
      rintro e w2 ⟨v2, nl, rfl, hO2, hb2⟩
      obtain ⟨Al, cl, rfl, hWl⟩ := Ow.of_own hO2
      have hz2 := hb2.size
      have HSL := Lib.hid hWl.sl
      have HB2 := Lib.hid hb2
      have PP := Lib.hid (fun w' (hb : Below w2.heap.size w2 w') => P0.out w' (hb2.trans (hb.mono hz2)))
      have SG := Lib.hid (fun w' (hb : Below w2.heap.size w2 w') => C2.out w' (hb2.trans (hb.mono hz2)))
      have VP := Lib.hid (fun w' (hb : Below w2.heap.size w2 w') => CV.out w' (hb2.trans (hb.mono hz2)))
      have EQ := Lib.hid (fun w' (hb : Below w2.heap.size w2 w') A3 n3 c3 (h3 : Sl w' w'.heap.size ILit A3 n3 c3 L) => equalInts_t Al nl cl L A3 n3 c3 w' _ _ (HSL.out.below hb) hb.size h3 (Nat.le_refl _))
      clear hO2 hWl hb2 C1 C2 CV
      obtain ⟨q0, q1⟩ := PP.out w2 (Below.refl _ _)
      go_wp2_with fail
      refine (SG.out w2 (Below.refl _ _)).mono ?_
      rintro e w3 ⟨v3, n3, rfl, hO3, hb3⟩
      obtain ⟨A3, c3, rfl, hW3⟩ := Ow.of_own hO3
      have E3 := Lib.hid (EQ.out w3 hb3 A3 n3 c3 hW3.sl)
      have hz3 := hb3.size
      clear hO3 hW3 q0 q1
      go_wp2_with fail
      refine E3.out.mono ?_
      rintro e w4 ⟨rfl, hb4⟩
      have hb24 := hb3.trans (hb4.mono hz3)
      have hz4 := hb24.size
      clear hb3 hb4 E3
      obtain ⟨q0, q1⟩ := PP.out w4 hb24
      go_wp2_with fail
      refine (VP.out w4 hb24).mono ?_
      rintro e w5 ⟨rfl, hb5⟩
      have hb25 := hb24.trans (hb5.mono hz4)
      have hz5 := hb25.size
      clear q0 q1 hb24 hb5
      obtain ⟨q0, q1⟩ := PP.out w5 hb25
      go_wp2_with fail
      refine (SG.out w5 hb25).mono ?_
      rintro e w7 ⟨v7, n7, rfl, hO7, hb7⟩
      obtain ⟨A7, c7, rfl, hW7⟩ := Ow.of_own hO7
      have hb27 := Below.trans hb25 (hb7.mono (Below.size hb25))
      have E7 := Lib.hid (EQ.out w7 hb27 A7 n7 c7 hW7.sl)
      clear hO7 hW7 q0 q1
      go_wp2_with fail
      refine E7.out.mono ?_
      rintro e w8 ⟨rfl, hb8⟩
      go_wp2_with fail
      go_ret
      exact ⟨rfl, HB02.out.trans ((HB2.out.trans ((hb27.trans (hb8.mono hb27.size)).mono hz2)).mono HB02.out.size)⟩
    · obtain ⟨N, hN, hN5, hN225, -, -, -, -, -⟩ := plan_num' hok
      have hcf : cycF t ss = (N : Int) := by rw [cycF, if_pos hok, hN]
      have cc := fun w' (hw : Below W2.heap.size W2 w') => cycleOf_c At m ct t A2 n2 c2 ss w' _ (HT.out.below hw) (HS.out.below hw) hw.size hpl6
      rw [hcf] at cc
      have CC := Lib.hid cc
      have HFX := Lib.hid (fun (h0 : 0 ≤ x) (h1 : x ≤ 9999) => show phaseF (confF t) L = true by rw [← hL]; exact gaF_fits hok h0 h1)
      have HNX := Lib.hid (fun (h0 : 0 ≤ x) (h1 : x + N ≤ 9999) => show gaF t ss (x + N) = L by rw [gaF_next hok hN h0 h1, hL])
      have HOK := Lib.hid hok
      have HLL : Hid (L.length ≤ 1048576) := Lib.hid (by
        rw [← hL]; unfold gaF; split
        · exact greenN_len hpl6
        · exact Nat.zero_le _)
      rw [hok] at cv
      have CV := Lib.hid cv
      clear cv hok hL hpl hpl6 htl hlen hN hcf cc
      go_wp2_with fail
      clear hW2 p0 p1
      refine (C1.out W2 (Below.refl _ _)).mono ?_
      rintro e w2 ⟨v2, nl, rfl, hO2, hb2⟩
      obtain ⟨Al, cl, rfl, hWl⟩ := Ow.of_own hO2
      have hz2 := hb2.size
      have HSL := Lib.hid hWl.sl
      have HB2 := Lib.hid hb2
      have PP := Lib.hid (fun w' (hb : Below w2.heap.size w2 w') => P0.out w' (hb2.trans (hb.mono hz2)))
      have SG := Lib.hid (fun w' (hb : Below w2.heap.size w2 w') => C2.out w' (hb2.trans (hb.mono hz2)))
      have VP := Lib.hid (fun w' (hb : Below w2.heap.size w2 w') => CV.out w' (hb2.trans (hb.mono hz2)))
      have EQ := Lib.hid (fun w' (hb : Below w2.heap.size w2 w') A3 n3 c3 (h3 : Sl w' w'.heap.size ILit A3 n3 c3 L) => equalInts_t Al nl cl L A3 n3 c3 w' _ _ (HSL.out.below hb) hb.size h3 (Nat.le_refl _))
      clear hO2 hWl hb2 C1 C2 CV
      obtain ⟨q0, q1⟩ := PP.out w2 (Below.refl _ _)
      go_wp2_with fail
      refine (SG.out w2 (Below.refl _ _)).mono ?_
      rintro e w3 ⟨v3, n3, rfl, hO3, hb3⟩
      obtain ⟨A3, c3, rfl, hW3⟩ := Ow.of_own hO3
      have E3 := Lib.hid (EQ.out w3 hb3 A3 n3 c3 hW3.sl)
      have hz3 := hb3.size
      clear hO3 hW3 q0 q1
      go_wp2_with fail
      refine E3.out.mono ?_
      rintro e w4 ⟨rfl, hb4⟩
      have hb24 := hb3.trans (hb4.mono hz3)
      have hz4 := hb24.size
      clear hb3 hb4 E3
      obtain ⟨q0, q1⟩ := PP.out w4 hb24
      go_wp2_with fail
      refine (VP.out w4 hb24).mono ?_
      rintro e w5 ⟨rfl, hb5⟩
      have hb25 := hb24.trans (hb5.mono hz4)
      have hz5 := hb25.size
      clear q0 q1 hb24 hb5
      obtain ⟨q0, q1⟩ := PP.out w5 hb25
      have hwN : IntKind.i64.wrap (9999 - (N : Int)) = 9999 - (N : Int) := IntWalk.i64_in _ (by omega)
      have hnl := HSL.out.len
      have hll := HLL.out
      by_cases hneg : x < 0
      · go_wp2_with fail
        refine (SG.out w5 hb25).mono ?_
        rintro e w7 ⟨v7, n7, rfl, hO7, hb7⟩
        obtain ⟨A7, c7, rfl, hW7⟩ := Ow.of_own hO7
        have hb27 := Below.trans hb25 (hb7.mono (Below.size hb25))
        have E7 := Lib.hid (EQ.out w7 hb27 A7 n7 c7 hW7.sl)
        clear hO7 hW7 q0 q1
        go_wp2_with fail
        refine E7.out.mono ?_
        rintro e w8 ⟨rfl, hb8⟩
        go_wp2_with fail
        go_ret
        exact ⟨rfl, HB02.out.trans ((HB2.out.trans ((hb27.trans (hb8.mono hb27.size)).mono hz2)).mono HB02.out.size)⟩
      · have CC2 := Lib.hid (fun w' (hb : Below w2.heap.size w2 w') => CC.out w' (HB2.out.trans (hb.mono hz2)))
        by_cases hbig : 9999 - (N : Int) < x
        · go_wp2_with fail
          refine (CC2.out w5 hb25).mono ?_
          rintro e w6 ⟨rfl, hb6⟩
          have hb26 := hb25.trans (hb6.mono hz5)
          clear q0 q1 hb6
          obtain ⟨q0, q1⟩ := PP.out w6 hb26
          go_wp2_with fail
          refine (SG.out w6 hb26).mono ?_
          rintro e w7 ⟨v7, n7, rfl, hO7, hb7⟩
          obtain ⟨A7, c7, rfl, hW7⟩ := Ow.of_own hO7
          have hb27 := Below.trans hb26 (hb7.mono (Below.size hb26))
          have E7 := Lib.hid (EQ.out w7 hb27 A7 n7 c7 hW7.sl)
          clear hO7 hW7 q0 q1
          go_wp2_with fail
          refine E7.out.mono ?_
          rintro e w8 ⟨rfl, hb8⟩
          go_wp2_with fail
          go_ret
          exact ⟨rfl, HB02.out.trans ((HB2.out.trans ((hb27.trans (hb8.mono hb27.size)).mono hz2)).mono HB02.out.size)⟩
        · have CF := Lib.hid (fun w' (hb : Below w2.heap.size w2 w') => conflictsOf_c At m ct t w' _ (HT.out.below (HB2.out.trans (hb.mono hz2))) (by have h1 := HB2.out.size; have h2 := hb.size; omega))
          have hfx := HFX.out (by omega) (by omega)
          have hcx := CI.out (x + N)
          rw [HNX.out (by omega) (by omega)] at hcx
          have CX := Lib.hid (fun w' (hb : Below w2.heap.size w2 w') => hcx w' (HB2.out.trans (hb.mono hz2)))
          have VX := Lib.hid (fun w' (hb : Below w2.heap.size w2 w') A5 n5 c5 (h5 : Sl2 w' w'.heap.size OLit A5 n5 c5 (confF t)) => validPhase_c A5 n5 c5 (confF t) Al nl cl L w' _ h5 ((HSL.out.below hb).more hb.size) (Nat.le_refl _) (by omega))
          rw [hfx] at VX
          have EX := Lib.hid (fun w' (hb : Below w2.heap.size w2 w') A3 n3 c3 (h3 : Sl w' w'.heap.size ILit A3 n3 c3 L) => equalInts_t A3 n3 c3 L Al nl cl w' _ _ h3 (Nat.le_refl _) (HSL.out.below hb) hb.size)
          have hxN : IntKind.i64.wrap (x + (N : Int)) = x + (N : Int) := IntWalk.i64_in _ (by omega)
          clear hfx hcx CI
          go_wp2_with fail
          refine (CC2.out w5 hb25).mono ?_
          rintro e w6 ⟨rfl, hb6⟩
          have hb26 := hb25.trans (hb6.mono hz5)
          have hz26 := hb26.size
          have hz06 : w1.heap.size < w6.heap.size := by have := HB2.out.size; omega
          clear q0 q1 hb6 hb25
          obtain ⟨q0, q1⟩ := PP.out w6 hb26
          have DR : Below w2.heap.size w2 w6.drew := ⟨hb26.os, hb26.tape, hb26.output, hb26.size, hb26.block⟩
          have F1 := Lib.hid (CF.out w6.drew DR)
          have H26 := Lib.hid hb26
          clear hb26 DR
          go_wp2_with fail
          go_region_held3 (fun w' => w'.cell? ⟨w1.heap.size, 0, none⟩ = some (.slice At m ct) ∧ w'.cell? ⟨w1.heap.size, 1, none⟩ = some (.slice A2 n2 c2)) (first | go_keep | (exact ⟨u0, u1⟩) | (exact ⟨v0, v1⟩) | (exact ⟨s0, s1⟩) | (exact ⟨r0, r1⟩) | (exact ⟨t0, t1⟩))
            (first | (go_at_call 14; refine F1.out.mono ?_; rintro e wa ⟨A5, n5, c5, rfl, hO5, hba'⟩; have hba := H26.out.trans ((below_undrew hba').mono hz26); have hza := hba.size; obtain ⟨u0, u1⟩ := PP.out wa hba; have V5 := Lib.hid (VX.out wa hba A5 n5 c5 hO5.sl2); clear hO5) | (go_at_call 13; refine V5.out.mono ?_; rintro e wb ⟨rfl, hbb'⟩; have hbb := hba.trans (hbb'.mono hza); have hzb := hbb.size; obtain ⟨v0, v1⟩ := PP.out wb hbb; have K5 := Lib.hid (CC2.out wb hbb)) | (go_at_call 12; refine K5.out.mono ?_; rintro e wc ⟨rfl, hbc'⟩; have hbc := hbb.trans (hbc'.mono hzb); have hzc := hbc.size; obtain ⟨s0, s1⟩ := PP.out wc hbc; have X5 := Lib.hid (CX.out wc hbc)) | (go_at_call 8; refine X5.out.mono ?_; rintro e wd ⟨v9, n9, rfl, hO9, hbd'⟩; obtain ⟨A9, c9, rfl, hW9⟩ := Ow.of_own hO9; have hbd := hbc.trans (hbd'.mono hzc); have hzd := hbd.size; obtain ⟨r0, r1⟩ := PP.out wd hbd; have E9 := Lib.hid (EX.out wd hbd A9 n9 c9 hW9.sl); clear hO9 hW9) | (go_at_call 9; refine E9.out.mono ?_; rintro e we ⟨rfl, hbe'⟩; have hbe := hbd.trans (hbe'.mono hzd); obtain ⟨t0, t1⟩ := PP.out we hbe) | fail)
          all_goals
            clear u0 u1 v0 v1 s0 s1 r0 r1 t0 t1 q0 q1 hxN hwN
            go_wp2_with fail
            go_ret
            exact ⟨rfl, HB02.out.trans ((HB2.out.trans (hbe.mono hz2)).mono HB02.out.size)⟩
end Go.Proofs.Ytckohbjgogbfaaa
