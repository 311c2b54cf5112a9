/- The law LongestRed. -/
import Derived.Test.YtpfdhggejnbpbaaQt1
import Derived.Test.YtpfdhggejnbpbaaQra
set_option linter.unusedVariables false
set_option linter.unusedSimpArgs false
namespace Go.Proofs.Ytpfdhggejnbpbaa
open Go.RowKit

theorem lrF_ok {t : List (List Int)} {ss : List (List Int × Int)} {x : Int} (h : ¬ lrF t ss x < 0) : planB t ss = true ∧ 0 ≤ x ∧ x < t.length ∧ lrF t ss x = min (lrUp t ss x (cycN t ss).toNat (2 * (cycN t ss).toNat)).1 (cycN t ss) := by
  unfold lrF at h ⊢
  split
  · rename_i h2; exact ⟨h2.1, h2.2.1, h2.2.2, rfl⟩
  · rename_i h2
    rw [if_neg h2] at h
    omega

set_option maxHeartbeats 8000000 in
theorem longestRedLaw_walk (A : Option Addr) (n c : Nat) (bs : List Int) (w : World) (hS : Sl w w.heap.size BLit A n c bs) (hbs : ∀ x ∈ bs, 0 ≤ x ∧ x ≤ 255) :
    Calls Try.prog 8 #[.slice A n c] w fun e w' => e = .returned (.bool true) ∧ Below w.heap.size w w' := by
  obtain ⟨hc0, hc1⟩ := hS.cap
  by_cases hn : 1048576 < n
  · go_enter Try.func8, Try.ntmps8
    go_wp2
    go_ret
    exact ⟨rfl, by (repeat' (first | (with_reducible exact Below.refl _ _) | (with_reducible assumption) | (with_reducible refine Below.alloc ?_ ?_ _) | (with_reducible refine below_plus ?_ ?_ _ _) | (with_reducible refine Below.drew ?_) | (with_reducible refine Below.setCell ?_ ?_ _) | (with_reducible refine below_adv ?_ ?_ _) | go_size | (simp; done) | (simp; omega)))⟩
  · go_enter Try.func8, Try.ntmps8
    go_wp2_with fail
    refine (dDrawLongestRed_c A n c bs w _ hS (Nat.le_refl _) hbs).mono ?_
    rintro e w1 ⟨At, m, ct, t, A2, n2, c2, ss, x, rfl, hK, hKS, hm8, hn1, hn5, hpl, hx0, hx1, hb1⟩
    have hz1 := hb1.size
    obtain ⟨W2, hW2⟩ : ∃ W2, w1.alloc (.cells #[.slice At m ct, .slice A2 n2 c2] 26) = W2 := ⟨_, rfl⟩
    have hb12 : Below w1.heap.size w1 W2 := by rw [← hW2]; (repeat' (first | (with_reducible exact Below.refl _ _) | (with_reducible assumption) | (with_reducible refine Below.alloc ?_ ?_ _) | (with_reducible refine below_plus ?_ ?_ _ _) | (with_reducible refine Below.drew ?_) | (with_reducible refine Below.setCell ?_ ?_ _) | (with_reducible refine below_adv ?_ ?_ _) | go_size | (simp; done) | (simp; omega)))
    have hT1 := (hK.here.below hb12).more hb12.size
    have hS1 := ((hKS w1 fun _ _ _ => rfl).below hb12).more hb12.size
    obtain ⟨hk0, hk1⟩ := hS1.cap
    obtain ⟨hct0, hct1⟩ := hT1.cap
    have hP2 : W2.heap[w1.heap.size]? = some (.cells #[.slice At m ct, .slice A2 n2 c2] 26 (0, 0)) := by rw [← hW2]; exact heap_alloc_new w1 _
    have hgP := lt_of_heap hP2
    have p0 : W2.cell? ⟨w1.heap.size, 0, none⟩ = some (.slice At m ct) := by rw [cell_of_row _ _ _ _ _ _ hP2]; rfl
    have p1 : W2.cell? ⟨w1.heap.size, 1, none⟩ = some (.slice A2 n2 c2) := by rw [cell_of_row _ _ _ _ _ _ hP2]; rfl
    have P0 := Lib.hid (fun (w' : World) (hb : Below W2.heap.size W2 w') => And.intro ((hb.cell (p := ⟨w1.heap.size, 0, none⟩) hgP).trans p0) ((hb.cell (p := ⟨w1.heap.size, 1, none⟩) hgP).trans p1))
    have hpl6 : ∀ s ∈ ss, s.1.length ≤ 1048576 := fun s hs => by have := hpl s hs; omega
    have htl := hT1.len
    have hlen := hS1.len
    have HT := Lib.hid hT1
    have HS := Lib.hid hS1
    have c1' := fun (x : Int) w' (hw : Below W2.heap.size W2 w') => longestRed_c At m ct t A2 n2 c2 ss x w' _ (HT.out.below hw) (HS.out.below hw) hw.size hpl6 (by omega)
    have c2' := fun w' (hw : Below W2.heap.size W2 w') => sLongestRed_c At m ct t A2 n2 c2 ss x w' _ (HT.out.below hw) (HS.out.below hw) hw.size hpl6 (by omega)
    have hb02 := hb1.trans (hb12.mono hz1)
    obtain ⟨V, hV⟩ : ∃ V, lrF t ss x = V := ⟨_, rfl⟩
    have C1 := Lib.hid (c1' x)
    have C2 := Lib.hid c2'
    rw [hV] at C1 C2
    have HB02 := Lib.hid hb02
    have HPL6 := Lib.hid hpl6
    clear hS hbs hP2 hK hKS hT1 hS1 c2' hb1 hb12 hb02
    by_cases hneg : V < 0
    · clear c1' hV hpl hpl6 htl hlen
      go_wp2_with fail
      clear hW2 p0 p1
      obtain ⟨q0, q1⟩ := P0.out W2 (Below.refl _ _)
      refine (C1.out W2 (Below.refl _ _)).mono ?_
      rintro e w2 ⟨rfl, hb2⟩
      have hz2 := hb2.size
      obtain ⟨q0, q1⟩ := P0.out w2 hb2
      go_wp2_with fail
      refine (C2.out w2 hb2).mono ?_
      rintro e w3 ⟨rfl, hb3⟩
      have hb23 := hb2.trans (hb3.mono hz2)
      clear q0 q1 hb2 hb3
      obtain ⟨q0, q1⟩ := P0.out w3 hb23
      go_wp2_with fail
      refine (C2.out w3 hb23).mono ?_
      rintro e w4 ⟨rfl, hb4⟩
      go_wp2_with fail
      go_ret
      exact ⟨rfl, HB02.out.trans ((hb23.trans (hb4.mono hb23.size)).mono HB02.out.size)⟩
    · rw [← hV] at hneg
      obtain ⟨hok, hx2, hx3, hv⟩ := lrF_ok hneg
      obtain ⟨N, hN, hN5, hN225, p1', p2', p4', -, -, hcf⟩ := plan_num hok
      rw [hN, Int.toNat_natCast, hV] at hv
      have hgt : gtF t ss x = gtUp t ss x N := by rw [gtF, if_pos ⟨hok, hx2, hx3⟩, hN, Int.toNat_natCast]
      have hgb := gtUp_bd t ss x N
      obtain ⟨G, hG⟩ : ∃ G, gtUp t ss x N = G := ⟨_, rfl⟩
      obtain ⟨f1, f2, f3, f4⟩ := lr_law (by omega) hv hG.symm
      have cc := fun w' (hw : Below W2.heap.size W2 w') => cycleOf_c At m ct t A2 n2 c2 ss w' _ (HT.out.below hw) (HS.out.below hw) hw.size hpl6
      rw [hcf] at cc
      have cg := fun w' (hw : Below W2.heap.size W2 w') => greenTime_c At m ct t A2 n2 c2 ss x w' _ (HT.out.below hw) (HS.out.below hw) hw.size hpl6 (by omega)
      rw [hgt, hG] at cg
      rw [hG] at hgb
      have CC := Lib.hid cc
      have CG := Lib.hid cg
      rw [hV] at hneg
      clear c1' hV hpl hpl6 htl hlen hok hv p1' p2' p4' hcf cc cg hG hgt hN
      go_wp2_with fail
      clear hW2 p0 p1
      refine (C1.out W2 (Below.refl _ _)).mono ?_
      rintro e w2 ⟨rfl, hb2⟩
      have hz2 := hb2.size
      obtain ⟨q0, q1⟩ := P0.out w2 hb2
      go_wp2_with fail
      refine (C2.out w2 hb2).mono ?_
      rintro e w3 ⟨rfl, hb3⟩
      have hb23 := hb2.trans (hb3.mono hz2)
      clear q0 q1 hb2 hb3 hz2 C1 C2
      obtain ⟨q0, q1⟩ := P0.out w3 hb23
      have hz3 := hb23.size
      go_wp2_with fail
      clear q0 q1
      refine (CG.out w3 hb23).mono ?_
      rintro e w4 ⟨rfl, hb4⟩
      have hb24 := hb23.trans (hb4.mono hz3)
      have hz4 := hb24.size
      clear hb4
      obtain ⟨q0, q1⟩ := P0.out w4 hb24
      have hw1 : IntKind.i64.wrap ((N : Int) - G) = (N : Int) - G := IntWalk.i64_in _ (by omega)
      by_cases hG0 : G = 0
      · subst hG0
        obtain rfl : V = (N : Int) := by omega
        have b1 : ((0 : Int) == (N : Int)) = false := by simp; omega
        have b2 : ((N : Int) == 0) = false := by simp; omega
        have b3 : ¬ N = 0 := by omega
        have b4 : ¬ (0 : Int) = (N : Int) := by omega
        clear f1 f2 f3 f4
        go_wp2_with fail
        clear q0 q1
        refine (CC.out w4 hb24).mono ?_
        rintro e w5 ⟨rfl, hb5⟩
        have hb25 := hb24.trans (hb5.mono hz4)
        have hz5 := hb25.size
        obtain ⟨q0, q1⟩ := P0.out w5 hb25
        go_wp2_with fail
        clear q0 q1
        refine (CC.out w5 hb25).mono ?_
        rintro e w6 ⟨rfl, hb6⟩
        have hb26 := hb25.trans (hb6.mono hz5)
        have hz6 := hb26.size
        obtain ⟨q0, q1⟩ := P0.out w6 hb26
        go_wp2_with fail
        clear q0 q1
        refine (CC.out w6 hb26).mono ?_
        rintro e w7 ⟨rfl, hb7⟩
        go_wp2_with fail
        go_ret
        exact ⟨rfl, HB02.out.trans ((hb26.trans (hb7.mono hz6)).mono HB02.out.size)⟩
      · have hG1 : 0 < G := by omega
        have hfin : (G == (N : Int)) = (V == 0) := by rw [Bool.eq_iff_iff]; simpa using f4
        by_cases hGN : G = (N : Int)
        · obtain rfl : V = 0 := f4.1 hGN
          subst hGN
          clear f1 f2 f3 f4 hfin
          go_wp2_with fail
          clear q0 q1
          refine (CC.out w4 hb24).mono ?_
          rintro e w5 ⟨rfl, hb5⟩
          have hb25 := hb24.trans (hb5.mono hz4)
          have hz5 := hb25.size
          obtain ⟨q0, q1⟩ := P0.out w5 hb25
          go_wp2_with fail
          clear q0 q1
          refine (CC.out w5 hb25).mono ?_
          rintro e w6 ⟨rfl, hb6⟩
          go_wp2_with fail
          go_ret
          exact ⟨rfl, HB02.out.trans ((hb25.trans (hb6.mono hz5)).mono HB02.out.size)⟩
        · have hV0 : ¬ V = 0 := fun h => hGN (f4.2 h)
          have b1 : (G == (N : Int)) = false := by simpa using hGN
          have b2 : (V == 0) = false := by simpa using hV0
          clear f3 f4 hfin
          go_wp2_with fail
          clear q0 q1
          refine (CC.out w4 hb24).mono ?_
          rintro e w5 ⟨rfl, hb5⟩
          have hb25 := hb24.trans (hb5.mono hz4)
          have hz5 := hb25.size
          obtain ⟨q0, q1⟩ := P0.out w5 hb25
          go_wp2_with fail
          clear q0 q1
          refine (CC.out w5 hb25).mono ?_
          rintro e w6 ⟨rfl, hb6⟩
          go_wp2_with fail
          go_ret
          exact ⟨rfl, HB02.out.trans ((hb25.trans (hb6.mono hz5)).mono HB02.out.size)⟩
end Go.Proofs.Ytpfdhggejnbpbaa
