/- The law ChangeTimeParts. -/
import Derived.Test.YtlpbmnmhpknppaaCd8
set_option linter.unusedVariables false
set_option linter.unusedSimpArgs false
namespace Go.Proofs.Ytlpbmnmhpknppaa
open Go.RowKit

theorem fitsB_tail {t : List (List Int)} {x : Int} {r : List Int} (h : fitsB t (x :: r) = true) : fitsB t r = true := by
  have hok := fitsB_ok h
  rw [fitsB_yes hok] at h ⊢
  simp only [ascB, clearB, allB, Bool.and_eq_true, decide_eq_true_eq, List.pairwise_cons, List.all_cons] at h ⊢
  exact ⟨⟨h.1.1.2, h.1.2.2⟩, h.2.2⟩

set_option maxHeartbeats 8000000 in
set_option maxRecDepth 100000 in
theorem changeTimePartsLaw_walk (A : Option Addr) (n c : Nat) (bs : List Int) (w : World) (hS : Sl w w.heap.size BLit A n c bs) (hbs : ∀ x ∈ bs, 0 ≤ x ∧ x ≤ 255) :
    Calls Try.prog 9 #[.slice A n c] w fun e w' => e = .returned (.bool true) ∧ Below w.heap.size w w' := by
  obtain ⟨hc0, hc1⟩ := hS.cap
  by_cases hn : 1048576 < n
  · go_enter Try.func9, Try.ntmps9
    go_wp2
    go_ret
    exact ⟨rfl, by (repeat' (first | (with_reducible exact Below.refl _ _) | (with_reducible assumption) | (with_reducible refine Below.alloc ?_ ?_ _) | (with_reducible refine below_plus ?_ ?_ _ _) | (with_reducible refine Below.drew ?_) | (with_reducible refine Below.setCell ?_ ?_ _) | (with_reducible refine below_adv ?_ ?_ _) | go_size | (simp; done) | (simp; omega)))⟩
  · go_enter Try.func9, Try.ntmps9
    go_wp2_with fail
    refine (drawChangeTime_c A n c bs w _ hS (Nat.le_refl _) hbs).mono ?_
    rintro e w1 ⟨A1, m, c1, t, A2, n2, c2, fr, A3, n3, c3, to, rfl, hT1, hF1, hG1, hm8, hn2, hn3, hb1⟩
    have hz1 := hb1.size
    obtain ⟨hm0, hm1⟩ := hT1.cap
    obtain ⟨hf0, hf1⟩ := hF1.cap
    obtain ⟨hg0, hg1⟩ := hG1.cap
    clear hS hbs
    have c1' := fun w' (hw : Below w1.heap.size w1 w') => changeTime_c A1 m c1 t A2 n2 c2 fr A3 n3 c3 to w' _ (hT1.below hw) (hF1.below hw) (hG1.below hw) hw.size (by omega) (by omega)
    have c2' := fun w' (hw : Below w1.heap.size w1 w') => sChangeTime_c A1 m c1 t A2 n2 c2 fr A3 n3 c3 to w' _ (hT1.below hw) (hF1.below hw) (hG1.below hw) hw.size (by omega) (by omega)
    by_cases hneg : changeF t fr to < 0
    · rw [changeF_neg hneg] at c1' c2'
      have C1 := Lib.hid c1'
      have C2 := Lib.hid c2'
      clear c1' c2' hneg hT1 hF1 hG1
      go_wp2_with fail
      refine (C1.out w1 (Below.refl _ _)).mono ?_
      rintro e w2 ⟨rfl, hb2⟩
      have hz2 := hb2.size
      go_wp2_with fail
      refine (C2.out w2 hb2).mono ?_
      rintro e w3 ⟨rfl, hb3⟩
      have hb13 := hb2.trans (hb3.mono hz2)
      go_wp2_with fail
      refine (C2.out w3 hb13).mono ?_
      rintro e w4 ⟨rfl, hb4⟩
      go_wp2_with fail
      go_ret
      exact ⟨rfl, hb1.trans ((hb13.trans (hb4.mono hb13.size)).mono hz1)⟩
    · obtain ⟨hok1, hok2, hv⟩ := changeF_ok hneg
      have hok := fitsB_ok hok1
      obtain ⟨-, -, hsq, hinc, -⟩ := cOk_iff.1 hok
      obtain ⟨hN0, hN5⟩ := changeN_bd hinc fr to
      rw [hv] at c1' c2'
      cases to with
      | nil =>
        have hn30 : n3 = 0 := by rw [← hG1.len]; rfl
        subst hn30
        obtain ⟨N, hN⟩ : ∃ N, changeN t fr [] = N := ⟨_, rfl⟩
        rw [hN] at hN0 hN5 c1' c2'
        have C1 := Lib.hid c1'
        have C2 := Lib.hid c2'
        clear c1' c2' hneg hv hN hT1 hF1 hG1 hok1 hok2 hok hsq hinc
        go_wp2_with fail
        refine (C1.out w1 (Below.refl _ _)).mono ?_
        rintro e w2 ⟨rfl, hb2⟩
        have hz2 := hb2.size
        go_wp2_with fail
        refine (C2.out w2 hb2).mono ?_
        rintro e w3 ⟨rfl, hb3⟩
        have hb13 := hb2.trans (hb3.mono hz2)
        go_wp2_with fail
        refine (C2.out w3 hb13).mono ?_
        rintro e w4 ⟨rfl, hb4⟩
        go_wp2_with fail
        go_ret
        exact ⟨rfl, hb1.trans ((hb13.trans (hb4.mono hb13.size)).mono hz1)⟩
      | cons x0 to =>
        have hn31 : 1 ≤ n3 := by rw [← hG1.len]; simp
        have hn30 : ((n3 : Int) == 0) = false := by simp; omega
        obtain ⟨b, o, x, rfl, hbl, hx, hcx⟩ := hG1.at_ (k := 0) (by omega)
        simp only [List.getElem?_cons_zero, Option.some.injEq] at hx
        subst hx
        have hcx' : w1.cell? ⟨b, o, none⟩ = some (.int .i64 x0) := by simpa [ILit] using hcx
        have CI := Lib.hid (fun w' (hw : Below w1.heap.size w1 w') => lIsIn_c _ n2 c2 fr x0 w' _ (hF1.below hw) hw.size (by omega))
        have hl0 : changeN t fr to ≤ changeN t fr (x0 :: to) ∨ x0 ∈ fr := by
          by_cases h : x0 ∈ fr
          · exact .inr h
          · exact .inl (changeN_less hinc h)
        have hd := hG1.drop (k := 1) (by omega)
        simp only [List.drop_succ_cons, List.drop_zero, Option.map_some] at hd
        have hF' : changeF t fr to = changeN t fr to := by rw [changeF, if_pos (by simp [hok1, fitsB_tail hok2])]
        have hM0 := (changeN_bd hinc fr to).1
        obtain ⟨N, hN⟩ : ∃ N, changeN t fr (x0 :: to) = N := ⟨_, rfl⟩
        obtain ⟨M, hM⟩ : ∃ M, changeN t fr to = M := ⟨_, rfl⟩
        rw [hN] at hN0 hN5 c1' c2' hl0
        rw [hM] at hF' hM0 hl0
        have C1 := Lib.hid c1'
        have C2 := Lib.hid c2'
        by_cases hin : x0 ∈ fr
        · rw [decide_eq_true hin] at CI
          clear c1' c2' hneg hv hN hM hT1 hF1 hG1 hok1 hok2 hok hsq hinc hd hF' hl0 hin hcx
          go_wp2_with fail
          refine (C1.out w1 (Below.refl _ _)).mono ?_
          rintro e w2 ⟨rfl, hb2⟩
          have hz2 := hb2.size
          go_wp2_with fail
          refine (C2.out w2 hb2).mono ?_
          rintro e w3 ⟨rfl, hb3⟩
          have hb13 := hb2.trans (hb3.mono hz2)
          have hcx3 := (hb13.cell (p := ⟨b, o, none⟩) hbl).trans hcx'
          clear hb2 hb3
          go_wp2_with fail
          refine (CI.out w3 hb13).mono ?_
          rintro e w4 ⟨rfl, hb4⟩
          have hb14 := hb13.trans (hb4.mono hb13.size)
          clear hb13 hb4
          go_wp2_with fail
          refine (C2.out w4 hb14).mono ?_
          rintro e w5 ⟨rfl, hb5⟩
          go_wp2_with fail
          go_ret
          exact ⟨rfl, hb1.trans ((hb14.trans (hb5.mono hb14.size)).mono hz1)⟩
        · rw [decide_eq_false hin] at CI
          have hle : M ≤ N := by rcases hl0 with h | h; exact h; exact absurd h hin
          have c5' := fun A5 c5 (h5 : Sl w1 w1.heap.size ILit A5 (n3 - 1) c5 to) w' (hw : Below w1.heap.size w1 w') => changeTime_c A1 m c1 t A2 n2 c2 fr A5 (n3 - 1) c5 to w' _ (hT1.below hw) (hF1.below hw) (h5.below hw) hw.size (by omega) (by omega)
          rw [hF'] at c5'
          clear c1' c2' hneg hv hN hM hT1 hF1 hG1 hok1 hok2 hok hsq hinc hF' hl0 hin hcx
          by_cases hc31 : c3 = 1
          · rw [if_pos hc31] at hd
            have hc31' : c3 - 1 = 0 := by omega
            rw [hc31'] at hd
            have C5 := Lib.hid (c5' _ _ hd)
            clear c5' hd hc31'
            have hn3e : n3 = 1 := by omega
            subst hn3e hc31
            go_wp2_with fail
            refine (C1.out w1 (Below.refl _ _)).mono ?_
            rintro e w2 ⟨rfl, hb2⟩
            have hz2 := hb2.size
            go_wp2_with fail
            refine (C2.out w2 hb2).mono ?_
            rintro e w3 ⟨rfl, hb3⟩
            have hb13 := hb2.trans (hb3.mono hz2)
            have hcx3 := (hb13.cell (p := ⟨b, o, none⟩) hbl).trans hcx'
            clear hb2 hb3
            go_wp2_with fail
            refine (CI.out w3 hb13).mono ?_
            rintro e w4 ⟨rfl, hb4⟩
            have hb14 := hb13.trans (hb4.mono hb13.size)
            clear hb13 hb4
            go_wp2_with fail
            refine (C5.out w4 hb14).mono ?_
            rintro e w5 ⟨rfl, hb5⟩
            go_wp2_with fail
            go_ret
            exact ⟨by simp, hb1.trans ((hb14.trans (hb5.mono hb14.size)).mono hz1)⟩
          · rw [if_neg hc31] at hd
            have C5 := Lib.hid (c5' _ _ hd)
            clear c5' hd
            go_wp2_with fail
            refine (C1.out w1 (Below.refl _ _)).mono ?_
            rintro e w2 ⟨rfl, hb2⟩
            have hz2 := hb2.size
            go_wp2_with fail
            refine (C2.out w2 hb2).mono ?_
            rintro e w3 ⟨rfl, hb3⟩
            have hb13 := hb2.trans (hb3.mono hz2)
            have hcx3 := (hb13.cell (p := ⟨b, o, none⟩) hbl).trans hcx'
            clear hb2 hb3
            go_wp2_with fail
            refine (CI.out w3 hb13).mono ?_
            rintro e w4 ⟨rfl, hb4⟩
            have hb14 := hb13.trans (hb4.mono hb13.size)
            clear hb13 hb4
            go_wp2_with fail
            refine (C5.out w4 hb14).mono ?_
            rintro e w5 ⟨rfl, hb5⟩
            go_wp2_with fail
            go_ret
            exact ⟨by simp, hb1.trans ((hb14.trans (hb5.mono hb14.size)).mono hz1)⟩
end Go.Proofs.Ytlpbmnmhpknppaa
