/- The laws ChangeTime and ChangeTimeParts. -/
import Derived.Test.YtlpbmnmhpknppaaCg5
import Derived.Test.YtlpbmnmhpknppaaCd6
import Derived.Test.YtlpbmnmhpknppaaIl
set_option linter.unusedVariables false
set_option linter.unusedSimpArgs false
namespace Go.Proofs.Ytlpbmnmhpknppaa
open Go.RowKit

theorem fitsB_nil {t : List (List Int)} (h : cOk t = true) : fitsB t [] = true := by
  rw [fitsB_yes h]; simp [ascB, clearB, allB]
theorem changeF_neg {t : List (List Int)} {fr to : List Int} (h : changeF t fr to < 0) : changeF t fr to = -1 := by
  unfold changeF at h ⊢
  split
  · rename_i h2
    rw [if_pos h2] at h
    simp only [Bool.and_eq_true] at h2
    have := (changeN_bd (cOk_iff.1 (fitsB_ok h2.1)).2.2.2.1 fr to).1
    omega
  · rfl
theorem changeF_ok {t : List (List Int)} {fr to : List Int} (h : ¬ changeF t fr to < 0) : fitsB t fr = true ∧ fitsB t to = true ∧ changeF t fr to = changeN t fr to := by
  unfold changeF at h ⊢
  split
  · rename_i h2
    simp only [Bool.and_eq_true] at h2
    exact ⟨h2.1, h2.2, rfl⟩
  · rename_i h2
    rw [if_neg h2] at h
    omega

set_option maxHeartbeats 8000000 in
set_option maxRecDepth 100000 in
theorem changeTimeLaw_walk (A : Option Addr) (n c : Nat) (bs : List Int) (w : World) (hS : Sl w w.heap.size BLit A n c bs) (hbs : ∀ x ∈ bs, 0 ≤ x ∧ x ≤ 255) :
    Calls Try.prog 8 #[.slice A n c] w fun e w' => e = .returned (.bool true) ∧ Below w.heap.size w w' := by
  obtain ⟨hc0, hc1⟩ := hS.cap
  by_cases hn : 1048576 < n
  · go_enter Try.func8, Try.ntmps8
    go_wp2
    go_ret
    exact ⟨rfl, by (repeat' (first | (with_reducible exact Below.refl _ _) | (with_reducible assumption) | (with_reducible refine Below.alloc ?_ ?_ _) | (with_reducible refine below_plus ?_ ?_ _ _) | (with_reducible refine Below.drew ?_) | (with_reducible refine Below.setCell ?_ ?_ _) | (with_reducible refine below_adv ?_ ?_ _) | go_size | (simp; done) | (simp; omega)))⟩
  · go_enter Try.func8, Try.ntmps8
    go_wp2_with fail
    refine (drawChangeTime_c A n c bs w _ hS (Nat.le_refl _) hbs).mono ?_
    rintro e w1 ⟨A1, m, c1, t, A2, n2, c2, fr, A3, n3, c3, to, rfl, hT1, hF1, hG1, hm8, hn2, hn3, hb1⟩
    have hz1 := hb1.size
    obtain ⟨hm0, hm1⟩ := hT1.cap
    obtain ⟨hf0, hf1⟩ := hF1.cap
    obtain ⟨hg0, hg1⟩ := hG1.cap
    clear hS hbs
    have c1' := fun w' (hw : Below w1.heap.size w1 w') => changeTime_c A1 m c1 t A2 n2 c2 fr A3 n3 c3 to w' _ (hT1.below hw) (hF1.below hw) (hG1.below hw) hw.size (by omega) (by omega)
    have c2' := fun w' (hw : Below w1.heap.size w1 w') => sChangeTime_c A1 m c1 t A2 n2 c2 fr A3 n3 c3 to w' _ (hT1.below hw) (hF1.below hw) (hG1.below hw) hw.size (by omega) (by omega)
    by_cases hneg : changeF t fr to < 0
    · rw [changeF_neg hneg] at c1' c2'
      have C1 := Lib.hid c1'
      have C2 := Lib.hid c2'
      clear c1' c2' hneg hT1 hF1 hG1
      go_wp2_with fail
      refine (C1.out w1 (Below.refl _ _)).mono ?_
      rintro e w2 ⟨rfl, hb2⟩
      have hz2 := hb2.size
      go_wp2_with fail
      refine (C2.out w2 hb2).mono ?_
      rintro e w3 ⟨rfl, hb3⟩
      have hb13 := hb2.trans (hb3.mono hz2)
      go_wp2_with fail
      refine (C2.out w3 hb13).mono ?_
      rintro e w4 ⟨rfl, hb4⟩
      go_wp2_with fail
      go_ret
      exact ⟨rfl, hb1.trans ((hb13.trans (hb4.mono hb13.size)).mono hz1)⟩
    · obtain ⟨hok1, hok2, hv⟩ := changeF_ok hneg
      have hok := fitsB_ok hok1
      obtain ⟨-, -, hsq, hinc, -⟩ := cOk_iff.1 hok
      obtain ⟨hN0, hN5⟩ := changeN_bd hinc fr to
      have hat : ∀ a b, a ∈ fr → b ∈ to → a ∉ to → b ∉ fr → cAt t a.toNat b.toNat ≤ changeN t fr to := fun a b h1 h2 h3 h4 => changeN_at h1 h2 h3 h4
      rw [hv] at c1' c2'
      have hff : changeF t fr fr = 0 := by rw [changeF, if_pos (by simp [hok1]), changeN_self hinc]
      have hfn : changeF t fr [] = 0 := by rw [changeF, if_pos (by simp [hok1, fitsB_nil hok]), changeN_nil hinc]
      have c3' := fun w' (hw : Below w1.heap.size w1 w') => changeTime_c A1 m c1 t A2 n2 c2 fr A2 n2 c2 fr w' _ (hT1.below hw) (hF1.below hw) (hF1.below hw) hw.size (by omega) (by omega)
      have c4' := fun w' (hw : Below w1.heap.size w1 w') => changeTime_c A1 m c1 t A2 n2 c2 fr none 0 0 [] w' _ (hT1.below hw) (hF1.below hw) (Sl.nil _ _ _) hw.size (by omega) (by omega)
      rw [hff] at c3'
      rw [hfn] at c4'
      have hin1 := fitsB_in hok1
      have hin2 := fitsB_in hok2
      rw [hT1.len] at hin1 hin2
      obtain ⟨N, hN⟩ : ∃ N, changeN t fr to = N := ⟨_, rfl⟩
      rw [hN] at hN0 hN5 hat c1' c2'
      have HAT := Lib.hid hat
      have HI1 := Lib.hid hin1
      have HI2 := Lib.hid hin2
      have HSQ := Lib.hid hsq
      have C1 := Lib.hid c1'
      have C2 := Lib.hid c2'
      have C3 := Lib.hid c3'
      have C4 := Lib.hid c4'
      clear c1' c2' c3' c4' hneg hv hff hfn hN hat hin1 hin2 hok hok1 hok2 hsq hinc
      go_wp2_with fail
      refine (C1.out w1 (Below.refl _ _)).mono ?_
      rintro e w2 ⟨rfl, hb2⟩
      have hz2 := hb2.size
      go_wp2_with fail
      refine (C2.out w2 hb2).mono ?_
      rintro e w3 ⟨rfl, hb3⟩
      have hb13 := hb2.trans (hb3.mono hz2)
      have hz3 := hb13.size
      clear hb2 hb3 C1 C2
      go_wp2_with fail
      go_loopw [7] (fun i wr => ∃ (k : Nat), k ≤ n2 ∧ i = .int .i64 k ∧ Below w1.heap.size w1 wr) (fun i _ => n2 - (intOf i).toNat)
      case atStart => exact ⟨0, by omega, rfl, hb13⟩
      case round =>
        clear hb13 hz3
        obtain ⟨k, hk, rfl, hb⟩ := hrel
        have hzr := hb.size
        by_cases hlt : k < n2
        · go_wp2_with fail
          go_loopw [8] (fun i wr2 => ∃ (j : Nat), j ≤ n3 ∧ i = .int .i64 j ∧ Below w1.heap.size w1 wr2) (fun i _ => n3 - (intOf i).toNat)
          case atStart => exact ⟨0, by omega, rfl, hb⟩
          case round =>
            clear hb hzr
            obtain ⟨j, hj, rfl, hb⟩ := hrel
            have hzr := hb.size
            by_cases hjm : j < n3
            · obtain ⟨b, o, a, rfl, hbl, ha, hca⟩ := (hF1.below hb).at_ hlt
              obtain ⟨g, p, x, rfl, hgl, hx, hcx⟩ := (hG1.below hb).at_ hjm
              have hma := List.mem_of_getElem? ha
              have hmx := List.mem_of_getElem? hx
              obtain ⟨ha0, ha1⟩ := HI1.out a hma
              obtain ⟨hx0, hx1⟩ := HI2.out x hmx
              obtain ⟨a, rfl⟩ := Int.eq_ofNat_of_zero_le ha0
              obtain ⟨x, rfl⟩ := Int.eq_ofNat_of_zero_le hx0
              have r1 : wr.cell? ⟨b, o + k, none⟩ = some (.int .i64 (a : Int)) := hca
              have r2 : wr.cell? ⟨g, p + j, none⟩ = some (.int .i64 (x : Int)) := hcx
              have q1 : b < wr.heap.size := by omega
              have q2 : g < wr.heap.size := by omega
              have j0 : (0 : Int) ≤ (j : Int) := by omega
              have j1 : (j : Int) < (n3 : Int) := by omega
              have i0 : (0 : Int) ≤ (k : Int) := by omega
              have i1 : (k : Int) < (n2 : Int) := by omega
              have hbb := Lib.hid hb
              have HF := Lib.hid ((hF1.below hb).more (B' := wr.heap.size) hzr)
              have HG := Lib.hid ((hG1.below hb).more (B' := wr.heap.size) hzr)
              have HMA := Lib.hid hma
              have HMX := Lib.hid hmx
              clear hca hcx ha hx hma hmx
              by_cases hin : (a : Int) ∈ to
              · have CI := Lib.hid (fun (os : Array Obj) (d : Nat) => lIsIn_c _ n3 c3 to (a : Int) (plus wr os d) _ (HG.out.plus (Nat.le_refl _) os d) (by simp) (by omega))
                rw [decide_eq_true hin] at CI
                clear hb hF1 hG1 hT1 C3 C4
                go_wp2_with fail
                refine wp_region_plus (by kernel_rfl) (by kernel_rfl) ?_; (repeat (go_big_quiet_step ((go_at_call 36; exact quiet_plus (CI.out _ _))))); refine wpQuiet_nil ?_; intro _ hw'; obtain ⟨⟨osq, dq⟩, hw''⟩ := hw'; subst hw''
                go_wp2_with fail
                go_roundw
                case rel => exact ⟨j + 1, by omega, by go_num, by have hb := hbb.out; (repeat' (first | (with_reducible exact Below.refl _ _) | (with_reducible assumption) | (with_reducible refine Below.alloc ?_ ?_ _) | (with_reducible refine below_plus ?_ ?_ _ _) | (with_reducible refine Below.drew ?_) | (with_reducible refine Below.setCell ?_ ?_ _) | (with_reducible refine below_adv ?_ ?_ _) | go_size | (simp; done) | (simp; omega)))⟩
                case measure => simp [intOf]; omega
              · have CI := Lib.hid (fun (os : Array Obj) (d : Nat) => lIsIn_c _ n3 c3 to (a : Int) (plus wr os d) _ (HG.out.plus (Nat.le_refl _) os d) (by simp) (by omega))
                rw [decide_eq_false hin] at CI
                have CJ := Lib.hid (fun (os : Array Obj) (d : Nat) => lIsIn_c _ n2 c2 fr (x : Int) (plus wr os d) _ (HF.out.plus (Nat.le_refl _) os d) (by simp) (by omega))
                by_cases hix : (x : Int) ∈ fr
                · rw [decide_eq_true hix] at CJ
                  clear hb hF1 hG1 hT1 C3 C4
                  go_wp2_with fail
                  refine wp_region_plus (by kernel_rfl) (by kernel_rfl) ?_; (repeat (go_big_quiet_step ((first | (go_at_call 36; with_reducible exact quiet_plus (CI.out _ _)) | (go_at_call 36; with_reducible exact quiet_plus (CJ.out _ _)))))); refine wpQuiet_nil ?_; intro _ hw'; obtain ⟨⟨osq, dq⟩, hw''⟩ := hw'; subst hw''
                  go_wp2_with fail
                  go_roundw
                  case rel => exact ⟨j + 1, by omega, by go_num, by have hb := hbb.out; (repeat' (first | (with_reducible exact Below.refl _ _) | (with_reducible assumption) | (with_reducible refine Below.alloc ?_ ?_ _) | (with_reducible refine below_plus ?_ ?_ _ _) | (with_reducible refine Below.drew ?_) | (with_reducible refine Below.setCell ?_ ?_ _) | (with_reducible refine below_adv ?_ ?_ _) | go_size | (simp; done) | (simp; omega)))⟩
                  case measure => simp [intOf]; omega
                · rw [decide_eq_false hix] at CJ
                  obtain ⟨b1, o1, b2, o2, d2, ra, rfl, hl1, hl2, hra, hral, hrac, hrc, hrow⟩ := (hT1.below hb).entry HSQ.out (a := a) (by omega)
                  obtain ⟨y, hy⟩ : ∃ y, ra[x]? = some y := ⟨_, List.getElem?_eq_getElem (by omega)⟩
                  have r3 : wr.cell? ⟨b1, o1 + a, none⟩ = some (.slice (some ⟨b2, o2, none⟩) m d2) := hrc
                  have r4 : wr.cell? ⟨b2, o2 + x, none⟩ = some (.int .i64 y) := hrow x y hy
                  have q3 : b1 < wr.heap.size := by omega
                  have q4 : b2 < wr.heap.size := by omega
                  have hyN := HAT.out a x HMA.out HMX.out hin hix
                  rw [Int.toNat_natCast, Int.toNat_natCast, cAt_of hra hy] at hyN
                  have hyN2 : decide (N < y) = false := by simp; omega
                  have a1 : (a : Int) < (m : Int) := by omega
                  have x1 : (x : Int) < (m : Int) := by omega
                  clear hb hF1 hG1 hT1 C3 C4 hrc hrow hra hral hy hin hix
                  go_wp2_with fail
                  refine wp_region_plus (by kernel_rfl) (by kernel_rfl) ?_; (repeat (go_big_quiet_step ((first | (go_at_call 36; with_reducible exact quiet_plus (CI.out _ _)) | (go_at_call 36; with_reducible exact quiet_plus (CJ.out _ _)))))); refine wpQuiet_nil ?_; intro _ hw'; obtain ⟨⟨osq, dq⟩, hw''⟩ := hw'; subst hw''
                  go_wp2_with fail
                  go_roundw
                  case rel => exact ⟨j + 1, by omega, by go_num, by have hb := hbb.out; (repeat' (first | (with_reducible exact Below.refl _ _) | (with_reducible assumption) | (with_reducible refine Below.alloc ?_ ?_ _) | (with_reducible refine below_plus ?_ ?_ _ _) | (with_reducible refine Below.drew ?_) | (with_reducible refine Below.setCell ?_ ?_ _) | (with_reducible refine below_adv ?_ ?_ _) | go_size | (simp; done) | (simp; omega)))⟩
                  case measure => simp [intOf]; omega
            · obtain rfl : j = n3 := by omega
              go_wp2_with fail
              go_roundw
              case rel => exact ⟨k + 1, by omega, by go_num, hb⟩
              case measure => simp [intOf]; omega
        · obtain rfl : k = n2 := by omega
          clear hF1 hG1 hT1
          go_wp2_with fail
          refine (C3.out wr hb).mono ?_
          rintro e w5 ⟨rfl, hb5⟩
          have hb15 := hb.trans (hb5.mono hzr)
          go_wp2_with fail
          refine (C4.out w5 hb15).mono ?_
          rintro e w6 ⟨rfl, hb6⟩
          go_wp2_with fail
          go_ret
          exact ⟨rfl, hb1.trans ((hb15.trans (hb6.mono hb15.size)).mono hz1)⟩
end Go.Proofs.Ytlpbmnmhpknppaa
