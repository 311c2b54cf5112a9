/- The law GreenTime. -/
import Derived.Test.YtpfdhggejnbpbaaQg5
import Derived.Test.YtpfdhggejnbpbaaQs2
set_option linter.unusedVariables false
set_option linter.unusedSimpArgs false
namespace Go.Proofs.Ytpfdhggejnbpbaa
open Go.RowKit

theorem gtF_ok {t : List (List Int)} {ss : List (List Int × Int)} {x : Int} (h : ¬ gtF t ss x < 0) : planB t ss = true ∧ 0 ≤ x ∧ x < t.length ∧ gtF t ss x = gtUp t ss x (cycN t ss).toNat := by
  unfold gtF at h ⊢
  split
  · rename_i h2; exact ⟨h2.1, h2.2.1, h2.2.2, rfl⟩
  · rename_i h2
    rw [if_neg h2] at h
    omega
/-- What is known of a valid plan. -/
theorem plan_num {t : List (List Int)} {ss : List (List Int × Int)} (hok : planB t ss = true) : ∃ N : Nat, cycN t ss = (N : Int) ∧ 5 ≤ N ∧ N ≤ 225 ∧ sqB t = true ∧ inC t = true ∧ grOk ss ∧ 1 ≤ ss.length ∧ ss.length ≤ 5 ∧ cycF t ss = (N : Int) := by
  obtain ⟨p1, p2, p3, p4, p5, p6⟩ := plan_parts hok rfl rfl
  have hcb := cycUp_bd p2 p4 (t := t) ss.length
  have hcn : cycN t ss = cycUp t ss ss.length := rfl
  have hcl := cycUp_lt p2 p4 (t := t) (k := 0) (by omega)
  have hcm := cycUp_mono p2 p4 (t := t) (i := 0 + 1) (j := ss.length) (by omega) (Nat.le_refl _)
  have hc0 : cycUp t ss 0 = 0 := rfl
  exact ⟨(cycN t ss).toNat, by omega, by omega, by omega, p1, p2, p4, p5, p6, by rw [cycF, if_pos hok]; omega⟩

set_option maxHeartbeats 8000000 in
theorem greenTimeLaw_walk (A : Option Addr) (n c : Nat) (bs : List Int) (w : World) (hS : Sl w w.heap.size BLit A n c bs) (hbs : ∀ x ∈ bs, 0 ≤ x ∧ x ≤ 255) :
    Calls Try.prog 4 #[.slice A n c] w fun e w' => e = .returned (.bool true) ∧ Below w.heap.size w w' := by
  obtain ⟨hc0, hc1⟩ := hS.cap
  by_cases hn : 1048576 < n
  · go_enter Try.func4, Try.ntmps4
    go_wp2
    go_ret
    exact ⟨rfl, by (repeat' (first | (with_reducible exact Below.refl _ _) | (with_reducible assumption) | (with_reducible refine Below.alloc ?_ ?_ _) | (with_reducible refine below_plus ?_ ?_ _ _) | (with_reducible refine Below.drew ?_) | (with_reducible refine Below.setCell ?_ ?_ _) | (with_reducible refine below_adv ?_ ?_ _) | go_size | (simp; done) | (simp; omega)))⟩
  · go_enter Try.func4, Try.ntmps4
    go_wp2_with fail
    refine (dDrawGreenTime_c A n c bs w _ hS (Nat.le_refl _) hbs).mono ?_
    rintro e w1 ⟨At, m, ct, t, A2, n2, c2, ss, x, rfl, hK, hKS, hm8, hn1, hn5, hpl, hx0, hx1, hb1⟩
    have hz1 := hb1.size
    obtain ⟨W2, hW2⟩ : ∃ W2, w1.alloc (.cells #[.slice At m ct, .slice A2 n2 c2] 26) = W2 := ⟨_, rfl⟩
    have hb12 : Below w1.heap.size w1 W2 := by rw [← hW2]; (repeat' (first | (with_reducible exact Below.refl _ _) | (with_reducible assumption) | (with_reducible refine Below.alloc ?_ ?_ _) | (with_reducible refine below_plus ?_ ?_ _ _) | (with_reducible refine Below.drew ?_) | (with_reducible refine Below.setCell ?_ ?_ _) | (with_reducible refine below_adv ?_ ?_ _) | go_size | (simp; done) | (simp; omega)))
    have hT1 := (hK.here.below hb12).more hb12.size
    have hS1 := ((hKS w1 fun _ _ _ => rfl).below hb12).more hb12.size
    obtain ⟨hk0, hk1⟩ := hS1.cap
    obtain ⟨hct0, hct1⟩ := hT1.cap
    have hP2 : W2.heap[w1.heap.size]? = some (.cells #[.slice At m ct, .slice A2 n2 c2] 26 (0, 0)) := by rw [← hW2]; exact heap_alloc_new w1 _
    have hgP := lt_of_heap hP2
    have p0 : W2.cell? ⟨w1.heap.size, 0, none⟩ = some (.slice At m ct) := by rw [cell_of_row _ _ _ _ _ _ hP2]; rfl
    have p1 : W2.cell? ⟨w1.heap.size, 1, none⟩ = some (.slice A2 n2 c2) := by rw [cell_of_row _ _ _ _ _ _ hP2]; rfl
    have P0 := Lib.hid (fun (w' : World) (hb : Below W2.heap.size W2 w') => And.intro ((hb.cell (p := ⟨w1.heap.size, 0, none⟩) hgP).trans p0) ((hb.cell (p := ⟨w1.heap.size, 1, none⟩) hgP).trans p1))
    have hpl6 : ∀ s ∈ ss, s.1.length ≤ 1048576 := fun s hs => by have := hpl s hs; omega
    have htl := hT1.len
    have hlen := hS1.len
    have HT := Lib.hid hT1
    have HS := Lib.hid hS1
    have c1' := fun (x : Int) w' (hw : Below W2.heap.size W2 w') => greenTime_c At m ct t A2 n2 c2 ss x w' _ (HT.out.below hw) (HS.out.below hw) hw.size hpl6 (by omega)
    have c2' := fun w' (hw : Below W2.heap.size W2 w') => sGreenTime_c At m ct t A2 n2 c2 ss x w' _ (HT.out.below hw) (HS.out.below hw) hw.size hpl6 (by omega)
    have hb02 := hb1.trans (hb12.mono hz1)
    obtain ⟨V, hV⟩ : ∃ V, gtF t ss x = V := ⟨_, rfl⟩
    have C1 := Lib.hid (c1' x)
    have C2 := Lib.hid c2'
    rw [hV] at C1 C2
    have HB02 := Lib.hid hb02
    have HPL6 := Lib.hid hpl6
    clear hS hbs hP2 hK hKS hT1 hS1 c2' hb1 hb12 hb02
    by_cases hneg : V < 0
    · clear c1' hV hpl hpl6 htl hlen
      go_wp2_with fail
      clear hW2 p0 p1
      obtain ⟨q0, q1⟩ := P0.out W2 (Below.refl _ _)
      refine (C1.out W2 (Below.refl _ _)).mono ?_
      rintro e w2 ⟨rfl, hb2⟩
      have hz2 := hb2.size
      obtain ⟨q0, q1⟩ := P0.out w2 hb2
      go_wp2_with fail
      refine (C2.out w2 hb2).mono ?_
      rintro e w3 ⟨rfl, hb3⟩
      have hb23 := hb2.trans (hb3.mono hz2)
      clear q0 q1 hb2 hb3
      obtain ⟨q0, q1⟩ := P0.out w3 hb23
      go_wp2_with fail
      refine (C2.out w3 hb23).mono ?_
      rintro e w4 ⟨rfl, hb4⟩
      go_wp2_with fail
      go_ret
      exact ⟨rfl, HB02.out.trans ((hb23.trans (hb4.mono hb23.size)).mono HB02.out.size)⟩
    · rw [← hV] at hneg
      obtain ⟨hok, hx2, hx3, hv⟩ := gtF_ok hneg
      obtain ⟨N, hN, hN5, hN225, p1', p2', p4', -, -, hcf⟩ := plan_num hok
      rw [hN, Int.toNat_natCast, hV] at hv
      have hbd := gtUp_bd t ss x N
      have htot := gt_tot (x := x) p2' p4' hN
      have hzz := gt_zero (x := x) p2' p4' (by omega) hN
      have htb := totX_bd p4' ss.length (x := x)
      rw [hlen] at htot hzz htb
      rw [← hv] at hbd htot hzz
      have cc := fun w' (hw : Below W2.heap.size W2 w') => cycleOf_c At m ct t A2 n2 c2 ss w' _ (HT.out.below hw) (HS.out.below hw) hw.size hpl6
      rw [hcf] at cc
      have CC := Lib.hid cc
      have HGR := Lib.hid p4'
      have HPL := Lib.hid hpl
      obtain ⟨T, hT⟩ : ∃ T, totX ss x n2 = T := ⟨_, rfl⟩
      rw [hT] at htot hzz htb
      have HTT := Lib.hid hT
      rw [hV] at hneg
      clear c1' hV hpl hpl6 htl hlen hok hv p1' p2' p4' hcf cc hT hN
      go_wp2_with fail
      clear hW2 p0 p1
      refine (C1.out W2 (Below.refl _ _)).mono ?_
      rintro e w2 ⟨rfl, hb2⟩
      have hz2 := hb2.size
      obtain ⟨q0, q1⟩ := P0.out w2 hb2
      go_wp2_with fail
      refine (C2.out w2 hb2).mono ?_
      rintro e w3 ⟨rfl, hb3⟩
      have hb23 := hb2.trans (hb3.mono hz2)
      clear q0 q1 hb2 hb3 hz2 C1 C2
      obtain ⟨q0, q1⟩ := P0.out w3 hb23
      have hz3 := hb23.size
      go_wp2_with fail
      clear q0 q1
      go_loopw [6, 7] (fun l i wr => ∃ (k : Nat), k ≤ n2 ∧ i = .int .i64 k ∧ l = .int .i64 (totX ss x k) ∧ Below W2.heap.size W2 wr) (fun _ i _ => n2 - (intOf i).toNat)
      case atStart => exact ⟨0, by omega, rfl, rfl, hb23⟩
      case round =>
        clear hb23 hz3
        obtain ⟨k, hk, rfl, rfl, hb⟩ := hrel
        have hzr := hb.size
        obtain ⟨q0, q1⟩ := P0.out wr hb
        by_cases hlt : k < n2
        · obtain ⟨b, o, ph, g, A1, n1, c1, rfl, hbl, hx, hcell, hcellg, hrow⟩ := HS.out.at_ hlt
          have r1 := (hb.cell (p := ⟨b, o + k * 2, none⟩) hbl).trans hcell
          obtain ⟨e1, e2⟩ := phAt_of hx
          have HE : Hid (totX ss x (k + 1) = totX ss x k + if x ∈ ph then g else 0) := Lib.hid (by rw [totX, e1, e2])
          obtain ⟨g5, g40⟩ := HGR.out _ (List.mem_of_getElem? hx)
          have hp1 := HPL.out _ (List.mem_of_getElem? hx)
          simp only at hp1
          rw [hrow.len] at hp1
          obtain ⟨l0, l1⟩ := totX_bd HGR.out k (x := x)
          have ci := lIsIn_c A1 n1 c1 ph x wr _ (hrow.below hb) hzr (by omega)
          have HCG := Lib.hid hcellg
          have HB := Lib.hid hb
          by_cases hin : x ∈ ph
          · rw [decide_eq_true hin] at ci
            have hE2 := HE.out
            rw [if_pos hin] at hE2
            have HE2 := Lib.hid hE2
            have CI := Lib.hid ci
            clear ci hE2 hin hcell hcellg hrow hx e1 e2 hb
            go_wp2_with fail
            clear q0 q1 r1
            refine CI.out.mono ?_
            rintro e wa ⟨rfl, hba⟩
            have hbb := HB.out.trans (hba.mono hzr)
            have hza := hbb.size
            obtain ⟨q0, q1⟩ := P0.out wa hbb
            have r2 := (hbb.cell (p := ⟨b, o + k * 2 + 1, none⟩) hbl).trans HCG.out
            go_wp2_with fail
            go_roundw
            case rel => exact ⟨k + 1, by omega, by go_num, by rw [HE2.out], hbb⟩
            case measure => simp [intOf]; omega
          · rw [decide_eq_false hin] at ci
            have hE2 := HE.out
            rw [if_neg hin, Int.add_zero] at hE2
            have HE2 := Lib.hid hE2
            have CI := Lib.hid ci
            clear ci hE2 hin hcell hcellg hrow hx e1 e2 hb
            go_wp2_with fail
            clear q0 q1 r1
            refine CI.out.mono ?_
            rintro e wa ⟨rfl, hba⟩
            have hbb := HB.out.trans (hba.mono hzr)
            have hza := hbb.size
            go_wp2_with fail
            go_roundw
            case rel => exact ⟨k + 1, by omega, by go_num, by rw [HE2.out], hbb⟩
            case measure => simp [intOf]; omega
        · obtain rfl : k = n2 := by omega
          have hbb := HB02.out.trans (hb.mono HB02.out.size)
          have HBR := Lib.hid hb
          rw [HTT.out]
          clear hb
          by_cases hT0 : T = 0
          · obtain rfl : V = 0 := hzz.2 hT0
            subst hT0
            clear hzz
            go_wp2_with fail
            clear q0 q1
            refine (CC.out wr HBR.out).mono ?_
            rintro e wz ⟨rfl, hbz⟩
            go_wp2_with fail
            go_ret
            exact ⟨rfl, hbb.trans (hbz.mono hbb.size)⟩
          · have hV0 : ¬ V = 0 := fun h => hT0 (hzz.1 h)
            have b1 : (V == 0) = false := by simpa using hV0
            have b2 : (T == 0) = false := by simpa using hT0
            clear hzz
            go_wp2_with fail
            clear q0 q1
            refine (CC.out wr HBR.out).mono ?_
            rintro e wz ⟨rfl, hbz⟩
            go_wp2_with fail
            go_ret
            exact ⟨rfl, hbb.trans (hbz.mono hbb.size)⟩
end Go.Proofs.Ytpfdhggejnbpbaa
