/- The law GreenTimeConflict. -/
import Derived.Test.YtpfdhggejnbpbaaQt1
set_option linter.unusedVariables false
set_option linter.unusedSimpArgs false
namespace Go.Proofs.Ytpfdhggejnbpbaa
open Go.RowKit

set_option maxHeartbeats 8000000 in
theorem greenTimeConflictLaw_walk (A : Option Addr) (n c : Nat) (bs : List Int) (w : World) (hS : Sl w w.heap.size BLit A n c bs) (hbs : ∀ x ∈ bs, 0 ≤ x ∧ x ≤ 255) :
    Calls Try.prog 3 #[.slice A n c] w fun e w' => e = .returned (.bool true) ∧ Below w.heap.size w w' := by
  obtain ⟨hc0, hc1⟩ := hS.cap
  by_cases hn : 1048576 < n
  · go_enter Try.func3, Try.ntmps3
    go_wp2
    go_ret
    exact ⟨rfl, by (repeat' (first | (with_reducible exact Below.refl _ _) | (with_reducible assumption) | (with_reducible refine Below.alloc ?_ ?_ _) | (with_reducible refine below_plus ?_ ?_ _ _) | (with_reducible refine Below.drew ?_) | (with_reducible refine Below.setCell ?_ ?_ _) | (with_reducible refine below_adv ?_ ?_ _) | go_size | (simp; done) | (simp; omega)))⟩
  · go_enter Try.func3, Try.ntmps3
    go_wp2_with fail
    refine (dDrawGreenTime_c A n c bs w _ hS (Nat.le_refl _) hbs).mono ?_
    rintro e w1 ⟨At, m, ct, t, A2, n2, c2, ss, x, rfl, hK, hKS, hm8, hn1, hn5, hpl, hx0, hx1, hb1⟩
    have hz1 := hb1.size
    obtain ⟨W2, hW2⟩ : ∃ W2, w1.alloc (.cells #[.slice At m ct, .slice A2 n2 c2] 26) = W2 := ⟨_, rfl⟩
    have hb12 : Below w1.heap.size w1 W2 := by rw [← hW2]; (repeat' (first | (with_reducible exact Below.refl _ _) | (with_reducible assumption) | (with_reducible refine Below.alloc ?_ ?_ _) | (with_reducible refine below_plus ?_ ?_ _ _) | (with_reducible refine Below.drew ?_) | (with_reducible refine Below.setCell ?_ ?_ _) | (with_reducible refine below_adv ?_ ?_ _) | go_size | (simp; done) | (simp; omega)))
    have hT1 := (hK.here.below hb12).more hb12.size
    have hS1 := ((hKS w1 fun _ _ _ => rfl).below hb12).more hb12.size
    obtain ⟨hk0, hk1⟩ := hS1.cap
    obtain ⟨hct0, hct1⟩ := hT1.cap
    have hP2 : W2.heap[w1.heap.size]? = some (.cells #[.slice At m ct, .slice A2 n2 c2] 26 (0, 0)) := by rw [← hW2]; exact heap_alloc_new w1 _
    have hgP := lt_of_heap hP2
    have p0 : W2.cell? ⟨w1.heap.size, 0, none⟩ = some (.slice At m ct) := by rw [cell_of_row _ _ _ _ _ _ hP2]; rfl
    have p1 : W2.cell? ⟨w1.heap.size, 1, none⟩ = some (.slice A2 n2 c2) := by rw [cell_of_row _ _ _ _ _ _ hP2]; rfl
    have P0 := Lib.hid (fun (w' : World) (hb : Below W2.heap.size W2 w') => And.intro ((hb.cell (p := ⟨w1.heap.size, 0, none⟩) hgP).trans p0) ((hb.cell (p := ⟨w1.heap.size, 1, none⟩) hgP).trans p1))
    have hpl6 : ∀ s ∈ ss, s.1.length ≤ 1048576 := fun s hs => by have := hpl s hs; omega
    have htl := hT1.len
    have hlen := hS1.len
    have HT := Lib.hid hT1
    have HS := Lib.hid hS1
    have c1' := fun (x : Int) w' (hw : Below W2.heap.size W2 w') => greenTime_c At m ct t A2 n2 c2 ss x w' _ (HT.out.below hw) (HS.out.below hw) hw.size hpl6 (by omega)
    have c2' := fun w' (hw : Below W2.heap.size W2 w') => sGreenTime_c At m ct t A2 n2 c2 ss x w' _ (HT.out.below hw) (HS.out.below hw) hw.size hpl6 (by omega)
    have hb02 := hb1.trans (hb12.mono hz1)
    obtain ⟨V, hV⟩ : ∃ V, gtF t ss x = V := ⟨_, rfl⟩
    have C1 := Lib.hid (c1' x)
    have C2 := Lib.hid c2'
    rw [hV] at C1 C2
    have HB02 := Lib.hid hb02
    have HPL6 := Lib.hid hpl6
    clear hS hbs hP2 hK hKS hT1 hS1 c2' hb1 hb12 hb02
    by_cases hneg : V ≤ 0
    · clear c1' hV hpl hpl6 htl hlen
      go_wp2_with fail
      clear hW2 p0 p1
      obtain ⟨q0, q1⟩ := P0.out W2 (Below.refl _ _)
      refine (C1.out W2 (Below.refl _ _)).mono ?_
      rintro e w2 ⟨rfl, hb2⟩
      have hz2 := hb2.size
      obtain ⟨q0, q1⟩ := P0.out w2 hb2
      go_wp2_with fail
      refine (C2.out w2 hb2).mono ?_
      rintro e w3 ⟨rfl, hb3⟩
      have hb23 := hb2.trans (hb3.mono hz2)
      clear q0 q1 hb2 hb3
      obtain ⟨q0, q1⟩ := P0.out w3 hb23
      go_wp2_with fail
      refine (C2.out w3 hb23).mono ?_
      rintro e w4 ⟨rfl, hb4⟩
      go_wp2_with fail
      go_ret
      exact ⟨rfl, HB02.out.trans ((hb23.trans (hb4.mono hb23.size)).mono HB02.out.size)⟩
    · have hneg' : ¬ gtF t ss x < 0 := by rw [hV]; omega
      obtain ⟨hok, hx2, hx3, hv⟩ := gtF_ok hneg'
      obtain ⟨N, hN, hN5, hN225, p1', p2', p4', -, -, hcf⟩ := plan_num hok
      rw [hN, Int.toNat_natCast, hV] at hv
      obtain ⟨a, rfl⟩ := Int.eq_ofNat_of_zero_le hx2
      have ham : a < m := by omega
      have hbd := gtUp_bd t ss a N
      rw [← hv] at hbd
      have HCR := Lib.hid (fun (k : Nat) (hk : k < m) (h1 : 0 < cAt t a k) (h2 : 0 < gtUp t ss k N) => conflict_room (x := (a : Int)) (y := (k : Int)) hok hN ⟨hx2, hx3⟩ (by omega) h1 (by rw [← hv]; omega) h2)
      have HGK := Lib.hid (fun (k : Nat) (hk : k < m) => show gtF t ss k = gtUp t ss k N by rw [gtF, if_pos ⟨hok, by omega, by omega⟩, hN, Int.toNat_natCast])
      have cc := fun w' (hw : Below W2.heap.size W2 w') => cycleOf_c At m ct t A2 n2 c2 ss w' _ (HT.out.below hw) (HS.out.below hw) hw.size hpl6
      rw [hcf] at cc
      have CC := Lib.hid cc
      have CK := Lib.hid c1'
      have HSQ := Lib.hid p1'
      have HIC := Lib.hid p2'
      have HVV := Lib.hid hv
      clear c1' hV hpl hpl6 htl hlen hok hv p1' p2' p4' hcf cc hN hneg' 
      go_wp2_with fail
      clear hW2 p0 p1
      refine (C1.out W2 (Below.refl _ _)).mono ?_
      rintro e w2 ⟨rfl, hb2⟩
      have hz2 := hb2.size
      obtain ⟨q0, q1⟩ := P0.out w2 hb2
      go_wp2_with fail
      refine (C2.out w2 hb2).mono ?_
      rintro e w3 ⟨rfl, hb3⟩
      have hb23 := hb2.trans (hb3.mono hz2)
      clear q0 q1 hb2 hb3 hz2 C1 C2
      obtain ⟨q0, q1⟩ := P0.out w3 hb23
      have hz3 := hb23.size
      go_wp2_with fail
      clear q0 q1
      go_loopw [6] (fun i wr => ∃ (k : Nat), k ≤ m ∧ i = .int .i64 k ∧ Below W2.heap.size W2 wr) (fun i _ => m - (intOf i).toNat)
      case atStart => exact ⟨0, by omega, rfl, hb23⟩
      case round =>
        clear hb23 hz3
        obtain ⟨k, hk, rfl, hb⟩ := hrel
        have hzr := hb.size
        obtain ⟨q0, q1⟩ := P0.out wr hb
        by_cases hlt : k < m
        · have ck := CK.out (k : Int) wr hb
          rw [HGK.out k hlt] at ck
          obtain ⟨K, hK⟩ : ∃ K, gtUp t ss k N = K := ⟨_, rfl⟩
          have hKb := gtUp_bd t ss k N
          rw [hK] at ck hKb
          have CG := Lib.hid ck
          have HB := Lib.hid hb
          have HKK := Lib.hid hK
          clear ck hb hK
          go_wp2_with fail
          clear q0 q1
          refine CG.out.mono ?_
          rintro e wa ⟨rfl, hba⟩
          have hbb := HB.out.trans (hba.mono hzr)
          have hza := hbb.size
          obtain ⟨q0, q1⟩ := P0.out wa hbb
          obtain ⟨b, o, b1, o1, d1, ra, rfl, hbl, hbl1, hra, hral, hrac, hcell, hrow⟩ := (HT.out.below hbb).entry HSQ.out ham
          obtain ⟨b', o', b2, o2, d2, rb, hA', hbl', hbl2, hrb, hrbl, hrbc, hcellB, hrowB⟩ := (HT.out.below hbb).entry HSQ.out hlt
          injection hA' with hA'
          injection hA' with hA1 hA2
          subst hA1 hA2
          obtain ⟨P, hP⟩ : ∃ P, ra[k]? = some P := ⟨_, List.getElem?_eq_getElem (by omega)⟩
          obtain ⟨Q, hQ⟩ : ∃ Q, rb[a]? = some Q := ⟨_, List.getElem?_eq_getElem (by omega)⟩
          have hPc := cAt_of hra hP
          have hQc := cAt_of hrb hQ
          have hPb := cAt_bd HIC.out a k
          have hQb := cAt_bd HIC.out k a
          have hroom := HCR.out k hlt
          simp only [Int.toNat_natCast] at hroom
          rw [hPc, hQc, HKK.out, ← HVV.out] at hroom
          rw [hPc] at hPb
          rw [hQc] at hQb
          have r1 : wa.cell? ⟨b, o + a, none⟩ = some (.slice (some ⟨b1, o1, none⟩) m d1) := hcell
          have r2 : wa.cell? ⟨b1, o1 + k, none⟩ = some (.int .i64 P) := hrow k P hP
          have r3 : wa.cell? ⟨b, o + k, none⟩ = some (.slice (some ⟨b2, o2, none⟩) m d2) := hcellB
          have r4 : wa.cell? ⟨b2, o2 + a, none⟩ = some (.int .i64 Q) := hrowB a Q hQ
          have u1 : b < wa.heap.size := by omega
          have u2 : b1 < wa.heap.size := by omega
          have u3 : b2 < wa.heap.size := by omega
          have u4 : w1.heap.size < wa.heap.size := by omega
          have j0 : (0 : Int) ≤ (a : Int) := by omega
          have j1 : (a : Int) < (m : Int) := by omega
          have i0 : (0 : Int) ≤ (k : Int) := by omega
          have i1 : (k : Int) < (m : Int) := by omega
          have C3 := Lib.hid (fun (os : Array Obj) (d : Nat) => CC.out (plus wa os d) (by (repeat' (first | (with_reducible exact Below.refl _ _) | (with_reducible assumption) | (with_reducible refine Below.alloc ?_ ?_ _) | (with_reducible refine below_plus ?_ ?_ _ _) | (with_reducible refine Below.drew ?_) | (with_reducible refine Below.setCell ?_ ?_ _) | (with_reducible refine below_adv ?_ ?_ _) | go_size | (simp; done) | (simp; omega)))))
          have HBB := Lib.hid hbb
          clear hcell hrow hcellB hrowB hra hrb hral hrbl hrac hrbc hP hQ hPc hQc hbb hba CG
          by_cases hP0 : P = 0
          · subst hP0
            clear hroom
            go_wp2_with fail
            refine wp_region_plus (by kernel_rfl) (by kernel_rfl) ?_; (repeat (go_big_quiet_step ((go_at_call 12; exact quiet_plus (C3.out _ _))))); refine wpQuiet_nil ?_; intro _ hw'; obtain ⟨⟨osq, dq⟩, hw''⟩ := hw'; subst hw''
            clear r1 r2 r3 r4 q0 q1
            go_wp2_with fail
            go_roundw
            case rel => exact ⟨k + 1, by omega, by go_num, by have hb := HBB.out; (repeat' (first | (with_reducible exact Below.refl _ _) | (with_reducible assumption) | (with_reducible refine Below.alloc ?_ ?_ _) | (with_reducible refine below_plus ?_ ?_ _ _) | (with_reducible refine Below.drew ?_) | (with_reducible refine Below.setCell ?_ ?_ _) | (with_reducible refine below_adv ?_ ?_ _) | go_size | (simp; done) | (simp; omega)))⟩
            case measure => simp [intOf]; omega
          · have hP1 : 0 < P := by omega
            have g1 : decide (0 < P) = true := by simpa using hP1
            by_cases hK0 : K = 0
            · subst hK0
              clear hroom
              go_wp2_with fail
              refine wp_region_plus (by kernel_rfl) (by kernel_rfl) ?_; (repeat (go_big_quiet_step ((go_at_call 12; exact quiet_plus (C3.out _ _))))); refine wpQuiet_nil ?_; intro _ hw'; obtain ⟨⟨osq, dq⟩, hw''⟩ := hw'; subst hw''
              clear r1 r2 r3 r4 q0 q1 g1
              go_wp2_with fail
              go_roundw
              case rel => exact ⟨k + 1, by omega, by go_num, by have hb := HBB.out; (repeat' (first | (with_reducible exact Below.refl _ _) | (with_reducible assumption) | (with_reducible refine Below.alloc ?_ ?_ _) | (with_reducible refine below_plus ?_ ?_ _ _) | (with_reducible refine Below.drew ?_) | (with_reducible refine Below.setCell ?_ ?_ _) | (with_reducible refine below_adv ?_ ?_ _) | go_size | (simp; done) | (simp; omega)))⟩
              case measure => simp [intOf]; omega
            · have hK1 : 0 < K := by omega
              have hr := hroom hP1 hK1
              have g2 : decide (0 < K) = true := by simpa using hK1
              have g3 : decide ((N : Int) < V + K + P + Q) = false := by simp; omega
              have s1 : IntKind.i64.wrap (V + K) = V + K := IntWalk.i64_in _ (by omega)
              have s2 : IntKind.i64.wrap (V + K + P) = V + K + P := IntWalk.i64_in _ (by omega)
              have s3 : IntKind.i64.wrap (V + K + P + Q) = V + K + P + Q := IntWalk.i64_in _ (by omega)
              clear hroom
              go_wp2_with fail
              refine wp_region_plus (by kernel_rfl) (by kernel_rfl) ?_; (repeat (go_big_quiet_step ((go_at_call 12; exact quiet_plus (C3.out _ _))))); refine wpQuiet_nil ?_; intro _ hw'; obtain ⟨⟨osq, dq⟩, hw''⟩ := hw'; subst hw''
              clear r1 r2 r3 r4 q0 q1 g1 g2 s1 s2 s3
              go_wp2_with fail
              go_roundw
              case rel => exact ⟨k + 1, by omega, by go_num, by have hb := HBB.out; (repeat' (first | (with_reducible exact Below.refl _ _) | (with_reducible assumption) | (with_reducible refine Below.alloc ?_ ?_ _) | (with_reducible refine below_plus ?_ ?_ _ _) | (with_reducible refine Below.drew ?_) | (with_reducible refine Below.setCell ?_ ?_ _) | (with_reducible refine below_adv ?_ ?_ _) | go_size | (simp; done) | (simp; omega)))⟩
              case measure => simp [intOf]; omega
        · obtain rfl : k = m := by omega
          have hbb := HB02.out.trans (hb.mono HB02.out.size)
          clear hb
          go_wp2_with fail
          go_ret
          exact ⟨rfl, hbb⟩
end Go.Proofs.Ytpfdhggejnbpbaa
