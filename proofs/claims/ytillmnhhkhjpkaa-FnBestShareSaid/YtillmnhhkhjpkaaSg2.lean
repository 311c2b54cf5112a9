/- The law BestShare. -/
import Derived.Test.YtillmnhhkhjpkaaSg1
set_option linter.unusedVariables false
set_option linter.unusedSimpArgs false
namespace Go.Proofs.Ytillmnhhkhjpkaa
open Go.RowKit

theorem equalNats_t (A : Option Addr) (n c : Nat) (xs : List Nat) (A2 : Option Addr) (n2 c2 : Nat) (w : World) (hS : Sl w w.heap.size NLit A n c xs) (hT : Sl w w.heap.size NLit A2 n2 c2 xs) :
    Calls Try.prog 6 #[.slice A n c, .slice A2 n2 c2] w fun e w' => e = .returned (.bool true) ∧ Below w.heap.size w w' :=
  (equalInts_c A n c _ A2 n2 c2 _ w _ _ hS.ints (Nat.le_refl _) hT.ints (Nat.le_refl _)).mono fun e w' h => ⟨by rw [h.1, eqL_true rfl], h.2⟩
set_option maxHeartbeats 8000000 in
set_option maxRecDepth 100000 in
theorem bestShareLaw_walk (A : Option Addr) (n c : Nat) (bs : List Int) (w : World) (hS : Sl w w.heap.size BLit A n c bs) (hbs : ∀ x ∈ bs, 0 ≤ x ∧ x ≤ 255) :
    Calls Try.prog 3 #[.slice A n c] w fun e w' => e = .returned (.bool true) ∧ Below w.heap.size w w' := by
  obtain ⟨hc0, hc1⟩ := hS.cap
  by_cases hn : 1048576 < n
  · go_enter Try.func3, Try.ntmps3
    go_wp2
    go_ret
    exact ⟨rfl, by (repeat' (first | (with_reducible exact Below.refl _ _) | (with_reducible assumption) | (with_reducible refine Below.alloc ?_ ?_ _) | (with_reducible refine below_plus ?_ ?_ _ _) | (with_reducible refine Below.drew ?_) | (with_reducible refine Below.setCell ?_ ?_ _) | (with_reducible refine below_adv ?_ ?_ _) | go_size | (simp; done) | (simp; omega)))⟩
  · go_enter Try.func3, Try.ntmps3
    go_wp2_with fail
    refine (drawBestShare_c A n c bs w _ hS (Nat.le_refl _) hbs).mono ?_
    rintro e w1 ⟨A1, nc, c1, cars, A2, n2, c2, cs, rfl, hC1, hL1, hnc, hn2, hb1⟩
    have hz1 := hb1.size
    obtain ⟨hf0, hf1⟩ := hC1.cap
    obtain ⟨hg0, hg1⟩ := hL1.cap
    have hlc := hC1.len
    have hll := hL1.len
    clear hS hbs
    have c1' := fun w' (hw : Below w1.heap.size w1 w') => bestShare_c A1 nc c1 cars A2 n2 c2 cs w' _ (hC1.below hw) (hL1.below hw) hw.size (by omega)
    have c2' := fun w' (hw : Below w1.heap.size w1 w') => sBestShare_c A1 nc c1 cars A2 n2 c2 cs w' _ (hC1.below hw) (hL1.below hw) hw.size (by omega) (by omega)
    by_cases hr : bestS cars cs = []
    · rw [hr] at c1' c2'
      have C1 := Lib.hid c1'
      have C2 := Lib.hid c2'
      clear c1' c2' hr hC1 hL1 hlc hll
      go_wp2_with fail
      refine (C1.out w1 (Below.refl _ _)).mono ?_
      rintro e w2 ⟨A4, n4, c4, rfl, hO2, hb2⟩
      have hz2 := hb2.size
      have hn4 : n4 = 0 := by rw [← hO2.len]; rfl
      subst hn4
      go_wp2_with fail
      refine (C2.out w2 hb2).mono ?_
      rintro e w3 ⟨A5, n5, c5, rfl, hS3, hb3⟩
      have hb13 := hb2.trans (hb3.mono hz2)
      have hz3 := hb3.size
      have hO23 := (hO2.below hb3).more hz3
      have E1 := Lib.hid (equalNats_t A4 0 c4 [] A5 n5 c5 w3 hO23 hS3)
      clear hb2 hb3 hO2 hS3
      go_wp2_with fail
      refine E1.out.mono ?_
      rintro e w4 ⟨rfl, hb4⟩
      have hb14 := hb13.trans (hb4.mono hb13.size)
      have hO24 := (hO23.below hb4).more hb4.size
      clear E1 hO23 hb13 hb4
      go_wp2_with fail
      refine (C2.out w4 hb14).mono ?_
      rintro e w5 ⟨A6, n6, c6, rfl, hS5, hb5⟩
      have hb15 := hb14.trans (hb5.mono hb14.size)
      have E2 := Lib.hid (equalNats_t A4 0 c4 [] A6 n6 c6 w5 ((hO24.below hb5).more hb5.size) hS5)
      clear hO24 hS5 hb14 hb5
      go_wp2_with fail
      refine E2.out.mono ?_
      rintro e w6 ⟨rfl, hb6⟩
      go_wp2_with fail
      go_ret
      exact ⟨rfl, hb1.trans ((hb15.trans (hb6.mono hb15.size)).mono hz1)⟩
    · obtain ⟨hok, hbl, h0, hbf⟩ := bestS_fits hr
      obtain ⟨⟨k1, k3, -⟩, h6, -⟩ := okS_iff.1 hok
      have hle := best_le hok
      obtain ⟨R, hR⟩ : ∃ R, bestS cars cs = R := ⟨_, rfl⟩
      rw [hR] at c1' c2' hbl hbf hle
      rw [hlc] at k1 k3 hbf hle
      rw [hll] at h6 h0 hbl hle
      have hGp := gCost_pos cars cs R
      have cS := fun (A3 : Option Addr) (c3 : Nat) (ss : List Nat) w' (hw : Below w1.heap.size w1 w') (hU : Sl w' w'.heap.size NLit A3 n2 c3 ss) (hss : ∀ s ∈ ss, s < nc) => shareCost_c A1 nc c1 cars A2 n2 c2 cs A3 c3 ss w' w'.heap.size ((hC1.below hw).more hw.size) ((hL1.below hw).more hw.size) hU (Nat.le_refl _) (by omega) hok hss
      obtain ⟨G, hG⟩ : ∃ G, gCost cars cs R = G := ⟨_, rfl⟩
      rw [hG] at hle hGp
      have CR := Lib.hid (fun (A3 : Option Addr) (c3 : Nat) w' (hw : Below w1.heap.size w1 w') (hU : Sl w' w'.heap.size NLit A3 n2 c3 R) => show Calls Try.prog 8 #[.slice A1 nc c1, .slice A2 n2 c2, .slice A3 n2 c3] w' (fun e w'' => e = .returned (.int .i64 G) ∧ Below w'.heap.size w' w'') from by
        have := cS A3 c3 R w' hw hU hbf
        rwa [hG] at this)
      have CS := Lib.hid (fun (A3 : Option Addr) (c3 : Nat) (ss : List Nat) w' (hw : Below w1.heap.size w1 w') (hU : Sl w' w'.heap.size NLit A3 n2 c3 ss) (hss : ∀ s ∈ ss, s < nc) => show Calls Try.prog 8 #[.slice A1 nc c1, .slice A2 n2 c2, .slice A3 n2 c3] w' (fun e w'' => ∃ X, G ≤ X ∧ e = .returned (.int .i64 X) ∧ Below w'.heap.size w' w'') from
        (cS A3 c3 ss w' hw hU hss).mono fun e w'' h => ⟨_, hle ss hU.len hss, h.1, h.2⟩)
      have CG := Lib.hid (fun w' (hw : Below w1.heap.size w1 w') => greedy_c A1 nc c1 cars A2 n2 c2 cs w' w'.heap.size ((hC1.below hw).more hw.size) ((hL1.below hw).more hw.size) (Nat.le_refl _) (by omega) hok)
      have C1 := Lib.hid c1'
      have C2 := Lib.hid c2'
      have HBL := Lib.hid hbl
      obtain ⟨i0, hi, hi0, hi1, hi2⟩ := info_parts info_int
      clear c1' c2' hr hR hC1 hL1 hlc hll cS hok hbl hbf hle hG
      go_wp2_with fail
      refine (C1.out w1 (Below.refl _ _)).mono ?_
      rintro e w2 ⟨A4, n4, c4, rfl, hO2, hb2⟩
      have hz2 := hb2.size
      have hn4 : n4 = n2 := by rw [← hO2.len]; exact HBL.out
      subst hn4
      go_wp2_with fail
      refine (C2.out w2 hb2).mono ?_
      rintro e w3 ⟨A5, n5, c5, rfl, hS3, hb3⟩
      have hb13 := hb2.trans (hb3.mono hz2)
      have hz3 := hb3.size
      have hO23 := (hO2.below hb3).more hz3
      have E1 := Lib.hid (equalNats_t A4 n4 c4 R A5 n5 c5 w3 hO23 hS3)
      clear hb2 hb3 hO2 hS3
      go_wp2_with fail
      refine E1.out.mono ?_
      rintro e w4 ⟨rfl, hb4⟩
      have hb14 := hb13.trans (hb4.mono hb13.size)
      have hO24 := (hO23.below hb4).more hb4.size
      have hz14 := hb14.size
      have hne0 : ((n4 : Int) == 0) = false := by simp; omega
      have hne1 : ¬ (n4 : Int) = 0 := by omega
      clear E1 hO23 hb13 hb4 C1 C2
      go_wp2_with fail
      refine (CR.out A4 c4 w4 hb14 hO24).mono ?_
      rintro e w5 ⟨rfl, hb5⟩
      have hb15 := hb14.trans (hb5.mono hz14)
      have hz15 := hb15.size
      clear hb14 hb5 hO24 CR hne0 hne1
      go_wp2_with fail
      go_loopw [7] (fun i wr => ∃ k : Nat, k ≤ nc ∧ i = .int .i64 k ∧ Below w1.heap.size w1 wr) (fun i _ => nc - (intOf i).toNat)
      case atStart => exact ⟨0, by omega, rfl, hb15⟩
      case round =>
        obtain ⟨k, hk, rfl, hb⟩ := hrel
        have hzr := hb.size
        by_cases hlt : k < nc
        · obtain ⟨wq, rfl⟩ : ∃ wq, wq = wr := ⟨_, rfl⟩
          go_wp2_with fail
          go_loopw [8, 9] (fun v i wr => ∃ (j : Nat) (ss : List Nat), j ≤ n4 ∧ i = .int .i64 j ∧ Below wq.heap.size wq wr ∧ wr.ownsRow wq.heap.size 3 1 v j (ss.map NLit) ∧ Hid (∀ s ∈ ss, s < nc)) (fun _ i _ => n4 - (intOf i).toNat)
          case atStart =>
            exact ⟨0, [], by omega, rfl, by (repeat' (first | (with_reducible exact Below.refl _ _) | (with_reducible assumption) | (with_reducible refine Below.alloc ?_ ?_ _) | (with_reducible refine below_plus ?_ ?_ _ _) | (with_reducible refine Below.drew ?_) | (with_reducible refine Below.setCell ?_ ?_ _) | (with_reducible refine below_adv ?_ ?_ _) | go_size | (simp; done) | (simp; omega))), World.ownsRow_made (base := wq.heap.size) (e := 3) (size := 1) wq #[] 0 (Nat.le_refl _) (by decide) rfl, Lib.hid (by simp)⟩
          case round =>
            obtain ⟨j, ss, hj, rfl, hbq, hB, hss⟩ := hrel
            have hzq := hbq.size
            by_cases hlt2 : j < n4
            · have hP : j * k ≤ 6 * 3 := Nat.mul_le_mul (by omega) (by omega)
              have hPw : IntKind.i64.wrap ((j : Int) * (k : Int)) = ((j * k : Nat) : Int) := by
                rw [IntWalk.i64_in _ (by rw [← Int.natCast_mul]; omega)]; simp
              obtain ⟨P, hPP⟩ : ∃ P, j * k = P := ⟨_, rfl⟩
              rw [hPP] at hP hPw
              have hSw : IntKind.i64.wrap ((P : Int) + (n : Int)) = (P : Int) + (n : Int) := IntWalk.i64_in _ (by omega)
              have hRl : (P + n) % nc < nc := Nat.mod_lt _ (by omega)
              obtain ⟨R', hR'⟩ : ∃ R', (P + n) % nc = R' := ⟨_, rfl⟩
              have t1 : ((P : Int) + (n : Int)).tmod (nc : Int) = (R' : Int) := by rw [← hR']; rfl
              have t2 : ((P : Int) + (n : Int)) % (nc : Int) = (R' : Int) := by rw [← hR']; simp
              rw [hR'] at hRl
              have z1 : ((nc : Int) == 0) = false := by simp; omega
              have z2 : ¬ (nc : Int) = 0 := by omega
              have HSS : Hid (∀ s ∈ ss ++ [R'], s < nc) := Lib.hid (fun s hs => by
                rcases List.mem_append.1 hs with h | h
                · exact hss.out s h
                · simp at h; subst h; exact hRl)
              clear hPP hR'
              go_wp2_with (at_builtin; refine wpList_app1 wq wr rfl _ _ 23 rfl 3 i0 (.int .i64 0) 8 Try.underlying23 hi hi0 hi1 hi2 rfl (by decide) wq.heap.size _ j _ (by rfl) hB (.int .i64 (R' : Int)) rfl _ (by rfl) rfl (by omega) hbq hzq ?_; intro v5 w6 hB5 hb6 hg5)
              rw [nats_snoc] at hB5
              clear hPw hSw t1 t2 z1 z2 hB
              go_roundw
              case rel => exact ⟨j + 1, _, by omega, by go_num, hb6, hB5, HSS⟩
              case measure => simp [intOf]; omega
            · obtain rfl : j = n4 := by omega
              obtain ⟨A', c', rfl, hO⟩ := Ow.of_own hB
              have hb1r := hb.trans (hbq.mono hzr)
              have C := Lib.hid (CS.out A' c' ss wr hb1r hO.sl hss.out)
              clear hB hO hbq
              go_wp2_with fail
              refine C.out.mono ?_
              rintro e w6 ⟨X, hX, rfl, hb6⟩
              have hb16 := hb1r.trans (hb6.mono hb1r.size)
              have hXG : ¬ X < G := by omega
              clear C hb6
              go_wp2_with fail
              go_roundw
              case rel => exact ⟨k + 1, by omega, by go_num, hb16⟩
              case measure => simp [intOf]; omega
        · obtain rfl : k = nc := by omega
          go_wp2_with fail
          refine (CG.out wr hb).mono ?_
          rintro e w6 ⟨A', c', ss, rfl, hU, hss, hb6⟩
          have hb16 := hb.trans (hb6.mono hzr)
          have C := Lib.hid (CS.out A' c' ss w6 hb16 hU hss)
          clear hU hss hb6
          go_wp2_with fail
          refine C.out.mono ?_
          rintro e w7 ⟨X, hX, rfl, hb7⟩
          have hb17 := hb16.trans (hb7.mono hb16.size)
          clear C hb7
          go_wp2_with fail
          go_ret
          exact ⟨by simp [hX], hb1.trans (hb17.mono hz1)⟩
end Go.Proofs.Ytillmnhhkhjpkaa
