/- The generator randomPlan. -/
import Derived.Test.YtckohbjgogbfaaaQg1
import Derived.Test.YtckohbjgogbfaaaPg
set_option linter.unusedVariables false
set_option linter.unusedSimpArgs false
namespace Go.Proofs.Ytckohbjgogbfaaa
open Go.RowKit

def PlanR (w : World) (r p : Nat) (At : Option Addr) (m ct : Nat) (e : Ending) (w' : World) : Prop :=
  ∃ v n q ss, e = .returned (.agg #[.slice At m ct, v]) ∧ StM w' w.heap.size v n ss ∧ 1 ≤ n ∧ n ≤ 5 ∧ (∀ s ∈ ss, s.1.length ≤ 8) ∧ q ≤ p + 100 ∧ Below w.heap.size (adv w r q) w'
theorem heap_three0 (w : World) (a b c : Obj) : (((w.alloc a).alloc b).alloc c).heap[w.heap.size]? = some a := by
  rw [Below.heap_alloc _ _ _ (by simp; omega)]; exact heap_two0 _ _ _
theorem heap_three1 (w : World) (a b c : Obj) : (((w.alloc a).alloc b).alloc c).heap[w.heap.size + 1]? = some b := by
  rw [Below.heap_alloc _ _ _ (by simp)]; exact heap_two1 _ _ _
theorem heap_three2 (w : World) (a b c : Obj) : (((w.alloc a).alloc b).alloc c).heap[w.heap.size + 1 + 1]? = some c := by
  have := heap_alloc_new ((w.alloc a).alloc b) c
  simpa using this

set_option maxHeartbeats 8000000 in
theorem randomPlan_c (w : World) (r n c p lo : Nat) (A : Option Addr) (bs : List Int) (hR : Rd w r A n c bs p) (hp : p ≤ 200000) (At : Option Addr) (m ct : Nat) (t : List (List Int)) (hK : Kept2 w lo ILit At m ct t) (hlo : r < lo) (hok : cOk t = true) :
    Calls Try.prog 46 #[.pointer (some ⟨r, 0, none⟩), .slice At m ct] w (PlanR w r p At m ct) := by
  have hlt := hR.lt
  obtain ⟨i2, hj, hj0, hj1, hj2⟩ := info_parts info_stage
  have HK := Lib.hid (fun (q : Nat) (wr : World) (hb : Below w.heap.size (adv w r q) wr) => (hK wr (fun b h1 h2 => (hb.block b h2).trans (heap_adv _ _ _ _ (by omega)))))
  have HOK := Lib.hid hok
  clear hK hok
  go_enter Try.func46, Try.ntmps46
  go_wp2_with fail
  refine (one_lit_c _ r n c (p) A bs _ _ _ _ [2, 3, 2, 4, 1, 5] (by rfl) (by rfl) (by decide) (by decide) (by (repeat' (first | (with_reducible exact hR) | (with_reducible exact RdX.of hR) | (with_reducible refine Rd.alloc ?_ _) | (with_reducible refine Rd.plus ?_ _ _) | (with_reducible refine Rd.drew ?_) | (with_reducible refine RdX.to ?_ _) | (with_reducible refine RdX.alloc ?_ _) | (with_reducible refine RdX.plus ?_ _ _) | (with_reducible refine RdX.adv ?_ _)))) (by omega) (by first | rfl | (simp; done) | (simp; omega))).mono ?_; rintro e w1 ⟨x1, hx1, rfl, os1, d1, rfl⟩
  have hx : 1 ≤ x1 ∧ x1 ≤ 5 := by simp at hx1; omega
  clear hx1
  obtain ⟨hx0, hx6⟩ := hx
  obtain ⟨x, rfl⟩ := Int.eq_ofNat_of_zero_le (show 0 ≤ x1 by omega)
  obtain ⟨w3', hw3'⟩ : ∃ w3', ((w.alloc (.cells #[.slice none 0 0, .slice none 0 0] 26)).alloc (.cells #[.slice At m ct, .slice none 0 0] 26)).alloc (.cells #[] 35) = w3' := ⟨_, rfl⟩
  obtain ⟨w1, hw1⟩ : ∃ w1, plus (adv (w3'.alloc (.cells #[.int .i64 2, .int .i64 3, .int .i64 2, .int .i64 4, .int .i64 1, .int .i64 5] 3)) r (p + 1)) os1 d1 = w1 := ⟨_, rfl⟩
  rw [hw3', hw1]
  have hz3 : w3'.heap.size = w.heap.size + 3 := by rw [← hw3']; simp
  have hP3 : w3'.heap[w.heap.size + 1]? = some (.cells #[.slice At m ct, .slice none 0 0] 26 (0, 0)) := by rw [← hw3']; exact heap_three1 _ _ _ _
  have hQ3 : w3'.heap[w.heap.size]? = some (.cells #[.slice none 0 0, .slice none 0 0] 26 (0, 0)) := by rw [← hw3']; exact heap_three0 _ _ _ _
  have hS3 : w3'.heap[w.heap.size + 1 + 1]? = some (.cells #[] 35 (0, 0)) := by rw [← hw3']; exact heap_three2 _ _ _ _
  have hb03 : Below w.heap.size w w3' := by rw [← hw3']; (repeat' (first | (with_reducible exact Below.refl _ _) | (with_reducible assumption) | (with_reducible refine Below.alloc ?_ ?_ _) | (with_reducible refine below_plus ?_ ?_ _ _) | (with_reducible refine Below.drew ?_) | (with_reducible refine Below.setCell ?_ ?_ _) | (with_reducible refine below_adv ?_ ?_ _) | go_size | (simp; done) | (simp; omega)))
  have hR3 := hR.below hb03 hlt
  have hb31 : Below w3'.heap.size (adv w3' r (p + 1)) w1 := by
    rw [← hw1, adv_alloc _ _ _ _ (by omega)]
    (repeat' (first | (with_reducible exact Below.refl _ _) | (with_reducible assumption) | (with_reducible refine Below.alloc ?_ ?_ _) | (with_reducible refine below_plus ?_ ?_ _ _) | (with_reducible refine Below.drew ?_) | (with_reducible refine Below.setCell ?_ ?_ _) | (with_reducible refine below_adv ?_ ?_ _) | go_size | (simp; done) | (simp; omega)))
  have hz31 := hb31.size
  rw [size_adv] at hz31
  have hb03' : Below w.heap.size (adv w r p) w3' := by rw [adv_self hR]; exact hb03
  have hb01 := (below_adv2 hb03' (p + 1)).trans (hb31.mono (by omega))
  have hR1 := (hR3.adv (p + 1)).below hb31 (by omega)
  have hk1 : ∀ g, g < w3'.heap.size → g ≠ r → w1.heap[g]? = w3'.heap[g]? := fun g h1 h2 => (hb31.block g h1).trans (heap_adv _ _ _ _ h2)
  have hP1 := (hk1 _ (by omega) (by omega)).trans hP3
  have hQ1 := (hk1 _ (by omega) (by omega)).trans hQ3
  have hS1 := (hk1 _ (by omega) (by omega)).trans hS3
  have hM1 : StM w1 (w.heap.size + 1 + 1) (.slice (some ⟨w.heap.size + 1 + 1, 0, none⟩) 0 0) 0 [] := StM.nil ⟨by simp, .inr ⟨_, 0, _, rfl, Nat.le_refl _, hS1, Nat.le_refl _, by unfold maxLen; omega, rfl, by simp⟩⟩
  have hz1 : w.heap.size + 3 ≤ w1.heap.size := by omega
  have hbq : Below (w.heap.size + 1 + 1) (adv w1 r (p + 1)) w1 := by rw [adv_self hR1]; exact Below.refl _ _
  have HP1 := Lib.hid hP1
  have HQ1 := Lib.hid hQ1
  clear hw1 hw3' hz3 hP3 hQ3 hS3 hb03 hb03' hR3 hb31 hz31 hk1 hP1 hQ1 hS1
  go_wp2_with fail
  go_loopw [6, 7] (fun v i wr => ∃ (k q : Nat) (ss : List (List Int × Int)), k ≤ x ∧ i = .int .i64 ((x - k : Nat) : Int) ∧ q ≤ p + 1 + 12 * k ∧ StM wr (w.heap.size + 1 + 1) v k ss ∧ Hid (∀ s ∈ ss, s.1.length ≤ 8) ∧ Below (w.heap.size + 1 + 1) (adv w1 r q) wr) (fun _ i _ => (intOf i).toNat)
  case atStart => exact ⟨0, p + 1, [], by omega, by simp, by omega, hM1, Lib.hid (by simp), hbq⟩
  case round =>
    clear hM1 hbq
    obtain ⟨k, q, ss, hk, rfl, hq, hM, hPL, hb⟩ := hrel
    have hzr := hb.size
    rw [size_adv] at hzr
    have hbw : Below w.heap.size (adv w r q) wr := (below_adv2 hb01 q).trans (hb.mono (by omega))
    by_cases hlt2 : k < x
    · obtain ⟨y, hy⟩ : ∃ y, x - k = y + 1 := ⟨x - k - 1, by omega⟩
      have HY2 := Lib.hid (show x - (k + 1) = y by omega)
      have hy6 : y ≤ 6 := by omega
      rw [hy]
      clear hy
      have hRr := (hR1.adv q).below hb (by omega)
      have C3 := Lib.hid (randomPhase_c wr r n c q A bs hRr (by omega) At m ct t _ (HK.out q wr hbw) (by omega) HOK.out)
      go_wp2_with fail
      refine C3.out.mono ?_
      rintro e w3 ⟨A3, n3, c3, q3, xs, rfl, hS3, hn3, hq3, hb3, hf3⟩
      have hz3 := hb3.size
      rw [size_adv] at hz3
      have hM3 := hM.go (by omega) hb3
      have hb03 := (below_adv2 hb q3).trans (hb3.mono (show w.heap.size + 1 + 1 ≤ wr.heap.size by omega))
      have hR3 := (hRr.adv q3).below hb3 (by omega)
      have hbs : Below w3.heap.size (adv w3 r q3) w3 := by rw [adv_self hR3]; exact Below.refl _ _
      have HF3 := Lib.hid hf3
      have HF := Lib.hid (hM.fresh hf3 (by omega))
      clear C3 hM hb hb3 hf3
      go_wp2_with fail
      refine (pick_g w3 w3 r n c q3 q3 A bs 9 hR3 hbs (by omega)).mono ?_
      rintro e w4 ⟨k9, ⟨hk90, hk91, -⟩, rfl, hb4, -⟩
      have hk92 := hk91 (by decide)
      have hz4 := hb4.size
      rw [size_adv] at hz4
      have hM4 := hM3.go (by omega) hb4
      have hb04 := (below_adv2 hb03 (q3 + 1)).trans (hb4.mono (show w.heap.size + 1 + 1 ≤ w3.heap.size by omega))
      have hS4 := ((hS3.adv (q := q3 + 1) (r := r) fun h b o hA => by have := HF3.out h b o hA; omega).below hb4).more (show w3.heap.size ≤ w4.heap.size by omega)
      obtain ⟨xs4, hv1, hv2⟩ := hM4
      have k9w : 5 + k9 ≤ 13 := by omega
      clear hS3 hM3 hb03 hb4 hbs
      go_wp2_with (at_builtin; refine wpList_app2_at (adv w1 r (q3 + 1)) w4 rfl _ _ 24 rfl 35 i2 (.agg #[.slice none 0 0, .int .i64 0]) 32 Try.underlying24 hj hj0 hj1 hj2 rfl (by decide) (w.heap.size + 1 + 1) _ k (fl xs4) (by rfl) hv1 _ _ rfl rfl _ (by rfl) rfl (by omega) hb04 (by omega) ?_; intro v8 w8 hO8 hb8 hg8 hv8)
      have hM8 := StM.app hv1 hv2 hS4 HF.out hO8 hg8 hv8
      have hP8 : Hid (∀ s ∈ ss ++ [(xs, 5 + k9)], s.1.length ≤ 8) := Lib.hid fun s hs => by
        rcases List.mem_append.1 hs with hs | hs
        · exact hPL.out s hs
        · simp at hs; subst hs; show xs.length ≤ 8; rw [hS4.len]; exact hn3
      clear hv1 hv2 hS4 hO8 hg8 hv8 hb04
      go_roundw
      case rel => exact ⟨k + 1, q3 + 1, _, by omega, by rw [HY2.out], by omega, hM8, hP8, hb8⟩
      case measure => simp [intOf]
    · obtain rfl : k = x := by omega
      have hkk : k - k = 0 := by omega
      rw [hkk]
      clear hkk
      have hkeep : ∀ g, g < w.heap.size + 1 + 1 → g ≠ r → wr.heap[g]? = w1.heap[g]? := fun g h1 h2 => (hb.block g h1).trans (heap_adv _ _ _ _ h2)
      have hPr := (hkeep _ (by omega) (by omega)).trans HP1.out
      have hQr := (hkeep _ (by omega) (by omega)).trans HQ1.out
      have cP0 : wr.cell? ⟨w.heap.size + 1, 0, none⟩ = some (.slice At m ct) := by rw [cell_of_row _ _ _ _ _ _ hPr]; rfl
      have cP1 : wr.cell? ⟨w.heap.size + 1, 1, none⟩ = some (.slice none 0 0) := by rw [cell_of_row _ _ _ _ _ _ hPr]; rfl
      have fP : ∀ i, wr.frozen? ⟨w.heap.size + 1, i, none⟩ = false := fun i => by simp [World.frozen?, hPr]
      have fP1 := fP 1
      have cQ0 : wr.cell? ⟨w.heap.size, 0, none⟩ = some (.slice none 0 0) := by rw [cell_of_row _ _ _ _ _ _ hQr]; rfl
      have cQ1 : wr.cell? ⟨w.heap.size, 1, none⟩ = some (.slice none 0 0) := by rw [cell_of_row _ _ _ _ _ _ hQr]; rfl
      have fQ0 : wr.frozen? ⟨w.heap.size, 0, none⟩ = false := by simp [World.frozen?, hQr]
      have fQ1 : wr.frozen? ⟨w.heap.size, 1, none⟩ = false := by simp [World.frozen?, hQr]
      obtain ⟨Av, cv, rfl, -⟩ := hM.slS
      have HM := Lib.hid hM
      have HB := Lib.hid hbw
      have HQr := Lib.hid hQr
      clear hkeep hPr hQr fP hM hb hbw
      go_wp2_with fail
      obtain ⟨X, hX⟩ : ∃ X, ((wr.setCell ⟨w.heap.size + 1, 1, none⟩ (.slice Av k cv)).setCell ⟨w.heap.size, 0, none⟩ (.slice At m ct)).setCell ⟨w.heap.size, 1, none⟩ (.slice Av k cv) = X := ⟨_, rfl⟩
      have hQX : X.heap[w.heap.size]? = some (.cells #[.slice At m ct, .slice Av k cv] 26 (0, 0)) := by
        rw [← hX]
        have e1 : (wr.setCell ⟨w.heap.size + 1, 1, none⟩ (.slice Av k cv)).heap[w.heap.size]? = some (.cells #[.slice none 0 0, .slice none 0 0] 26 (0, 0)) := (Below.heap_setCell wr ⟨w.heap.size + 1, 1, none⟩ _ _ (by show w.heap.size ≠ w.heap.size + 1; omega)).trans HQr.out
        have e2 := heap_setCell_same _ w.heap.size 0 _ _ (.slice At m ct) e1
        exact heap_setCell_same _ w.heap.size 1 _ _ (.slice Av k cv) e2
      have d0 : X.cell? ⟨w.heap.size, 0, none⟩ = some (.slice At m ct) := by rw [cell_of_row _ _ _ _ _ _ hQX]; rfl
      have d1 : X.cell? ⟨w.heap.size, 1, none⟩ = some (.slice Av k cv) := by rw [cell_of_row _ _ _ _ _ _ hQX]; rfl
      have hMX : StM X w.heap.size (.slice Av k cv) k ss := by
        rw [← hX]
        exact (((HM.out.low (by omega) _).low (by omega) _).low (by omega) _).mono (by omega)
      have hbX : Below w.heap.size (adv w r q) X := by
        rw [← hX]
        exact ((HB.out.setCell (show w.heap.size ≤ w.heap.size + 1 by omega) _).setCell (Nat.le_refl _) _).setCell (Nat.le_refl _) _
      rw [hX]
      clear hX hQX cP0 cP1 fP1 cQ0 cQ1 fQ0 fQ1
      refine bodyPost_ret (v := .agg #[.slice At m ct, .slice Av k cv]) (by simp [results, Try.results46, go_sem, d0, d1]; try rfl) rfl ?_
      exact ⟨_, _, q, ss, rfl, hMX, by omega, by omega, hPL.out, by omega, hbX⟩
end Go.Proofs.Ytckohbjgogbfaaa
