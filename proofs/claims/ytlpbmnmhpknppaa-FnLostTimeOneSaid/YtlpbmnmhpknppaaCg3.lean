/- The generators of tables of clearance times: anyClear. -/
import Derived.Test.YtlpbmnmhpknppaaCg2
import Derived.Test.YtlpbmnmhpknppaaG4
import Derived.Test.YtlpbmnmhpknppaaG5
import Derived.StillTailTactics
set_option linter.unusedVariables false
set_option linter.unusedSimpArgs false
namespace Go.Proofs.Ytlpbmnmhpknppaa
open Go.RowKit

def ClearAny (w : World) (r p : Nat) (e : Ending) (w' : World) : Prop :=
  ∃ A n c q t, e = .returned (.slice A n c) ∧ Kept2 w' w.heap.size ILit A n c t ∧ n ≤ 8 ∧ q ≤ p + 300 ∧ Below w.heap.size (adv w r q) w'

set_option maxHeartbeats 4000000 in
theorem anyClear_c (w : World) (r n c p : Nat) (A : Option Addr) (bs : List Int) (hR : Rd w r A n c bs p) (hp : p ≤ 300000) :
    Calls Try.prog 50 #[.pointer (some ⟨r, 0, none⟩)] w (ClearAny w r p) := by
  have hlt := hR.lt
  go_enter Try.func50, Try.ntmps50
  go_wp2_with fail
  refine (one_lit_c _ r n c (p) A bs _ _ _ _ [4, 5, 3, 6, 2, 1, 8] (by rfl) (by rfl) (by decide) (by decide) (by (repeat' (first | (with_reducible exact hR) | (with_reducible exact RdX.of hR) | (with_reducible refine Rd.alloc ?_ _) | (with_reducible refine Rd.plus ?_ _ _) | (with_reducible refine Rd.drew ?_) | (with_reducible refine RdX.to ?_ _) | (with_reducible refine RdX.alloc ?_ _) | (with_reducible refine RdX.plus ?_ _ _) | (with_reducible refine RdX.adv ?_ _)))) (by omega) (by first | rfl | (simp; done) | (simp; omega))).mono ?_; rintro e w1 ⟨x1, hx1, rfl, os1, d1, rfl⟩
  have hx : 1 ≤ x1 ∧ x1 ≤ 8 := by simp at hx1; omega
  clear hx1
  obtain ⟨hx0, hx8⟩ := hx
  obtain ⟨m, rfl⟩ := Int.eq_ofNat_of_zero_le (show 0 ≤ x1 by omega)
  obtain ⟨w1, hw1⟩ : ∃ w1, plus (adv (w.alloc (.cells #[.int .i64 4, .int .i64 5, .int .i64 3, .int .i64 6, .int .i64 2, .int .i64 1, .int .i64 8] 3)) r (p + 1)) os1 d1 = w1 := ⟨_, rfl⟩
  have hb1 : Below w.heap.size (adv w r (p + 1)) w1 := by
    rw [← hw1, adv_alloc _ _ _ _ hlt]
    (repeat' (first | (with_reducible exact Below.refl _ _) | (with_reducible assumption) | (with_reducible refine Below.alloc ?_ ?_ _) | (with_reducible refine below_plus ?_ ?_ _ _) | (with_reducible refine Below.drew ?_) | (with_reducible refine Below.setCell ?_ ?_ _) | (with_reducible refine below_adv ?_ ?_ _) | go_size | (simp; done) | (simp; omega)))
  have hR1 := (hR.adv (p + 1)).below hb1 hlt
  have hz1 := hb1.size
  rw [size_adv] at hz1
  have hl1 := hR1.lt
  rw [hw1]
  clear hw1
  go_wp2_with fail
  refine (randomClear_c w1 r n c (p + 1) A bs m hR1 (by omega) (by omega) (by omega)).mono ?_
  rintro e w2 ⟨A2, c2, q2, t, rfl, hO2, hM, hq2, hb2⟩
  have hz2 := hb2.size
  rw [size_adv] at hz2
  have hb02 := (below_adv2 hb1 q2).trans (hb2.mono hz1)
  have HTL := Lib.hid hM.1
  have HSQ := Lib.hid hM.2.1
  clear hb1 hb2 hM
  go_wp2_with fail
  refine (pick_g w w2 r n c p q2 A bs 24 hR hb02 (by omega)).mono ?_
  rintro e w4 ⟨k, -, rfl, hb4, hg4⟩
  have hz4 : w2.heap.size ≤ w4.heap.size := by have := hg4.size; rw [size_adv] at this; exact this
  have hO4 : Ow2 w4 w1.heap.size w2.heap.size 35 3 ILit A2 m c2 t := hO2.keep fun b' h1 _ h2 => (hg4.block b' h2).trans (heap_adv _ _ _ _ (by omega))
  have hK4 := (hO4.less (lo' := w.heap.size) (by omega)).kept2 (by omega)
  obtain ⟨hcc0, hcc1⟩ := hO4.cap
  clear hO2 hg4 hb02
  by_cases k0 : k = 0
  · subst k0
    obtain ⟨r0, hr0⟩ : ∃ r0, t[0]? = some r0 := ⟨_, List.getElem?_eq_getElem (by rw [HTL.out]; omega)⟩
    have hrl : r0.length = m := by rw [sqB_all HSQ.out hr0, HTL.out]
    obtain ⟨g, ga, ca, rfl, hg0, hgl, hga0, hgal, hne, hca, cell1, celle, frz, hset⟩ := hO4.row (by decide) (by omega) hr0 (by omega)
    obtain ⟨y, hy⟩ : ∃ y, r0[0]? = some y := ⟨_, List.getElem?_eq_getElem (by omega)⟩
    have cell2 := celle 0 y hy
    have frz2 := frz 0
    have hO5 := hset 0 1 (by omega)
    have hK5 := (hO5.less (lo' := w.heap.size) (by omega)).kept2 (by simp [World.setCell]; omega)
    rw [hrl] at cell1 hca
    have HK := Lib.hid hK5
    have hm0 : (0 : Int) < (m : Int) := by omega
    have hb5 := hb4.setCell (p := ⟨ga, 0, none⟩) (show w.heap.size ≤ ga by omega) (.int .i64 1)
    clear hO4 hK4 hr0 hrl celle frz hset hy hO5 hK5
    go_wp2_with fail
    go_ret
    exact ⟨_, _, _, q2 + 1, _, rfl, HK.out, by omega, by omega, hb5⟩
  · by_cases k1 : k = 1
    · subst k1
      obtain ⟨m', rfl⟩ : ∃ m', m = m' + 1 := ⟨m - 1, by omega⟩
      obtain ⟨r0, hr0⟩ : ∃ r0, t[m']? = some r0 := ⟨_, List.getElem?_eq_getElem (by rw [HTL.out]; omega)⟩
      have hrl : r0.length = m' + 1 := by rw [sqB_all HSQ.out hr0, HTL.out]
      obtain ⟨g, ga, ca, rfl, hg0, hgl, hga0, hgal, hne, hca, cell1, celle, frz, hset⟩ := hO4.row (by decide) (by omega) hr0 (by omega)
      obtain ⟨y, hy⟩ : ∃ y, r0[0]? = some y := ⟨_, List.getElem?_eq_getElem (by omega)⟩
      have cell2 := celle 0 y hy
      have frz2 := frz 0
      rw [hrl] at cell1 hca
      have hm0 : (0 : Int) < ((m' : Int) + 1) := by omega
      have hm2 : ((m' : Int) + 1) - 1 = (m' : Int) := by omega
      have hR4 := (hR.adv (q2 + 1)).below hb4 hlt
      have n1 : (0 : Int) ≤ (m' : Int) := by omega
      have n2 : (m' : Int) < (m' : Int) + 1 := by omega
      have n3 : IntKind.i64.wrap (m' : Int) = (m' : Int) := IntWalk.i64_in _ (by omega)
      have HR0 := Lib.hid hr0
      have HRL := Lib.hid hrl
      have HO := Lib.hid hO4
      have HB4 := Lib.hid hb4
      have HR4 := Lib.hid hR4
      have hr4 : r < w4.heap.size := by omega
      clear hO4 hK4 hr0 hrl celle frz hset hy hb4 hR4
      go_wp2_with fail
      go_region_held3 (fun w' => w'.cell? ⟨g, m', none⟩ = some (.slice (some ⟨ga, 0, none⟩) (m' + 1) ca)) (first | go_keep | (exact hS5) | (rw [World.cell?_setCell_other _ _ _ _ (by first | (simp; done) | (simp; omega))]; assumption))
        ((go_at_call 74; refine (one_lit_c w4.drew r n c (q2 + 1) A bs _ _ _ _ [0, 5, 6, -1] (by rfl) (by rfl) (by decide) (by decide) HR4.out.drew (by omega) (by first | rfl | (simp; done) | (simp; omega))).mono ?_; rintro e w5 ⟨x, hxm, rfl, os5, d5, hw5⟩; have hb5 : Below w4.heap.size (adv w4 r (q2 + 1 + 1)) w5 := (by rw [← hw5, adv_alloc _ _ _ _ (show r < w4.drew.heap.size from hr4), adv_drew]; (repeat' (first | (with_reducible exact Below.refl _ _) | (with_reducible assumption) | (with_reducible refine Below.alloc ?_ ?_ _) | (with_reducible refine below_plus ?_ ?_ _ _) | (with_reducible refine Below.drew ?_) | (with_reducible refine Below.setCell ?_ ?_ _) | (with_reducible refine below_adv ?_ ?_ _) | go_size | (simp; done) | (simp; omega)))); have hS5 := (World.cell?_of_block (a := ⟨g, m', none⟩) ((hb5.block g hgl).trans (heap_adv _ _ _ _ (by omega)))).trans cell1; have cw5 := (World.cell?_of_block (a := ⟨ga, 0, none⟩) ((hb5.block ga hgal).trans (heap_adv _ _ _ _ (by omega)))).trans cell2; have fw5 := (World.frozen?_of_block (a := ⟨ga, 0, none⟩) ((hb5.block ga hgal).trans (heap_adv _ _ _ _ (by omega)))).trans frz2))
      have hz5 : w4.heap.size ≤ w5.heap.size := by have := hb5.size; rw [size_adv] at this; exact this
      have hO5 : Ow2 w5 w1.heap.size w2.heap.size 35 3 ILit (some ⟨g, 0, none⟩) (m' + 1) c2 t := HO.out.keep fun b' h1 _ h2 => (hb5.block b' h2).trans (heap_adv _ _ _ _ (by omega))
      have hO6 := hO5.store (by decide) (by omega) HR0.out (k := 0) (by rw [HRL.out]; omega) hS5 x
      have hK6 := (hO6.less (lo' := w.heap.size) (by omega)).kept2 (by simp [World.setCell]; omega)
      have HK := Lib.hid hK6
      have hb6 : Below w.heap.size (adv w r (q2 + 1 + 1)) w5 := (below_adv2 HB4.out (q2 + 1 + 1)).trans (hb5.mono (by omega))
      have hb7 := hb6.setCell (p := ⟨ga, 0, none⟩) (show w.heap.size ≤ ga by omega) (.int .i64 x)
      clear hO5 hO6 hK6 hb5 hb6 hS5 cw5 fw5 n3 hw5 cell1 cell2 frz2
      go_wp2_with fail
      go_ret
      exact ⟨_, _, _, q2 + 1 + 1, _, rfl, HK.out, by omega, by omega, hb7⟩
    · by_cases k2 : k = 2
      · subst k2
        have hd := hK4.drop (k := 1) (by omega)
        have hA2 : ∃ g, A2 = some ⟨g, 0, none⟩ := by
          obtain ⟨vs, h1, -, -⟩ := hO4
          obtain ⟨g, cs, hA, -⟩ := h1.2.2.2 (by omega)
          exact ⟨g, hA⟩
        obtain ⟨g, rfl⟩ := hA2
        by_cases hc1 : c2 = 1
        · rw [if_pos hc1] at hd
          rw [hc1] at hd
          have HD := Lib.hid hd
          clear hd hO4 hK4
          go_wp2_with fail
          go_ret
          exact ⟨_, _, _, q2 + 1, _, rfl, by simpa [hc1] using HD.out, by omega, by omega, hb4⟩
        · rw [if_neg hc1] at hd
          have HD := Lib.hid hd
          clear hd hO4 hK4
          go_wp2_with fail
          go_ret
          exact ⟨_, _, _, q2 + 1, _, rfl, HD.out, by omega, by omega, hb4⟩
      · have k0' : (k == 0) = false := by simpa using k0
        have k1' : (k == 1) = false := by simpa using k1
        have k2' : (k == 2) = false := by simpa using k2
        have HK := Lib.hid hK4
        clear hO4 hK4 k0 k1 k2
        go_wp2_with fail
        go_ret
        exact ⟨_, _, _, q2 + 1, _, rfl, HK.out, by omega, by omega, hb4⟩
end Go.Proofs.Ytlpbmnmhpknppaa
