/- The generators anyPlan, DrawValidPlan, DrawCycleOf. -/
import Derived.Test.YtckohbjgogbfaaaQg2
set_option linter.unusedVariables false
set_option linter.unusedSimpArgs false
namespace Go.Proofs.Ytckohbjgogbfaaa
open Go.RowKit

theorem Kept2.move {α : Type} {w w' : World} {lo lo' n c : Nat} {f : α → Value} {A : Option Addr} {t : List (List α)} (h : Kept2 w lo f A n c t) (hl : lo' ≤ lo) (hz : w.heap.size ≤ w'.heap.size) (hag : ∀ b, lo ≤ b → b < w.heap.size → w'.heap[b]? = w.heap[b]?) : Kept2 w' lo' f A n c t :=
  fun w2 h2 => (h w2 fun b h3 h4 => (h2 b (by omega) (by omega)).trans (hag b h3 h4)).more hz
theorem KeptS.move {w w' : World} {lo lo' n c : Nat} {A : Option Addr} {ss : List (List Int × Int)} (h : KeptS w lo A n c ss) (hl : lo' ≤ lo) (hz : w.heap.size ≤ w'.heap.size) (hag : ∀ b, lo ≤ b → b < w.heap.size → w'.heap[b]? = w.heap[b]?) : KeptS w' lo' A n c ss :=
  fun w2 h2 => (h w2 fun b h3 h4 => (h2 b (by omega) (by omega)).trans (hag b h3 h4)).more hz
theorem below_undrew2 {w w2 : World} {r q : Nat} (h : Below w.drew.heap.size (adv w.drew r q) w2) : Below w.heap.size (adv w r q) w2 := ⟨h.os, h.tape, h.output, h.size, h.block⟩

/-- The end: the plan laid into the result's variable. -/
theorem fin_plan {w Y a : World} {m ct n c : Nat} {At A : Option Addr} {t : List (List Int)} {ss : List (List Int × Int)} (hQ : Y.heap[w.heap.size]? = some (.cells #[.slice none 0 0, .slice none 0 0] 26 (0, 0)))
    (hK : Kept2 Y (w.heap.size + 1) ILit At m ct t) (hS : KeptS Y (w.heap.size + 1) A n c ss) (hb : Below w.heap.size a Y) {X : World} (hX : (Y.setCell ⟨w.heap.size, 0, none⟩ (.slice At m ct)).setCell ⟨w.heap.size, 1, none⟩ (.slice A n c) = X) :
    X.cell? ⟨w.heap.size, 0, none⟩ = some (.slice At m ct) ∧ X.cell? ⟨w.heap.size, 1, none⟩ = some (.slice A n c) ∧ Kept2 X w.heap.size ILit At m ct t ∧ KeptS X w.heap.size A n c ss ∧ Below w.heap.size a X := by
  have e2 := heap_setCell_same _ w.heap.size 0 _ _ (.slice At m ct) hQ
  have hQX : X.heap[w.heap.size]? = some (.cells #[.slice At m ct, .slice A n c] 26 (0, 0)) := by
    rw [← hX]; exact heap_setCell_same _ w.heap.size 1 _ _ (.slice A n c) e2
  have hz : X.heap.size = Y.heap.size := by rw [← hX]; simp [World.setCell]
  have hag : ∀ b, w.heap.size + 1 ≤ b → b < Y.heap.size → X.heap[b]? = Y.heap[b]? := fun b h1 _ => by
    rw [← hX]
    exact (Below.heap_setCell _ ⟨w.heap.size, 1, none⟩ _ b (by show b ≠ w.heap.size; omega)).trans (Below.heap_setCell _ ⟨w.heap.size, 0, none⟩ _ b (by show b ≠ w.heap.size; omega))
  refine ⟨by rw [cell_of_row _ _ _ _ _ _ hQX]; rfl, by rw [cell_of_row _ _ _ _ _ _ hQX]; rfl, hK.move (by omega) (by omega) hag, hS.move (by omega) (by omega) hag, ?_⟩
  rw [← hX]
  exact (hb.setCell (Nat.le_refl _) _).setCell (Nat.le_refl _) _

def PlanD (w : World) (r p : Nat) (e : Ending) (w' : World) : Prop :=
  ∃ At m ct t A n c ss q, e = .returned (.agg #[.slice At m ct, .slice A n c]) ∧ Kept2 w' w.heap.size ILit At m ct t ∧ KeptS w' w.heap.size A n c ss ∧ m ≤ 8 ∧ 1 ≤ n ∧ n ≤ 5 ∧ (∀ s ∈ ss, s.1.length ≤ 9) ∧ q ≤ p + 900 ∧ Below w.heap.size (adv w r q) w'

set_option maxHeartbeats 8000000 in
theorem anyPlan_c (w : World) (r n c p : Nat) (A : Option Addr) (bs : List Int) (hR : Rd w r A n c bs p) (hp : p ≤ 100000) :
    Calls Try.prog 23 #[.pointer (some ⟨r, 0, none⟩)] w (PlanD w r p) := by
  have hlt := hR.lt
  go_enter Try.func23, Try.ntmps23
  go_wp2_with fail
  refine (one_lit_c _ r n c (p) A bs _ _ _ _ [4, 3, 5, 2, 1, 6] (by rfl) (by rfl) (by decide) (by decide) (by (repeat' (first | (with_reducible exact hR) | (with_reducible exact RdX.of hR) | (with_reducible refine Rd.alloc ?_ _) | (with_reducible refine Rd.plus ?_ _ _) | (with_reducible refine Rd.drew ?_) | (with_reducible refine RdX.to ?_ _) | (with_reducible refine RdX.alloc ?_ _) | (with_reducible refine RdX.plus ?_ _ _) | (with_reducible refine RdX.adv ?_ _)))) (by omega) (by first | rfl | (simp; done) | (simp; omega))).mono ?_; rintro e w1 ⟨x1, hx1, rfl, os1, d1, rfl⟩
  have hx : 1 ≤ x1 ∧ x1 ≤ 6 := by simp at hx1; omega
  clear hx1
  obtain ⟨hx0, hx6⟩ := hx
  obtain ⟨m, rfl⟩ := Int.eq_ofNat_of_zero_le (show 0 ≤ x1 by omega)
  obtain ⟨W0, hW0⟩ : ∃ W0, w.alloc (.cells #[.slice none 0 0, .slice none 0 0] 26) = W0 := ⟨_, rfl⟩
  have hzW : W0.heap.size = w.heap.size + 1 := by rw [← hW0]; simp
  obtain ⟨w1, hw1⟩ : ∃ w1, plus (adv (W0.alloc (.cells #[.int .i64 4, .int .i64 3, .int .i64 5, .int .i64 2, .int .i64 1, .int .i64 6] 3)) r (p + 1)) os1 d1 = w1 := ⟨_, rfl⟩
  rw [hW0, hw1]
  have hQ0 : W0.heap[w.heap.size]? = some (.cells #[.slice none 0 0, .slice none 0 0] 26 (0, 0)) := by rw [← hW0]; exact heap_alloc_new w _
  have hb00 : Below w.heap.size w W0 := by rw [← hW0]; (repeat' (first | (with_reducible exact Below.refl _ _) | (with_reducible assumption) | (with_reducible refine Below.alloc ?_ ?_ _) | (with_reducible refine below_plus ?_ ?_ _ _) | (with_reducible refine Below.drew ?_) | (with_reducible refine Below.setCell ?_ ?_ _) | (with_reducible refine below_adv ?_ ?_ _) | go_size | (simp; done) | (simp; omega)))
  have hR0 := hR.below hb00 hlt
  have hB1 : Below W0.heap.size (adv W0 r (p + 1)) w1 := by
    rw [← hw1, adv_alloc _ _ _ _ (by omega)]
    (repeat' (first | (with_reducible exact Below.refl _ _) | (with_reducible assumption) | (with_reducible refine Below.alloc ?_ ?_ _) | (with_reducible refine below_plus ?_ ?_ _ _) | (with_reducible refine Below.drew ?_) | (with_reducible refine Below.setCell ?_ ?_ _) | (with_reducible refine below_adv ?_ ?_ _) | go_size | (simp; done) | (simp; omega)))
  have hz1 := hB1.size
  rw [size_adv] at hz1
  have hR1 := (hR0.adv (p + 1)).below hB1 (by omega)
  clear hw1 hW0
  go_wp2_with fail
  refine (randomClear_c w1 r n c (p + 1) A bs m hR1 (by omega) (by omega) (by omega)).mono ?_
  rintro e w2 ⟨A2, c2, q2, t, rfl, hO2, hMt, hq2, hb2⟩
  have hz2 := hb2.size
  rw [size_adv] at hz2
  have hB2 := (below_adv2 hB1 q2).trans (hb2.mono hz1)
  have hR2 := (hR0.adv q2).below hB2 (by omega)
  have hK2 := hO2.kept2 (Nat.le_refl _)
  have HK2 := Lib.hid hK2
  have C3 := Lib.hid (randomPlan_c w2 r n c q2 w1.heap.size A bs hR2 (by omega) A2 m c2 t hK2 (by omega) (hMt.ok (by omega) (by omega)))
  clear hO2 hMt hK2
  go_wp2_with fail
  refine C3.out.mono ?_
  rintro e w3 ⟨v, n3, q3, ss, rfl, hM3, hn1, hn5, hpl, hq3, hb3⟩
  have hz3 := hb3.size
  rw [size_adv] at hz3
  have hB3 := (below_adv2 hB2 q3).trans (hb3.mono (by omega))
  obtain ⟨Av, cv, rfl, hKS⟩ := hM3.kept
  obtain ⟨W4, hW4⟩ : ∃ W4, w3.alloc (.cells #[.slice A2 m c2, .slice Av n3 cv] 26) = W4 := ⟨_, rfl⟩
  have hP4 : W4.heap[w3.heap.size]? = some (.cells #[.slice A2 m c2, .slice Av n3 cv] 26 (0, 0)) := by rw [← hW4]; exact heap_alloc_new w3 _
  have hb34 : Below w3.heap.size w3 W4 := by rw [← hW4]; (repeat' (first | (with_reducible exact Below.refl _ _) | (with_reducible assumption) | (with_reducible refine Below.alloc ?_ ?_ _) | (with_reducible refine below_plus ?_ ?_ _ _) | (with_reducible refine Below.drew ?_) | (with_reducible refine Below.setCell ?_ ?_ _) | (with_reducible refine below_adv ?_ ?_ _) | go_size | (simp; done) | (simp; omega)))
  have hz4 : W4.heap.size = w3.heap.size + 1 := by rw [← hW4]; simp
  have hB4 : Below W0.heap.size (adv W0 r q3) W4 := hB3.trans (hb34.mono (by omega))
  have hPL := Lib.hid hpl
  have HAV : Hid (∀ b, (Value.slice Av n3 cv).ownBlock = some b → b < w3.heap.size) := Lib.hid fun b hb => by
    obtain ⟨xs, h1, -⟩ := hM3
    exact (h1.lt b hb).2
  have HKS := Lib.hid hKS
  have hM4 := hM3.below hb34
  clear C3 hpl hKS hM3 hb2 hB1 hB2 hR1 hR2
  go_wp2_with fail
  refine (pick_g W0 W4 r n c p q3 A bs 24 hR0 hB4 (by omega)).mono ?_
  rintro e w5 ⟨k, -, rfl, hB5, hg5⟩
  have hz5 := hg5.size
  rw [size_adv] at hz5
  have hR5 := (hR0.adv (q3 + 1)).below hB5 (by omega)
  have h35 : ∀ b, b < w3.heap.size → b ≠ r → w5.heap[b]? = w3.heap[b]? := fun b h1 h2 => ((hg5.block b (by omega)).trans (heap_adv _ _ _ _ h2)).trans (hb34.block b h1)
  have h25 : ∀ b, b < w2.heap.size → b ≠ r → w5.heap[b]? = w2.heap[b]? := fun b h1 h2 => (h35 b (by omega) h2).trans ((hb3.block b h1).trans (heap_adv _ _ _ _ h2))
  have hP5 : w5.heap[w3.heap.size]? = some (.cells #[.slice A2 m c2, .slice Av n3 cv] 26 (0, 0)) := ((hg5.block _ (by omega)).trans (heap_adv _ _ _ _ (by omega))).trans hP4
  have hQ5 : w5.heap[w.heap.size]? = some (.cells #[.slice none 0 0, .slice none 0 0] 26 (0, 0)) := ((hB5.block _ (by omega)).trans (heap_adv _ _ _ _ (by omega))).trans hQ0
  have hM5 := hM4.go (by omega) hg5
  have hwb : ∀ q Y, Below W0.heap.size (adv W0 r q) Y → Below w.heap.size (adv w r q) Y := fun q Y h => by
    have h0 : Below w.heap.size (adv w r p) W0 := by rw [adv_self hR]; exact hb00
    exact (below_adv2 h0 q).trans (h.mono (by omega))
  have HWB := Lib.hid hwb
  have H35 := Lib.hid h35
  have H25 := Lib.hid h25
  clear hW4 hP4 hb34 hB4 hM4 hb3 hg5 hQ0 hwb h35 h25 hB3
  have cP0 : w5.cell? ⟨w3.heap.size, 0, none⟩ = some (.slice A2 m c2) := by rw [cell_of_row _ _ _ _ _ _ hP5]; rfl
  have cP1 : w5.cell? ⟨w3.heap.size, 1, none⟩ = some (.slice Av n3 cv) := by rw [cell_of_row _ _ _ _ _ _ hP5]; rfl
  have cQ0 : w5.cell? ⟨w.heap.size, 0, none⟩ = some (.slice none 0 0) := by rw [cell_of_row _ _ _ _ _ _ hQ5]; rfl
  have cQ1 : w5.cell? ⟨w.heap.size, 1, none⟩ = some (.slice none 0 0) := by rw [cell_of_row _ _ _ _ _ _ hQ5]; rfl
  have fQ0 : w5.frozen? ⟨w.heap.size, 0, none⟩ = false := by simp [World.frozen?, hQ5]
  have fQ1 : w5.frozen? ⟨w.heap.size, 1, none⟩ = false := by simp [World.frozen?, hQ5]
  have HP5 := Lib.hid hP5
  have HQ5 := Lib.hid hQ5
  have HM5 := Lib.hid hM5
  have HB5 := Lib.hid hB5
  have HR5 := Lib.hid hR5
  have hr5 : r < w5.heap.size := by omega
  clear hP5 hQ5 hM5 hB5 hR5
  have n30 : (0 : Int) < (n3 : Int) := by omega
  have n31 : 0 < n3 := by omega
  by_cases k0 : k = 0
  · subst k0
    have hst0 := HM5.out.store (by omega)
    obtain ⟨g, cg, ph, gr, A6, n6, c6, hv, hcg0, hcg1, hglo, hgl, -, cG0, cG1, fG, -, -⟩ := hst0
    injection hv with hv1 hv2 hv3
    subst hv1 hv3
    have hg3 : g < w3.heap.size := HAV.out g rfl
    have fG1 := fG 1
    clear hv2 fG
    go_wp2_with fail
    go_region_held3 (fun w' => w'.cell? ⟨w3.heap.size, 1, none⟩ = some (.slice (some ⟨g, 0, none⟩) n3 cv)) (first | go_keep | (exact hS6) | (rw [World.cell?_setCell_other _ _ _ _ (by first | (simp; done) | (simp; omega))]; assumption))
      (first | (go_at_call 48; refine (one_lit_c w5.drew r n c (q3 + 1) A bs _ _ _ _ [4, 40, 41] (by rfl) (by rfl) (by decide) (by decide) HR5.out.drew (by omega) (by first | rfl | (simp; done) | (simp; omega))).mono ?_; rintro e w6 ⟨z, hzm, rfl, os6, d6, hw6⟩; have hb6 : Below w5.heap.size (adv w5 r (q3 + 1 + 1)) w6 := (by rw [← hw6, adv_alloc _ _ _ _ (show r < w5.drew.heap.size from hr5), adv_drew]; (repeat' (first | (with_reducible exact Below.refl _ _) | (with_reducible assumption) | (with_reducible refine Below.alloc ?_ ?_ _) | (with_reducible refine below_plus ?_ ?_ _ _) | (with_reducible refine Below.drew ?_) | (with_reducible refine Below.setCell ?_ ?_ _) | (with_reducible refine below_adv ?_ ?_ _) | go_size | (simp; done) | (simp; omega)))); have hS6 := (World.cell?_of_block (a := ⟨w3.heap.size, 1, none⟩) ((hb6.block w3.heap.size (by omega)).trans (heap_adv _ _ _ _ (by omega)))).trans cP1; have cw6 := (World.cell?_of_block (a := ⟨g, 1, none⟩) ((hb6.block g hgl).trans (heap_adv _ _ _ _ (by omega)))).trans cG1; have fw6 := (World.frozen?_of_block (a := ⟨g, 1, none⟩) ((hb6.block g hgl).trans (heap_adv _ _ _ _ (by omega)))).trans fG1) | fail)
    have hz6 : w5.heap.size ≤ w6.heap.size := by have := hb6.size; rw [size_adv] at this; exact this
    have hB6 := (below_adv2 HB5.out (q3 + 1 + 1)).trans (hb6.mono (show W0.heap.size ≤ w5.heap.size by omega))
    have hM6 := HM5.out.go (show r < w2.heap.size by omega) hb6
    obtain ⟨g', cg', ph', gr', A6', n6', c6', hv, -, -, -, -, hs0, -, -, -, hKz, hKp⟩ := hM6.store (by omega)
    injection hv with hv1 hv2 hv3
    injection hv1 with hv1
    injection hv1 with hv1
    subst hv1 hv3
    have hKY := hKz z
    obtain ⟨Y, hY⟩ : ∃ Y, w6.setCell ⟨g, 1, none⟩ (.int .i64 z) = Y := ⟨_, rfl⟩
    have hzY : Y.heap.size = w6.heap.size := by rw [← hY]; simp [World.setCell]
    have hYag : ∀ b, b < w5.heap.size → b ≠ r → b ≠ g → Y.heap[b]? = w5.heap[b]? := fun b h1 h2 h3 => by
      rw [← hY]
      exact ((Below.heap_setCell w6 ⟨g, 1, none⟩ _ b h3).trans (hb6.block b h1)).trans (heap_adv _ _ _ _ h2)
    have hBY : Below W0.heap.size (adv W0 r (q3 + 1 + 1)) Y := by rw [← hY]; exact hB6.setCell (show W0.heap.size ≤ g by omega) _
    rw [hY] at hKY ⊢
    have hQY := (hYag _ (by omega) (by omega) (by omega)).trans HQ5.out
    have hPY := (hYag w3.heap.size (by omega) (by omega) (by omega)).trans HP5.out
    have hKtY := HK2.out.move (w' := Y) (lo' := w.heap.size + 1) (by omega) (by omega) fun b h1 h2 => (hYag b (by omega) (by omega) (by omega)).trans (H25.out b h2 (by omega))
    have hKsY := hKY.move (w' := Y) (lo' := w.heap.size + 1) (by omega) (Nat.le_refl _) fun b h1 h2 => rfl
    have yP0 : Y.cell? ⟨w3.heap.size, 0, none⟩ = some (.slice A2 m c2) := by rw [cell_of_row _ _ _ _ _ _ hPY]; rfl
    have yP1 : Y.cell? ⟨w3.heap.size, 1, none⟩ = some (.slice (some ⟨g, 0, none⟩) n3 cv) := by rw [cell_of_row _ _ _ _ _ _ hPY]; rfl
    have yQ0 : Y.cell? ⟨w.heap.size, 0, none⟩ = some (.slice none 0 0) := by rw [cell_of_row _ _ _ _ _ _ hQY]; rfl
    have yQ1 : Y.cell? ⟨w.heap.size, 1, none⟩ = some (.slice none 0 0) := by rw [cell_of_row _ _ _ _ _ _ hQY]; rfl
    have gQ0 : Y.frozen? ⟨w.heap.size, 0, none⟩ = false := by simp [World.frozen?, hQY]
    have gQ1 : Y.frozen? ⟨w.heap.size, 1, none⟩ = false := by simp [World.frozen?, hQY]
    have HKT := Lib.hid hKtY
    have HKSY := Lib.hid hKsY
    have HQY := Lib.hid hQY
    have HBY := Lib.hid hBY
    have HPL6 : Hid (∀ s ∈ ss.set 0 (ph', z), s.1.length ≤ 9) := Lib.hid fun s hs => by
      rcases List.mem_or_eq_of_mem_set hs with hs | hs
      · have := hPL.out s hs; omega
      · subst hs
        have := hPL.out _ (List.mem_of_getElem? hs0)
        simp only at this ⊢; omega
    clear hY hzY hYag hBY hQY hPY hKtY hKsY hKY hKz hKp hM6 hB6 hb6 cw6 fw6 cG0 cG1 fG1 cP0 cP1 cQ0 cQ1 fQ0 fQ1 hs0 hv2 hw6 hS6
    go_wp2_with fail
    obtain ⟨X, hX⟩ : ∃ X, (Y.setCell ⟨w.heap.size, 0, none⟩ (.slice A2 m c2)).setCell ⟨w.heap.size, 1, none⟩ (.slice (some ⟨g, 0, none⟩) n3 cv) = X := ⟨_, rfl⟩
    obtain ⟨d0, d1, hTX, hSX, hbX⟩ := fin_plan HQY.out HKT.out HKSY.out (HWB.out _ _ HBY.out) hX
    rw [hX]
    have HTX := Lib.hid hTX
    have HSX := Lib.hid hSX
    clear hX yP0 yP1 yQ0 yQ1 gQ0 gQ1 hTX hSX
    refine bodyPost_ret (v := .agg #[.slice A2 m c2, .slice (some ⟨g, 0, none⟩) n3 cv]) (by simp [results, Try.results23, go_sem, d0, d1]; try rfl) rfl ?_
    exact ⟨_, _, _, _, _, _, _, _, (q3 + 1 + 1), rfl, HTX.out, HSX.out, by omega, hn1, hn5, HPL6.out, by omega, hbX⟩
  · by_cases k1 : k = 1
    · subst k1
      have hst0 := HM5.out.store (by omega)
      obtain ⟨g, cg, ph, gr, A6, n6, c6, hv, hcg0, hcg1, hglo, hgl, -, cG0, cG1, fG, -, -⟩ := hst0
      injection hv with hv1 hv2 hv3
      subst hv1 hv3
      have hg3 : g < w3.heap.size := HAV.out g rfl
      have fG0 := fG 0
      have hT5 := (HK2.out.move (w' := w5) (lo' := w.heap.size + 1) (by omega) (by omega) fun b h1 h2 => H25.out b h2 (by omega)).here
      have CP := Lib.hid (anyPhase_c w5.drew r n c (q3 + 1) A bs HR5.out.drew (by omega) A2 m c2 t w5.heap.size (hT5 : Sl2 w5.drew w5.heap.size ILit A2 m c2 t) (Nat.le_refl _))
      clear hv2 fG hT5
      go_wp2_with fail
      go_region_held3 (fun w' => w'.cell? ⟨w3.heap.size, 1, none⟩ = some (.slice (some ⟨g, 0, none⟩) n3 cv) ∧ w'.cell? ⟨w3.heap.size, 0, none⟩ = some (.slice A2 m c2)) (first | go_keep | (exact ⟨hS6, hS60⟩) | (rw [World.cell?_setCell_other _ _ _ _ (by first | (simp; done) | (simp; omega)), World.cell?_setCell_other _ _ _ _ (by first | (simp; done) | (simp; omega))]; exact ⟨hS6, hS60⟩))
        (first | (go_at_call 50; refine CP.out.mono ?_; rintro e w6 ⟨A7, n7, c7, q7, ph7, rfl, hS7, hn7, hq7, hb6', hf7⟩; have hb6 := below_undrew2 hb6'; have hS6 := (World.cell?_of_block (a := ⟨w3.heap.size, 1, none⟩) ((hb6.block w3.heap.size (by omega)).trans (heap_adv _ _ _ _ (by omega)))).trans cP1; have hS60 := (World.cell?_of_block (a := ⟨w3.heap.size, 0, none⟩) ((hb6.block w3.heap.size (by omega)).trans (heap_adv _ _ _ _ (by omega)))).trans cP0; have cw6 := (World.cell?_of_block (a := ⟨g, 0, none⟩) ((hb6.block g hgl).trans (heap_adv _ _ _ _ (by omega)))).trans cG0; have fw6 := (World.frozen?_of_block (a := ⟨g, 0, none⟩) ((hb6.block g hgl).trans (heap_adv _ _ _ _ (by omega)))).trans fG0) | fail)
      have hz6 : w5.heap.size ≤ w6.heap.size := by have := hb6.size; rw [size_adv] at this; exact this
      have hB6 := (below_adv2 HB5.out q7).trans (hb6.mono (show W0.heap.size ≤ w5.heap.size by omega))
      have hM6 := HM5.out.go (show r < w2.heap.size by omega) hb6
      obtain ⟨g', cg', ph', gr', A6', n6', c6', hv, -, -, -, -, hs0, -, -, -, hKz, hKp⟩ := hM6.store (by omega)
      injection hv with hv1 hv2 hv3
      injection hv1 with hv1
      injection hv1 with hv1
      subst hv1 hv3
      have hKY := hKp A7 n7 c7 ph7 hS7 (fun h b o hA => by have h9 : w5.heap.size ≤ b := hf7 h b o hA; omega)
      obtain ⟨Y, hY⟩ : ∃ Y, w6.setCell ⟨g, 0, none⟩ (.slice A7 n7 c7) = Y := ⟨_, rfl⟩
      have hzY : Y.heap.size = w6.heap.size := by rw [← hY]; simp [World.setCell]
      have hYag : ∀ b, b < w5.heap.size → b ≠ r → b ≠ g → Y.heap[b]? = w5.heap[b]? := fun b h1 h2 h3 => by
        rw [← hY]
        exact ((Below.heap_setCell w6 ⟨g, 0, none⟩ _ b h3).trans (hb6.block b h1)).trans (heap_adv _ _ _ _ h2)
      have hBY : Below W0.heap.size (adv W0 r q7) Y := by rw [← hY]; exact hB6.setCell (show W0.heap.size ≤ g by omega) _
      rw [hY] at hKY ⊢
      have hQY := (hYag _ (by omega) (by omega) (by omega)).trans HQ5.out
      have hPY := (hYag w3.heap.size (by omega) (by omega) (by omega)).trans HP5.out
      have hKtY := HK2.out.move (w' := Y) (lo' := w.heap.size + 1) (by omega) (by omega) fun b h1 h2 => (hYag b (by omega) (by omega) (by omega)).trans (H25.out b h2 (by omega))
      have hKsY := hKY.move (w' := Y) (lo' := w.heap.size + 1) (by omega) (Nat.le_refl _) fun b h1 h2 => rfl
      have yP0 : Y.cell? ⟨w3.heap.size, 0, none⟩ = some (.slice A2 m c2) := by rw [cell_of_row _ _ _ _ _ _ hPY]; rfl
      have yP1 : Y.cell? ⟨w3.heap.size, 1, none⟩ = some (.slice (some ⟨g, 0, none⟩) n3 cv) := by rw [cell_of_row _ _ _ _ _ _ hPY]; rfl
      have yQ0 : Y.cell? ⟨w.heap.size, 0, none⟩ = some (.slice none 0 0) := by rw [cell_of_row _ _ _ _ _ _ hQY]; rfl
      have yQ1 : Y.cell? ⟨w.heap.size, 1, none⟩ = some (.slice none 0 0) := by rw [cell_of_row _ _ _ _ _ _ hQY]; rfl
      have gQ0 : Y.frozen? ⟨w.heap.size, 0, none⟩ = false := by simp [World.frozen?, hQY]
      have gQ1 : Y.frozen? ⟨w.heap.size, 1, none⟩ = false := by simp [World.frozen?, hQY]
      have HKT := Lib.hid hKtY
      have HKSY := Lib.hid hKsY
      have HQY := Lib.hid hQY
      have HBY := Lib.hid hBY
      have HPL6 : Hid (∀ s ∈ ss.set 0 (ph7, gr'), s.1.length ≤ 9) := Lib.hid fun s hs => by
        rcases List.mem_or_eq_of_mem_set hs with hs | hs
        · have := hPL.out s hs; omega
        · subst hs
          show ph7.length ≤ 9
          rw [hS7.len]; exact hn7
      clear hY hzY hYag hBY hQY hPY hKtY hKsY hKY hKz hKp hM6 hB6 hb6 cw6 fw6 cG0 cG1 fG0 cP0 cP1 cQ0 cQ1 fQ0 fQ1 hs0 hv2 hb6' hS6 hS60 hS7 hf7 CP
      go_wp2_with fail
      obtain ⟨X, hX⟩ : ∃ X, (Y.setCell ⟨w.heap.size, 0, none⟩ (.slice A2 m c2)).setCell ⟨w.heap.size, 1, none⟩ (.slice (some ⟨g, 0, none⟩) n3 cv) = X := ⟨_, rfl⟩
      obtain ⟨d0, d1, hTX, hSX, hbX⟩ := fin_plan HQY.out HKT.out HKSY.out (HWB.out _ _ HBY.out) hX
      rw [hX]
      have HTX := Lib.hid hTX
      have HSX := Lib.hid hSX
      clear hX yP0 yP1 yQ0 yQ1 gQ0 gQ1 hTX hSX
      refine bodyPost_ret (v := .agg #[.slice A2 m c2, .slice (some ⟨g, 0, none⟩) n3 cv]) (by simp [results, Try.results23, go_sem, d0, d1]; try rfl) rfl ?_
      exact ⟨_, _, _, _, _, _, _, _, q7, rfl, HTX.out, HSX.out, by omega, hn1, hn5, HPL6.out, by omega, hbX⟩
    · by_cases k2 : k = 2
      · subst k2
        have CC := Lib.hid (anyClear_c w5 r n c (q3 + 1) A bs HR5.out (by omega))
        have fP0 : w5.frozen? ⟨w3.heap.size, 0, none⟩ = false := by simp [World.frozen?, HP5.out]
        go_wp2_with fail
        refine CC.out.mono ?_
        rintro e w6 ⟨A7, n7, c7, q7, t7, rfl, hK7, hn7, hq7, hb6⟩
        have hz6 := hb6.size
        rw [size_adv] at hz6
        have k6 : ∀ b, b < w5.heap.size → b ≠ r → w6.heap[b]? = w5.heap[b]? := fun b h1 h2 => (hb6.block b h1).trans (heap_adv _ _ _ _ h2)
        have hP6 := (k6 _ (by omega) (by omega)).trans HP5.out
        have hQ6 := (k6 _ (by omega) (by omega)).trans HQ5.out
        have pP0 : w6.cell? ⟨w3.heap.size, 0, none⟩ = some (.slice A2 m c2) := by rw [cell_of_row _ _ _ _ _ _ hP6]; rfl
        have pP1 : w6.cell? ⟨w3.heap.size, 1, none⟩ = some (.slice Av n3 cv) := by rw [cell_of_row _ _ _ _ _ _ hP6]; rfl
        have gP0 : w6.frozen? ⟨w3.heap.size, 0, none⟩ = false := by simp [World.frozen?, hP6]
        have pQ0 : w6.cell? ⟨w.heap.size, 0, none⟩ = some (.slice none 0 0) := by rw [cell_of_row _ _ _ _ _ _ hQ6]; rfl
        have pQ1 : w6.cell? ⟨w.heap.size, 1, none⟩ = some (.slice none 0 0) := by rw [cell_of_row _ _ _ _ _ _ hQ6]; rfl
        have gQ0 : w6.frozen? ⟨w.heap.size, 0, none⟩ = false := by simp [World.frozen?, hQ6]
        have gQ1 : w6.frozen? ⟨w.heap.size, 1, none⟩ = false := by simp [World.frozen?, hQ6]
        have hB6 := (below_adv2 HB5.out q7).trans (hb6.mono (show W0.heap.size ≤ w5.heap.size by omega))
        have HB6 := Lib.hid hB6
        have K6 := Lib.hid k6
        have HK7 := Lib.hid hK7
        have HP6 := Lib.hid hP6
        have HQ6 := Lib.hid hQ6
        clear CC cP0 cP1 cQ0 cQ1 fQ0 fQ1 fP0 hB6 hb6 k6 hK7 hP6 hQ6
        go_wp2_with fail
        obtain ⟨Y, hY⟩ : ∃ Y, w6.setCell ⟨w3.heap.size, 0, none⟩ (.slice A7 n7 c7) = Y := ⟨_, rfl⟩
        have hzY : Y.heap.size = w6.heap.size := by rw [← hY]; simp [World.setCell]
        have hYag : ∀ b, b ≠ w3.heap.size → Y.heap[b]? = w6.heap[b]? := fun b h3 => by
          rw [← hY]
          exact Below.heap_setCell w6 ⟨w3.heap.size, 0, none⟩ _ b h3
        have hBY : Below W0.heap.size (adv W0 r q7) Y := by rw [← hY]; exact HB6.out.setCell (show W0.heap.size ≤ w3.heap.size by omega) _
        have hQY := (hYag w.heap.size (by omega)).trans HQ6.out
        have hKtY := HK7.out.move (w' := Y) (lo' := w.heap.size + 1) (by omega) (by omega) fun b h1 h2 => hYag b (by omega)
        have hKsY := HKS.out.move (w' := Y) (lo' := w.heap.size + 1) (by omega) (by omega) fun b h1 h2 => ((hYag b (by omega)).trans (K6.out b (by omega) (by omega))).trans (H35.out b h2 (by omega))
        rw [hY]
        obtain ⟨X, hX⟩ : ∃ X, (Y.setCell ⟨w.heap.size, 0, none⟩ (.slice A7 n7 c7)).setCell ⟨w.heap.size, 1, none⟩ (.slice Av n3 cv) = X := ⟨_, rfl⟩
        obtain ⟨d0, d1, hTX, hSX, hbX⟩ := fin_plan hQY hKtY hKsY (HWB.out _ _ hBY) hX
        rw [hX]
        have HTX := Lib.hid hTX
        have HSX := Lib.hid hSX
        clear hX hY pP0 pP1 gP0 pQ0 pQ1 gQ0 gQ1 hTX hSX hKtY hKsY hQY hBY hYag hzY
        refine bodyPost_ret (v := .agg #[.slice A7 n7 c7, .slice Av n3 cv]) (by simp [results, Try.results23, go_sem, d0, d1]; try rfl) rfl ?_
        exact ⟨_, _, _, _, _, _, _, _, q7, rfl, HTX.out, HSX.out, hn7, hn1, hn5, fun s hs => by have := hPL.out s hs; omega, by omega, hbX⟩
      · have k0' : (k == 0) = false := by simpa using k0
        have k1' : (k == 1) = false := by simpa using k1
        have k2' : (k == 2) = false := by simpa using k2
        clear k0 k1 k2
        go_wp2_with fail
        obtain ⟨X, hX⟩ : ∃ X, (w5.setCell ⟨w.heap.size, 0, none⟩ (.slice A2 m c2)).setCell ⟨w.heap.size, 1, none⟩ (.slice Av n3 cv) = X := ⟨_, rfl⟩
        obtain ⟨d0, d1, hTX, hSX, hbX⟩ := fin_plan HQ5.out (HK2.out.move (by omega) (by omega) fun b h1 h2 => H25.out b h2 (by omega)) (HKS.out.move (by omega) (by omega) fun b h1 h2 => H35.out b h2 (by omega)) (HWB.out _ _ HB5.out) hX
        rw [hX]
        have HTX := Lib.hid hTX
        have HSX := Lib.hid hSX
        clear hX cP0 cP1 cQ0 cQ1 fQ0 fQ1 hTX hSX
        refine bodyPost_ret (v := .agg #[.slice A2 m c2, .slice Av n3 cv]) (by simp [results, Try.results23, go_sem, d0, d1]; try rfl) rfl ?_
        exact ⟨_, _, _, _, _, _, _, _, q3 + 1, rfl, HTX.out, HSX.out, by omega, hn1, hn5, fun s hs => by have := hPL.out s hs; omega, by omega, hbX⟩

def PlanDrawn (w : World) (e : Ending) (w' : World) : Prop :=
  ∃ At m ct t A n c ss, e = .returned (.agg #[.slice At m ct, .slice A n c]) ∧ Kept2 w' w.heap.size ILit At m ct t ∧ KeptS w' w.heap.size A n c ss ∧ m ≤ 8 ∧ 1 ≤ n ∧ n ≤ 5 ∧ (∀ s ∈ ss, s.1.length ≤ 9) ∧ Below w.heap.size w w'
end Go.Proofs.Ytckohbjgogbfaaa
