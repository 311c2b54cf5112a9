/- DrawGreenTime, DrawLongestRed and DrawGreenAt, walked. -/
import Derived.Test.YtckohbjgogbfaaaQg4
set_option linter.unusedVariables false
set_option linter.unusedSimpArgs false
namespace Go.Proofs.Ytckohbjgogbfaaa
open Go.RowKit

/-- A plan and a number. -/
def SecDrawn (w : World) (e : Ending) (w' : World) : Prop :=
  ∃ At m ct t A n c ss x, e = .returned (.tuple #[.agg #[.slice At m ct, .slice A n c], .int .i64 x]) ∧ Kept2 w' w.heap.size ILit At m ct t ∧ KeptS w' w.heap.size A n c ss ∧ m ≤ 8 ∧ 1 ≤ n ∧ n ≤ 5 ∧ (∀ s ∈ ss, s.1.length ≤ 9) ∧ -1 ≤ x ∧ x ≤ 10000 ∧ Below w.heap.size w w'

def SecG (w wr : World) (r q : Nat) (e : Ending) (w1 : World) : Prop :=
  ∃ k : Int, -1 ≤ k ∧ k ≤ 10000 ∧ e = .returned (.int .i64 k) ∧ Below w.heap.size (adv w r (q + 1)) w1 ∧ Below wr.heap.size (adv wr r (q + 1)) w1
set_option maxHeartbeats 4000000 in
theorem anySecond_c (w wr : World) (r n c p q : Nat) (A : Option Addr) (bs : List Int) (hR : Rd w r A n c bs p) (hb : Below w.heap.size (adv w r q) wr) (hq : q ≤ 100000) :
    Calls Try.prog 24 #[.pointer (some ⟨r, 0, none⟩)] wr (SecG w wr r q) := by
  have hl := hR.lt
  have hR' := (hR.adv q).below hb hl
  have hs := hb.size
  rw [size_adv] at hs
  have hl' : r < wr.heap.size := by omega
  have HB := Lib.hid hb
  clear hb
  go_enter Try.func24, Try.ntmps24
  go_wp2_with fail
  refine (one_lit_c wr r n c q A bs _ _ _ _ [0, 7, 13, 20, 31, 50, 100, 9999, 10000, -1] (by rfl) (by rfl) (by decide) (by decide) hR' (by omega) (by first | rfl | (simp; done) | (simp; omega))).mono ?_
  rintro e w3 ⟨x, hx, rfl, os3, d3, hw3⟩
  have hx2 : -1 ≤ x ∧ x ≤ 10000 := by simp at hx; omega
  obtain ⟨hx0, hx6⟩ := hx2
  have hb3 : Below wr.heap.size (adv wr r (q + 1)) w3 := by
    rw [← hw3, adv_alloc _ _ _ _ (by omega)]
    (repeat' (first | (with_reducible exact Below.refl _ _) | (with_reducible assumption) | (with_reducible refine Below.alloc ?_ ?_ _) | (with_reducible refine below_plus ?_ ?_ _ _) | (with_reducible refine Below.drew ?_) | (with_reducible refine Below.setCell ?_ ?_ _) | (with_reducible refine below_adv ?_ ?_ _) | go_size | (simp; done) | (simp; omega)))
  have hbb := (below_adv2 HB.out (q + 1)).trans (hb3.mono hs)
  clear hw3 hx
  go_wp2_with fail
  go_ret
  exact ⟨x, hx0, hx6, rfl, hbb, hb3⟩
set_option maxHeartbeats 4000000 in
theorem dDrawGreenAt_c (A : Option Addr) (n c : Nat) (bs : List Int) (w : World) (B : Nat) (hS : Sl w B BLit A n c bs) (hB : B ≤ w.heap.size) (hbs : ∀ x ∈ bs, 0 ≤ x ∧ x ≤ 255) :
    Calls Try.prog 7 #[.slice A n c] w (SecDrawn w) := by
  obtain ⟨W0, hW0⟩ : ∃ W0, w.alloc (.cells #[.slice none 0 0, .slice none 0 0] 26) = W0 := ⟨_, rfl⟩
  have hzW : W0.heap.size = w.heap.size + 1 := by rw [← hW0]; simp
  have hQ0 : W0.heap[w.heap.size]? = some (.cells #[.slice none 0 0, .slice none 0 0] 26 (0, 0)) := by rw [← hW0]; exact heap_alloc_new w _
  have hb00 : Below w.heap.size w W0 := by rw [← hW0]; (repeat' (first | (with_reducible exact Below.refl _ _) | (with_reducible assumption) | (with_reducible refine Below.alloc ?_ ?_ _) | (with_reducible refine below_plus ?_ ?_ _ _) | (with_reducible refine Below.drew ?_) | (with_reducible refine Below.setCell ?_ ?_ _) | (with_reducible refine below_adv ?_ ?_ _) | go_size | (simp; done) | (simp; omega)))
  have C1 := Lib.hid (newReader_c W0 A n c _ bs ((hS.more hB).below hb00) hb00.size hbs)
  have HQ0 := Lib.hid hQ0
  have hzW1 : w.heap.size + 1 ≤ W0.heap.size := by omega
  clear hS hbs hQ0 hzW
  go_enter Try.func7, Try.ntmps7
  go_wp2_with fail
  clear hW0
  refine C1.out.mono ?_
  rintro e w1 ⟨r, A1, n1, c1, bs1, rfl, hw1, hR, hr0, hr1⟩
  have hlt := hR.lt
  have hb1 : Below W0.heap.size W0 w1 := by rw [← hw1]; exact (Below.refl _ _).alloc (Nat.le_refl _) _
  have hz1 := hb1.size
  clear hw1 C1
  go_wp2_with fail
  refine (anyPlan_c w1 r n1 c1 0 A1 bs1 hR (by omega)).mono ?_
  rintro e w2 ⟨At, m, ct, t, A2, n2, c2, ss, q, rfl, hK, hKS, hm8, hn1, hn5, hpl, hq, hb2⟩
  have hz2 := hb2.size
  rw [size_adv] at hz2
  obtain ⟨W4, hW4⟩ : ∃ W4, w2.alloc (.cells #[.slice At m ct, .slice A2 n2 c2] 26) = W4 := ⟨_, rfl⟩
  have hP4 : W4.heap[w2.heap.size]? = some (.cells #[.slice At m ct, .slice A2 n2 c2] 26 (0, 0)) := by rw [← hW4]; exact heap_alloc_new w2 _
  have hb24 : Below w2.heap.size w2 W4 := by rw [← hW4]; (repeat' (first | (with_reducible exact Below.refl _ _) | (with_reducible assumption) | (with_reducible refine Below.alloc ?_ ?_ _) | (with_reducible refine below_plus ?_ ?_ _ _) | (with_reducible refine Below.drew ?_) | (with_reducible refine Below.setCell ?_ ?_ _) | (with_reducible refine below_adv ?_ ?_ _) | go_size | (simp; done) | (simp; omega)))
  have hz4 : W4.heap.size = w2.heap.size + 1 := by rw [← hW4]; simp
  have hB4 : Below w1.heap.size (adv w1 r q) W4 := hb2.trans (hb24.mono hz2)
  have hQ4 : W4.heap[w.heap.size]? = some (.cells #[.slice none 0 0, .slice none 0 0] 26 (0, 0)) := (((hB4.block _ (by omega)).trans (heap_adv _ _ _ _ (by omega))).trans (hb1.block _ (by omega))).trans HQ0.out
  have p40 : W4.cell? ⟨w2.heap.size, 0, none⟩ = some (.slice At m ct) := by rw [cell_of_row _ _ _ _ _ _ hP4]; rfl
  have p41 : W4.cell? ⟨w2.heap.size, 1, none⟩ = some (.slice A2 n2 c2) := by rw [cell_of_row _ _ _ _ _ _ hP4]; rfl
  have HK := Lib.hid hK
  have HKS := Lib.hid hKS
  have HPL := Lib.hid hpl
  have HQ4 := Lib.hid hQ4
  have HP4 := Lib.hid hP4
  have HB4 := Lib.hid (show Below w1.heap.size (adv w1 r q) W4.drew from ⟨hB4.os, hB4.tape, hB4.output, hB4.size, hB4.block⟩)
  have H24 := Lib.hid hb24
  have hR4 := (hR.adv q).below hB4 hlt
  have HR4 := Lib.hid hR4
  have HB1 := Lib.hid hb1
  have hpl4 : w2.heap.size < W4.heap.size := by omega
  have hql4 : w.heap.size < W4.heap.size := by omega
  have hqr : w.heap.size ≠ r := by omega
  have hpr : w2.heap.size ≠ r := by omega
  clear hK hKS hpl hQ4 hP4 hB4 hb24 hR4 hb1 hb2
  go_wp2_with fail
  clear hW4
  go_region_held3 (fun w' => w'.cell? ⟨w2.heap.size, 0, none⟩ = some (.slice At m ct) ∧ w'.cell? ⟨w2.heap.size, 1, none⟩ = some (.slice A2 n2 c2)) (first | go_keep | (exact ⟨u0, u1⟩) | (rw [World.cell?_setCell_other _ _ _ _ (by first | (simp; done) | (simp; omega)), World.cell?_setCell_other _ _ _ _ (by first | (simp; done) | (simp; omega)), World.cell?_setCell_other _ _ _ _ (by first | (simp; done) | (simp; omega)), World.cell?_setCell_other _ _ _ _ (by first | (simp; done) | (simp; omega))]; exact ⟨u0, u1⟩))
    (first | (go_at_call 24; refine (anySecond_c w1 W4.drew r n1 c1 0 q A1 bs1 hR HB4.out (by omega)).mono ?_; rintro e w5 ⟨k, hk0, hk8, rfl, hB5, hg5⟩; have hg6 := hg5.block w2.heap.size hpl4; have u0 := (World.cell?_of_block (a := ⟨w2.heap.size, 0, none⟩) ((hg5.block w2.heap.size hpl4).trans (heap_adv _ _ _ _ hpr))).trans p40; have u1 := (World.cell?_of_block (a := ⟨w2.heap.size, 1, none⟩) ((hg5.block w2.heap.size hpl4).trans (heap_adv _ _ _ _ hpr))).trans p41; have hQ5 := ((hg5.block w.heap.size hql4).trans (heap_adv _ _ _ _ hqr)).trans HQ4.out; have cQ0 : w5.cell? ⟨w.heap.size, 0, none⟩ = some (.slice none 0 0) := (by rw [cell_of_row _ _ _ _ _ _ hQ5]; rfl); have cQ1 : w5.cell? ⟨w.heap.size, 1, none⟩ = some (.slice none 0 0) := (by rw [cell_of_row _ _ _ _ _ _ hQ5]; rfl); have fQ0 : w5.frozen? ⟨w.heap.size, 0, none⟩ = false := (by simp [World.frozen?, hQ5]); have fQ1 : w5.frozen? ⟨w.heap.size, 1, none⟩ = false := (by simp [World.frozen?, hQ5])) | fail)
  have hzg : W4.heap.size ≤ w5.heap.size := by have := hg5.size; rw [size_adv] at this; exact this
  have hag : ∀ b, w1.heap.size ≤ b → b < w2.heap.size → w5.heap[b]? = w2.heap[b]? := fun b h1 h2 => ((hg5.block b (show b < W4.heap.size by omega)).trans (heap_adv _ _ _ _ (by omega))).trans (H24.out.block b h2)
  have hb05 : Below w.heap.size w w5 := hb00.trans (((below_adv HB1.out hr0 _).trans (hB5.mono hz1)).mono (by omega))
  have hKt := HK.out.move (w' := w5) (lo' := w.heap.size + 1) (by omega) (by omega) hag
  have hKs := HKS.out.move (w' := w5) (lo' := w.heap.size + 1) (by omega) (by omega) hag
  obtain ⟨X, hX⟩ : ∃ X, (w5.setCell ⟨w.heap.size, 0, none⟩ (.slice At m ct)).setCell ⟨w.heap.size, 1, none⟩ (.slice A2 n2 c2) = X := ⟨_, rfl⟩
  obtain ⟨d0, d1, hTX, hSX, hbX⟩ := fin_plan hQ5 hKt hKs hb05 hX
  rw [hX]
  have HTX := Lib.hid hTX
  have HSX := Lib.hid hSX
  clear hX hQ5 hKt hKs hb05 hag hg5 hB5 u0 u1 cQ0 cQ1 fQ0 fQ1 hTX hSX hg6 p40 p41
  go_wp2_with fail
  refine bodyPost_ret (v := .tuple #[.agg #[.slice At m ct, .slice A2 n2 c2], .int .i64 (k)]) (by simp [results, Try.results7, go_sem, d0, d1]; try rfl) rfl ?_
  exact ⟨_, _, _, _, _, _, _, _, _, rfl, HTX.out, HSX.out, hm8, hn1, hn5, HPL.out, by omega, by omega, hbX⟩
end Go.Proofs.Ytckohbjgogbfaaa
