/- impl.BestOrder, walked. -/
import Derived.Test.YtlpbmnmhpknppaaCf5
import Derived.Test.YtlpbmnmhpknppaaPe
import Derived.Test.YtlpbmnmhpknppaaBb
import Derived.Laws.EntriesVeiled
set_option linter.unusedVariables false
set_option linter.unusedSimpArgs false
namespace Go.Proofs.Ytlpbmnmhpknppaa
open Go.RowKit

theorem heap_three0 (w : World) (a b c : Obj) : (((w.alloc a).alloc b).alloc c).heap[w.heap.size]? = some a := by
  rw [Below.heap_alloc _ _ _ (by simp; omega)]; exact heap_two0 _ _ _
theorem heap_three1 (w : World) (a b c : Obj) : (((w.alloc a).alloc b).alloc c).heap[w.heap.size + 1]? = some b := by
  rw [Below.heap_alloc _ _ _ (by simp)]; exact heap_two1 _ _ _
theorem heap_three2 (w : World) (a b c : Obj) : (((w.alloc a).alloc b).alloc c).heap[w.heap.size + 1 + 1]? = some c := by
  have := heap_alloc_new ((w.alloc a).alloc b) c
  simpa using this
set_option maxHeartbeats 8000000 in
theorem bestOrder_c (At : Option Addr) (m ct : Nat) (t : List (List Int)) (A : Option Addr) (n c : Nat) (list : List (List Int)) (w : World) (B : Nat) (hT : Sl2 w B ILit At m ct t) (hS : Sl2 w B ILit A n c list) (hB : B ≤ w.heap.size) (hpl : ∀ p ∈ list, p.length ≤ 1048576) :
    Calls Try.prog 41 #[.slice At m ct, .slice A n c] w (OwInts2 w (bestOrdF t list)) := by
  obtain ⟨hc0, hc1⟩ := hS.cap
  have hl := hT.len
  have hln := hS.len
  have hmf : ∀ (fn : Fn) (first cap : Array Value) (w : World), (Instr.makeFunc fn first cap).run Try.prog w = .ok (.func fn first cap) w := fun _ _ _ _ => rfl
  have hb0 : Below w.heap.size w ((w.alloc (.cells #[.slice At m ct] 22)).alloc (.cells #[.slice A n c] 22)) := ((Below.refl _ _).alloc (Nat.le_refl _) _).alloc (by simp) _
  have hT0 := hT.more hB
  have hS0 := hS.more hB
  obtain ⟨W2, hW2⟩ : ∃ W2, (w.alloc (.cells #[.slice At m ct] 22)).alloc (.cells #[.slice A n c] 22) = W2 := ⟨_, rfl⟩
  have qT : W2.heap[w.heap.size]? = some (.cells #[.slice At m ct] 22 (0, 0)) := by rw [← hW2]; exact heap_two0 _ _ _
  have qL : W2.heap[w.heap.size + 1]? = some (.cells #[.slice A n c] 22 (0, 0)) := by rw [← hW2]; exact heap_two1 _ _ _
  rw [hW2] at hb0
  have hz0 : W2.heap.size = w.heap.size + 2 := by rw [← hW2]; simp
  have cT := cell_of_one qT
  have cL := cell_of_one qL
  have cw := within_c (n : Int) 1 5 W2
  have cv := validPhases_c At m ct t A n c list W2 _ (hT0.below hb0) (hS0.below hb0) hb0.size (fun p hp => Nat.le_trans (hpl p hp) (by omega))
  cases hin5 : inB (n : Int) 1 5
  · have HE : Hid (bestOrdF t list = []) := Lib.hid (by rw [bestOrdF, ring_out (by rw [hln]; exact hin5)]; simp)
    rw [hin5] at cw
    have CW := Lib.hid cw
    clear cv cw hT hS hT0 hS0 hl hln hpl hin5 qT qL hz0
    go_enter Try.func41, Try.ntmps41
    go_wp2_with fail
    clear hW2
    refine CW.out.mono ?_
    rintro e w1 ⟨rfl, rfl⟩
    go_wp2_with fail
    go_ret
    exact ⟨_, _, _, rfl, by rw [HE.out]; exact Ow.nil _ _ _ _, hb0⟩
  · rw [hin5] at cw
    have CW := Lib.hid cw
    have hrr : ringB t list = list.all (fitsB t) := by rw [ringB, hln, hin5]; rfl
    rw [← hrr] at cv
    cases hr : ringB t list
    · have HE : Hid (bestOrdF t list = []) := Lib.hid (by simp [bestOrdF, hr])
      rw [hr] at cv
      have CV := Lib.hid cv
      clear cv cw hr hrr hT hS hT0 hS0 hl hln hpl hin5 qT qL hz0
      go_enter Try.func41, Try.ntmps41
      go_wp2_with fail
      clear hW2
      refine CW.out.mono ?_
      rintro e w1 ⟨rfl, rfl⟩
      go_wp2_with fail
      refine CV.out.mono ?_
      rintro e w1 ⟨rfl, hb1⟩
      go_wp2_with fail
      go_ret
      exact ⟨_, _, _, rfl, by rw [HE.out]; exact Ow.nil _ _ _ _, hb0.trans (hb1.mono hb0.size)⟩
    · have HE : Hid (bestOrdF t list = bestOrd t list) := Lib.hid (by simp [bestOrdF, hr])
      have HBO : Hid ((ordL n (n - 1) [0]).foldl (betterO t list) [] = bestOrd t list) := Lib.hid (by rw [bestOrd, hln])
      rw [hr] at cv
      have CV := Lib.hid cv
      obtain ⟨h1, h5⟩ := (ringB_iff.1 hr).1
      rw [hln] at h1 h5
      obtain ⟨b, o, p0, A3, n3, c3, rfl, hbl, hp0, hcell, hrow⟩ := hS0.at_ (k := 0) (by omega)
      have r0 : w.cell? ⟨b, o, none⟩ = some (.slice A3 n3 c3) := hcell
      have HAR : Hid (arrL list [0] = [p0]) := Lib.hid (by simp [arrL, List.getD_eq_getElem?_getD, hp0])
      have R0 := Lib.hid r0
      have HQT := Lib.hid qT
      have HQL := Lib.hid qL
      have EX := Lib.hid (fun (X : World) (gB : Nat) (hg : w.heap.size + 2 ≤ gB) (hbX : Below w.heap.size w X) (hX : gB + 3 ≤ X.heap.size) (hSt : BoSt X w.heap.size (w.heap.size + 1) gB (gB + 1) (gB + 1 + 1) (gB + 3) (.slice At m ct) (.slice (some ⟨b, o, none⟩) n c) t list []) (g0 g1 : Nat) (h0 : gB + 3 ≤ g0) (h1' : gB + 3 ≤ g1)
          (hg0 : X.heap[g0]? = some (.cells #[.int .i64 0] 3 (0, 0))) (hg1 : X.heap[g1]? = some (.cells #[.slice A3 n3 c3] 35 (0, 0))) =>
        extend_c w.heap.size (w.heap.size + 1) gB (gB + 1) (gB + 1 + 1) (gB + 3) w.heap.size (by omega) (by omega) (by omega) (by omega) (by omega) (by omega) (by omega) (by omega) (by omega) (by omega) (by omega) At m ct t (some ⟨b, o, none⟩) n c list hr hl hln (n - 1) (some ⟨g0, 0, none⟩) 1 1 [0] (.slice (some ⟨g1, 0, none⟩) 1 1) X [] hSt
          ⟨rfl, Nat.le_refl _, by omega, fun _ => ⟨g0, _, rfl, h0, hg0, fun j x hx => by
            match j, hx with
            | 0, hx => simp at hx; subst hx; rfl⟩⟩
          ⟨[.slice A3 n3 c3], ⟨by simp, .inr ⟨g1, 1, _, rfl, h1', hg1, Nat.le_refl _, by unfold maxLen; omega, rfl, by simp⟩⟩, by rw [HAR.out]; exact (Rsl.one hrow).below hbX⟩
          (hT0.below hbX) (hS0.below hbX) hbX.size (by omega) (by omega) (isOrd_zero (by omega)) (Nat.le_refl _))
      have n0 : (0 : Int) < (n : Int) := by omega
      have n1 : 0 < n := by omega
      clear cv cw hr hrr hT hS hT0 hS0 hl hln hpl hin5 qT qL hcell hp0 hrow
      go_enter Try.func41, Try.ntmps41
      go_wp2_with fail
      clear hW2
      refine CW.out.mono ?_
      rintro e w1 ⟨rfl, rfl⟩
      go_wp2_with fail
      refine CV.out.mono ?_
      rintro e w1 ⟨rfl, hb1⟩
      have hz1 := hb1.size
      have qT1 := (hb1.block _ (lt_of_heap HQT.out)).trans HQT.out
      have qL1 := (hb1.block _ (lt_of_heap HQL.out)).trans HQL.out
      have r1 := ((hb0.trans (hb1.mono hb0.size)).cell (p := ⟨b, o, none⟩) hbl).trans r0
      go_wp2_with fail
      obtain ⟨X, hX⟩ : ∃ X, ((w1.alloc (.cells #[.slice none 0 0] 35)).alloc (.cells #[.int .i64 0] 3)).alloc (.cells #[(.func (.func 67) #[] #[.pointer (some ⟨w.heap.size + 1, 0, none⟩), .pointer (some ⟨w.heap.size, 0, none⟩), .pointer (some ⟨w1.heap.size, 0, none⟩), .pointer (some ⟨w1.heap.size + 1, 0, none⟩), .pointer (some ⟨w1.heap.size + 1 + 1, 0, none⟩)])] 61) = X := ⟨_, rfl⟩
      rw [hX]
      have hzX : X.heap.size = w1.heap.size + 3 := by rw [← hX]; simp
      have hzX1 : w1.heap.size + 3 ≤ X.heap.size := by omega
      clear hzX
      have hb1X : Below w1.heap.size w1 X := by rw [← hX]; (repeat' (first | (with_reducible exact Below.refl _ _) | (with_reducible assumption) | (with_reducible refine Below.alloc ?_ ?_ _) | (with_reducible refine below_plus ?_ ?_ _ _) | (with_reducible refine Below.drew ?_) | (with_reducible refine Below.setCell ?_ ?_ _) | (with_reducible refine below_adv ?_ ?_ _) | go_size | (simp; done) | (simp; omega)))
      have hbX := (hb0.trans (hb1.mono hb0.size)).trans (hb1X.mono (by omega))
      have hStX : BoSt X w.heap.size (w.heap.size + 1) w1.heap.size (w1.heap.size + 1) (w1.heap.size + 1 + 1) (w1.heap.size + 3) (.slice At m ct) (.slice (some ⟨b, o, none⟩) n c) t list [] := by
        refine ⟨(hb1X.block _ (lt_of_heap qT1)).trans qT1, (hb1X.block _ (lt_of_heap qL1)).trans qL1, ⟨none, 0, 0, ?_, Ow.nil _ _ _ _, fun _ => rfl⟩, ?_, ?_⟩
        · rw [← hX]; exact heap_three0 _ _ _ _
        · rw [← hX]; exact heap_three1 _ _ _ _
        · rw [← hX]; exact heap_three2 _ _ _ _
      have kE := cell_of_one hStX.2.2.2.2
      have kL := cell_of_one hStX.2.1
      have k0 := (hb1X.cell (p := ⟨b, o, none⟩) (show b < w1.heap.size by have := hb0.size; omega)).trans r1
      have HStX := Lib.hid hStX
      have hz0 := hb0.size
      have hgg : w.heap.size + 2 ≤ w1.heap.size := by have := lt_of_heap HQL.out; omega
      clear hX hStX qT1 qL1 r0 r1 cT cL
      go_region_held3 (fun w' => w'.cell? ⟨w1.heap.size + 1 + 1, 0, none⟩ = some (.func (.func 67) #[] #[.pointer (some ⟨w.heap.size + 1, 0, none⟩), .pointer (some ⟨w.heap.size, 0, none⟩), .pointer (some ⟨w1.heap.size, 0, none⟩), .pointer (some ⟨w1.heap.size + 1, 0, none⟩), .pointer (some ⟨w1.heap.size + 1 + 1, 0, none⟩)]) ∧ w'.cell? ⟨w.heap.size + 1, 0, none⟩ = some (.slice (some ⟨b, o, none⟩) n c) ∧ w'.cell? ⟨b, o, none⟩ = some (.slice A3 n3 c3)) (first | go_keep | (exact ⟨kE6, kL6, k06⟩))
        (first | (go_at_call 67; refine (EX.out _ w1.heap.size hgg ?_ ?_ ?_ _ _ ?_ ?_ ?_ ?_).mono ?_; (focus ((repeat' (first | (with_reducible exact Below.refl _ _) | (with_reducible assumption) | (with_reducible refine Below.alloc ?_ ?_ _) | (with_reducible refine below_plus ?_ ?_ _ _) | (with_reducible refine Below.drew ?_) | (with_reducible refine Below.setCell ?_ ?_ _) | (with_reducible refine below_adv ?_ ?_ _) | go_size | (simp; done) | (simp; omega))))); (focus (simp; omega)); (focus (refine HStX.out.below ?_; (repeat' (first | (with_reducible exact Below.refl _ _) | (with_reducible assumption) | (with_reducible refine Below.alloc ?_ ?_ _) | (with_reducible refine below_plus ?_ ?_ _ _) | (with_reducible refine Below.drew ?_) | (with_reducible refine Below.setCell ?_ ?_ _) | (with_reducible refine below_adv ?_ ?_ _) | go_size | (simp; done) | (simp; omega))))); (focus (first | (simp; done) | (simp; omega) | omega)); (focus (first | (simp; done) | (simp; omega) | omega)); (focus (first | exact heap_two0 _ _ _ | exact heap_two1 _ _ _)); (focus (first | exact heap_two0 _ _ _ | exact heap_two1 _ _ _)); rintro e w6 ⟨rfl, hch6, hst6⟩; have hz6 := hch6.size; simp at hz6; have kE6 := cell_of_one hst6.2.2.2.2; have kL6 := cell_of_one hst6.2.1; have hbl6 := hch6.below (B := w.heap.size) (by omega) (by omega) (by simp; omega); have hb06 : Below w.heap.size w w6 := Below.trans (by (repeat' (first | (with_reducible exact Below.refl _ _) | (with_reducible assumption) | (with_reducible refine Below.alloc ?_ ?_ _) | (with_reducible refine below_plus ?_ ?_ _ _) | (with_reducible refine Below.drew ?_) | (with_reducible refine Below.setCell ?_ ?_ _) | (with_reducible refine below_adv ?_ ?_ _) | go_size | (simp; done) | (simp; omega)))) hbl6; have k06 := (hb06.cell (p := ⟨b, o, none⟩) hbl).trans (show w.cell? ⟨b, o, none⟩ = some (.slice A3 n3 c3) from R0.out)) | fail)
      all_goals
        rw [HBO.out] at hst6
        obtain ⟨-, -, ⟨Ab, nb, cb, q3, q4, -⟩, -, -⟩ := hst6
        have cB6 := cell_of_one q3
        have Q4 := Lib.hid (q4.mono (show w.heap.size ≤ w1.heap.size + 3 by omega))
        clear hch6 q3 q4 hbl6
        go_wp2_with fail
        go_ret
        exact ⟨_, _, _, rfl, by rw [HE.out]; exact Q4.out, hb06⟩
end Go.Proofs.Ytlpbmnmhpknppaa
