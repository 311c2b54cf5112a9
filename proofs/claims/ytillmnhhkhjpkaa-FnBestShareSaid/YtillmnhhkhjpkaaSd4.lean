/- impl.BestShare, walked. -/
import Derived.Test.YtillmnhhkhjpkaaSd3
import Derived.Laws.EntriesVeiled
set_option linter.unusedVariables false
set_option linter.unusedSimpArgs false
namespace Go.Proofs.Ytillmnhhkhjpkaa
open Go.RowKit

theorem heap_at {w : World} {o : Obj} {g : Nat} (h : w.heap.size = g) : (w.alloc o).heap[g]? = some o := by
  subst h; exact heap_alloc_new w o
theorem heap_past {w : World} {o o2 : Obj} {g : Nat} (h : w.heap[g]? = some o2) : (w.alloc o).heap[g]? = some o2 := by
  rw [Below.heap_alloc _ _ _ (lt_of_heap h)]; exact h
theorem bestS_srch {cars : List Int} {cs : List CallT} (h : okS cars cs = true) : ∃ x, srch cars.length (cs.map prC) (flt0 cars) [] none = some (x, bestS cars cs) := by
  obtain ⟨⟨k1, -, -⟩, -, -⟩ := okS_iff.1 h
  have := srch_ref (k := cars.length) (by omega) (cs.map prC) (flt0 cars)
  rw [List.length_map] at this
  exact ⟨_, by rw [this, bestS, if_pos h]; rfl⟩
theorem flt0_small {cars : List Int} (h : ∀ x ∈ cars, 0 ≤ x ∧ x ≤ 15) : (flt0 cars).small 0 := fun i => by
  simp only [flt0]
  rw [List.getD_eq_getElem?_getD]
  cases hx : cars[i]? with
  | none => simp
  | some x =>
    have := h x (List.mem_of_getElem? hx)
    simp; omega
set_option maxRecDepth 4000 in
set_option maxHeartbeats 8000000 in
theorem bestShare_c (Ac : Option Addr) (nc cc : Nat) (cars : List Int) (A : Option Addr) (n c : Nat) (cs : List CallT) (w : World) (B : Nat) (hC : Sl w B ILit Ac nc cc cars) (hT : SlC w B A n c cs) (hB : B ≤ w.heap.size) (hn : nc ≤ 1048576) :
    Calls Try.prog 5 #[.slice Ac nc cc, .slice A n c] w (RdNats w (bestS cars cs)) := by
  obtain ⟨hc0, hc1⟩ := hT.cap
  have hl := hC.len
  have hl2 := hT.len
  have hmf : ∀ (fn : Fn) (first cap : Array Value) (w : World), (Instr.makeFunc fn first cap).run Try.prog w = .ok (.func fn first cap) w := fun _ _ _ _ => rfl
  have hb0 : Below w.heap.size w ((w.alloc (.cells #[.slice Ac nc cc] 23)).alloc (.cells #[.slice A n c] 24)) := ((Below.refl _ _).alloc (Nat.le_refl _) _).alloc (by simp) _
  have hC0 := hC.more hB
  have hT0 := hT.more hB
  obtain ⟨W2, hW2⟩ : ∃ W2, (w.alloc (.cells #[.slice Ac nc cc] 23)).alloc (.cells #[.slice A n c] 24) = W2 := ⟨_, rfl⟩
  have qC : W2.heap[w.heap.size]? = some (.cells #[.slice Ac nc cc] 23 (0, 0)) := by rw [← hW2]; exact heap_two0 _ _ _
  have qT : W2.heap[w.heap.size + 1]? = some (.cells #[.slice A n c] 24 (0, 0)) := by rw [← hW2]; exact heap_two1 _ _ _
  rw [hW2] at hb0
  have hz0 : W2.heap.size = w.heap.size + 2 := by rw [← hW2]; simp
  have cC := cell_of_one qC
  have cT := cell_of_one qT
  have cv := validShares_c Ac nc cc cars A n c cs W2 _ (hC0.below hb0) (hT0.below hb0) hb0.size (by omega)
  cases hok : okS cars cs
  · have HE : Hid (bestS cars cs = []) := Lib.hid (by rw [bestS, hok]; rfl)
    rw [hok] at cv
    have CV := Lib.hid cv
    clear cv hC hT hC0 hT0 hl hl2 hok qC qT hz0
    go_enter Try.func5, Try.ntmps5
    go_wp2_with fail
    clear hW2
    refine CV.out.mono ?_
    rintro e w1 ⟨rfl, hb1⟩
    go_wp2_with fail
    go_ret
    exact ⟨_, _, _, rfl, by rw [HE.out]; exact Sl.nil _ _ _, hb0.trans (hb1.mono hb0.size)⟩
  · rw [hok] at cv
    have CV := Lib.hid cv
    obtain ⟨x, hsr⟩ := bestS_srch hok
    obtain ⟨⟨k1, k3, hca⟩, h6, hcl⟩ := okS_iff.1 hok
    rw [hl] at k1 k3 hsr
    rw [hl2] at h6
    have hmk := run_make_row' (P := Try.prog) 23 3 (.int .i64 0) 8 Try.underlying23 info_int rfl .i64 .i64 n (by omega) (by omega)
    rw [made_repN] at hmk
    have HN := Lib.hid (fun w' => Ow.new w' NLit ((List.range n).map fun _ => 0) 3 (by simp; omega))
    obtain ⟨rowz, hrz⟩ : ∃ rz, (((List.range n).map fun _ => (0 : Nat)).map NLit).toArray = rz := ⟨_, rfl⟩
    rw [hrz] at hmk HN
    have HQC := Lib.hid qC
    have HQT := Lib.hid qT
    have HSM := Lib.hid (flt0_small hca)
    have HC0 := Lib.hid hC0
    have HT0 := Lib.hid hT0
    have HCL := Lib.hid hcl
    have HSR := Lib.hid hsr
    clear cv hok hca hcl hC hT hC0 hT0 qC qT hrz hsr
    go_enter Try.func5, Try.ntmps5
    go_wp2_with fail
    clear hW2
    refine CV.out.mono ?_
    rintro e w1 ⟨rfl, hb1⟩
    have hz1 := hb1.size
    have cC1 := (hb1.cell (p := ⟨w.heap.size, 0, none⟩) (show w.heap.size < W2.heap.size by omega)).trans cC
    have cT1 := (hb1.cell (p := ⟨w.heap.size + 1, 0, none⟩) (show w.heap.size + 1 < W2.heap.size by omega)).trans cT
    clear cC cT
    have uC : w.heap.size < w1.heap.size := by omega
    have uT : w.heap.size + 1 < w1.heap.size := by omega
    go_wp2_with fail
    clear hmk cC1 cT1
    obtain ⟨X, hX⟩ : ∃ X, (((((w1.alloc (.cells #[.slice none 0 0] 23)).alloc (.cells #[.int .i64 (-1)] 3)).alloc (.cells rowz 3)).alloc (.cells #[.slice (some ⟨w1.heap.size + 1 + 1, 0, none⟩) n n] 23)).alloc (.cells #[(.func (.func 12) #[] #[.pointer (some ⟨w1.heap.size + 1, 0, none⟩), .pointer (some ⟨w.heap.size + 1, 0, none⟩), .pointer (some ⟨w1.heap.size + 1 + 1 + 1, 0, none⟩), .pointer (some ⟨w1.heap.size, 0, none⟩), .pointer (some ⟨w.heap.size, 0, none⟩), .pointer (some ⟨w1.heap.size + 1 + 1 + 1 + 1, 0, none⟩)])] 34)) = X := ⟨_, rfl⟩
    rw [hX]
    have hzX : X.heap.size = w1.heap.size + 5 := by rw [← hX]; simp
    have hb1X : Below w1.heap.size w1 X := by rw [← hX]; (repeat' (first | (with_reducible exact Below.refl _ _) | (with_reducible assumption) | (with_reducible refine Below.alloc ?_ ?_ _) | (with_reducible refine below_plus ?_ ?_ _ _) | (with_reducible refine Below.drew ?_) | (with_reducible refine Below.setCell ?_ ?_ _) | (with_reducible refine below_adv ?_ ?_ _) | go_size | (simp; done) | (simp; omega)))
    have hrow : Ow X (w1.heap.size + 1 + 1) 3 NLit (some ⟨w1.heap.size + 1 + 1, 0, none⟩) n n ((List.range n).map fun _ => 0) := by
      have h := HN.out ((w1.alloc (.cells #[.slice none 0 0] 23)).alloc (.cells #[.int .i64 (-1)] 3))
      simp only [List.length_map, List.length_range] at h
      have hz : ((w1.alloc (.cells #[.slice none 0 0] 23)).alloc (.cells #[.int .i64 (-1)] 3)).heap.size = w1.heap.size + 1 + 1 := by simp
      rw [hz] at h
      rw [← hX]
      exact (h.below ((Below.refl _ _).alloc (Nat.le_refl _) _)).below ((Below.refl _ _).alloc (Nat.le_refl _) _)
    have hStX : ShSt X w.heap.size (w.heap.size + 1) w1.heap.size (w1.heap.size + 1) (w1.heap.size + 1 + 1) (w1.heap.size + 1 + 1 + 1) (w1.heap.size + 1 + 1 + 1 + 1) (w1.heap.size + 1 + 1 + 1 + 1 + 1) (.slice Ac nc cc) (.slice A n c) n none ((List.range n).map fun _ => 0) := by
      refine ⟨(hb1X.block _ uC).trans ((hb1.block _ (lt_of_heap HQC.out)).trans HQC.out), (hb1X.block _ uT).trans ((hb1.block _ (lt_of_heap HQT.out)).trans HQT.out), ⟨none, 0, 0, ?_, Ow.nil _ _ _ _⟩, ?_, hrow, ?_, ?_, fun s hs => by cases hs⟩
      · rw [← hX]; exact heap_past (heap_past (heap_past (heap_past (heap_at rfl))))
      · rw [← hX]; exact heap_past (heap_past (heap_past (heap_at (by simp))))
      · rw [← hX]; exact heap_past (heap_at (by simp))
      · rw [← hX]; exact heap_at (by simp)
    have hR7 : Row7 w.heap.size (w.heap.size + 1) w1.heap.size (w1.heap.size + 1) (w1.heap.size + 1 + 1) (w1.heap.size + 1 + 1 + 1) (w1.heap.size + 1 + 1 + 1 + 1) (w1.heap.size + 1 + 1 + 1 + 1 + 1) := by unfold Row7; omega
    have hbX := (hb0.trans (hb1.mono hb0.size)).trans (hb1X.mono (by omega))
    have hbxs := hbX.size
    have EX := Lib.hid (fun (X' : World) (hXX : Below X.heap.size X X') => search_c w.heap.size (w.heap.size + 1) w1.heap.size (w1.heap.size + 1) (w1.heap.size + 1 + 1) (w1.heap.size + 1 + 1 + 1) (w1.heap.size + 1 + 1 + 1 + 1) (w1.heap.size + 1 + 1 + 1 + 1 + 1) w.heap.size hR7 Ac nc cc A n c cs h6 k3 (by omega) (fun c hc => ⟨(HCL.out c hc).1, (HCL.out c hc).2.1⟩) n (flt0 cars) 0 0 X' none _ (by simpa using HSM.out) rfl (by omega) (hStX.below hXX) ((HT0.out.below hbX).below (hXX.mono hbxs)) (by have := hXX.size; omega))
    simp only [List.take_zero, List.drop_zero, HSR.out] at EX
    have CN := Lib.hid (fun (X' : World) (hXX : Below X.heap.size X X') => newFleet_c Ac nc cc cars X' _ ((HC0.out.below hbX).below (hXX.mono hbxs)) (Nat.le_trans hbxs hXX.size) k1 k3)
    have kE := cell_of_one hStX.2.2.2.2.2.2.1
    have kC := cell_of_one hStX.1
    have HBX := Lib.hid hbX
    have uE : w1.heap.size + 1 + 1 + 1 + 1 < X.heap.size := by omega
    have uC2 : w.heap.size < X.heap.size := by omega
    clear hX hStX hrow
    go_region_held3 (fun w' => w'.cell? ⟨w1.heap.size + 1 + 1 + 1 + 1, 0, none⟩ = some (.func (.func 12) #[] #[.pointer (some ⟨w1.heap.size + 1, 0, none⟩), .pointer (some ⟨w.heap.size + 1, 0, none⟩), .pointer (some ⟨w1.heap.size + 1 + 1 + 1, 0, none⟩), .pointer (some ⟨w1.heap.size, 0, none⟩), .pointer (some ⟨w.heap.size, 0, none⟩), .pointer (some ⟨w1.heap.size + 1 + 1 + 1 + 1, 0, none⟩)]) ∧ w'.cell? ⟨w.heap.size, 0, none⟩ = some (.slice Ac nc cc)) (first | go_keep | (exact kE3) | (exact kE4))
      (first | (go_at_call 15; refine (CN.out _ (by (repeat' (first | (with_reducible exact Below.refl _ _) | (with_reducible assumption) | (with_reducible refine Below.alloc ?_ ?_ _) | (with_reducible refine below_plus ?_ ?_ _ _) | (with_reducible refine Below.drew ?_) | (with_reducible refine Below.setCell ?_ ?_ _) | (with_reducible refine below_adv ?_ ?_ _) | go_size | (simp; done) | (simp; omega))))).mono ?_; rintro e w3 ⟨rfl, hb3⟩; have hb13 : Below X.heap.size X w3 := Below.trans (by (repeat' (first | (with_reducible exact Below.refl _ _) | (with_reducible assumption) | (with_reducible refine Below.alloc ?_ ?_ _) | (with_reducible refine below_plus ?_ ?_ _ _) | (with_reducible refine Below.drew ?_) | (with_reducible refine Below.setCell ?_ ?_ _) | (with_reducible refine below_adv ?_ ?_ _) | go_size | (simp; done) | (simp; omega)))) (hb3.mono (by (first | (simp; done) | (simp; omega) | omega))); have hz3 := hb13.size; have kE3 := And.intro ((hb13.cell (p := ⟨w1.heap.size + 1 + 1 + 1 + 1, 0, none⟩) uE).trans kE) ((hb13.cell (p := ⟨w.heap.size, 0, none⟩) uC2).trans kC)) | (go_at_call 12; refine (EX.out _ hb13).mono ?_; rintro e w4 ⟨rfl, hch4, xs4, -, hst4⟩; have kE4 := And.intro (cell_of_one hst4.2.2.2.2.2.2.1) (cell_of_one hst4.1); have hb4 := HBX.out.trans ((hb13.mono hbxs).trans (hch4.below (B := w.heap.size) (by omega) (by omega) (by omega) (by omega)))) | fail)
    all_goals
      obtain ⟨-, -, ⟨Ab, nb, cb, q3, q4⟩, -⟩ := hst4
      have cB4 := cell_of_one q3
      have Q4 := Lib.hid q4.sl
      clear hch4 q3 q4 kE3 kE4
      go_wp2_with fail
      go_ret
      exact ⟨_, _, _, rfl, Q4.out, hb4⟩
end Go.Proofs.Ytillmnhhkhjpkaa
