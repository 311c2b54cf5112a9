/- impl.ShareCost of shares that fit, walked. -/
import Derived.Test.YtillmnhhkhjpkaaSd4
set_option linter.unusedVariables false
set_option linter.unusedSimpArgs false
namespace Go.Proofs.Ytillmnhhkhjpkaa
open Go.RowKit

theorem run_snoc {cs : List (Int × Int)} {ss : List Nat} {k s : Nat} {c : Int × Int} (f : Flt) (hc : cs[k]? = some c) (hs : ss[k]? = some s) : f.run (cs.take (k + 1)) (ss.take (k + 1)) = (f.run (cs.take k) (ss.take k)).serve s c := by
  induction k generalizing cs ss f with
  | zero =>
    cases cs with
    | nil => simp at hc
    | cons c0 cs =>
      cases ss with
      | nil => simp at hs
      | cons s0 ss =>
        simp at hc hs
        subst hc hs
        simp [Flt.run, run_nil]
  | succ k ih =>
    cases cs with
    | nil => simp at hc
    | cons c0 cs =>
      cases ss with
      | nil => simp at hs
      | cons s0 ss =>
        simp only [List.getElem?_cons_succ] at hc hs
        simp only [List.take_succ_cons, Flt.run]
        exact ih _ hc hs
theorem cells_fleet {w : World} {g : Nat} {f : Flt} (h : w.heap[g]? = some (.cells #[.int .i64 (f.at_ 0), .int .i64 (f.at_ 1), .int .i64 (f.at_ 2), .int .i64 (f.way 0), .int .i64 (f.way 1), .int .i64 (f.way 2)] 37 (0, 0))) :
    w.cell? ⟨g, 0, none⟩ = some (.int .i64 (f.at_ 0)) ∧ w.cell? ⟨g, 1, none⟩ = some (.int .i64 (f.at_ 1)) ∧ w.cell? ⟨g, 2, none⟩ = some (.int .i64 (f.at_ 2)) ∧ w.cell? ⟨g, 3, none⟩ = some (.int .i64 (f.way 0)) ∧ w.cell? ⟨g, 4, none⟩ = some (.int .i64 (f.way 1)) ∧ w.cell? ⟨g, 5, none⟩ = some (.int .i64 (f.way 2)) := by
  refine ⟨?_, ?_, ?_, ?_, ?_, ?_⟩ <;> rw [cell_of_row _ _ _ _ _ _ h] <;> rfl
theorem free_fleet {w : World} {g i : Nat} {cs : Array Value} {t : TypeId} (h : w.heap[g]? = some (.cells cs t (0, 0))) : w.frozen? ⟨g, i, none⟩ = false := by simp [World.frozen?, h]
theorem six_set {w : World} {g : Nat} {t : TypeId} {v0 v1 v2 v3 v4 v5 : Value} (h : w.heap[g]? = some (.cells #[v0, v1, v2, v3, v4, v5] t (0, 0))) (a0 a1 a2 a3 a4 a5 : Value) :
    ((((((w.setCell ⟨g, 0, none⟩ a0).setCell ⟨g, 1, none⟩ a1).setCell ⟨g, 2, none⟩ a2).setCell ⟨g, 3, none⟩ a3).setCell ⟨g, 4, none⟩ a4).setCell ⟨g, 5, none⟩ a5).heap[g]? = some (.cells #[a0, a1, a2, a3, a4, a5] t (0, 0)) :=
  heap_setCell_same _ g 5 _ _ _ (heap_setCell_same _ g 4 _ _ _ (heap_setCell_same _ g 3 _ _ _ (heap_setCell_same _ g 2 _ _ _ (heap_setCell_same _ g 1 _ _ _ (heap_setCell_same _ g 0 _ _ _ h)))))
set_option maxRecDepth 4000 in
set_option maxHeartbeats 8000000 in
theorem shareCost_c (Ac : Option Addr) (nc cc : Nat) (cars : List Int) (A : Option Addr) (n c : Nat) (cs : List CallT) (A3 : Option Addr) (c3 : Nat) (ss : List Nat) (w : World) (B : Nat) (hC : Sl w B ILit Ac nc cc cars) (hT : SlC w B A n c cs) (hU : Sl w B NLit A3 n c3 ss) (hB : B ≤ w.heap.size) (hn : nc ≤ 1048576)
    (hok : okS cars cs = true) (hss : ∀ s ∈ ss, s < nc) :
    Calls Try.prog 8 #[.slice Ac nc cc, .slice A n c, .slice A3 n c3] w fun e w' => e = .returned (.int .i64 (gCost cars cs ss)) ∧ Below w.heap.size w w' := by
  obtain ⟨hc0, hc1⟩ := hT.cap
  obtain ⟨hd0, hd1⟩ := hU.cap
  obtain ⟨he0, he1⟩ := hC.cap
  have hl := hC.len
  have hl2 := hT.len
  have hl3 := hU.len
  have cv := validShares_c Ac nc cc cars A n c cs w _ hC hT hB (by omega)
  rw [hok] at cv
  have CV := Lib.hid cv
  obtain ⟨⟨k1, k3, hca⟩, h6, hcl⟩ := okS_iff.1 hok
  rw [hl] at k1 k3
  rw [hl2] at h6
  have ca := fun w' (hb : Below w.heap.size w w') => allWithin_c A3 n c3 (ss.map fun (s : Nat) => (s : Int)) 0 ((nc : Int) - 1) w' B (hU.ints.below (hb.mono hB)) (Nat.le_trans hB hb.size) (by omega)
  have hall : allB (ss.map fun (s : Nat) => (s : Int)) 0 ((nc : Int) - 1) = true := by
    rw [allB, List.all_eq_true]
    intro x hx
    obtain ⟨s, hs, rfl⟩ := List.mem_map.1 hx
    have := hss s hs
    simp [inB]; omega
  rw [hall] at ca
  have CA := Lib.hid ca
  have f1 : IntKind.i64.wrap ((nc : Int) - 1) = (nc : Int) - 1 := IntWalk.i64_in _ (by omega)
  have CN := Lib.hid (fun w' (hb : Below w.heap.size w w') => newFleet_c Ac nc cc cars w' B (hC.below (hb.mono hB)) (Nat.le_trans hB hb.size) k1 k3)
  have HT := Lib.hid (hT.more hB)
  have HU := Lib.hid (hU.more hB)
  have HSM := Lib.hid (flt0_small hca)
  have HCL := Lib.hid hcl
  have HSS := Lib.hid hss
  clear cv ca hall hok hca hcl hC hT hU hss
  go_enter Try.func8, Try.ntmps8
  go_wp2_with fail
  refine CV.out.mono ?_
  rintro e w1 ⟨rfl, hb1⟩
  go_wp2_with fail
  refine (CA.out _ hb1).mono ?_
  rintro e w2 ⟨rfl, hb2⟩
  have hb02 := hb1.trans (hb2.mono hb1.size)
  clear hb1 hb2 f1
  go_wp2_with fail
  refine (CN.out _ hb02).mono ?_
  rintro e w3 ⟨rfl, hb3⟩
  have hb03 := hb02.trans (hb3.mono hb02.size)
  have hz03 := hb03.size
  clear hb02 hb3
  go_wp2_with fail
  obtain ⟨wB, hwB⟩ : ∃ wB, w3.alloc (.cells #[.int .i64 ((flt0 cars).at_ 0), .int .i64 ((flt0 cars).at_ 1), .int .i64 ((flt0 cars).at_ 2), .int .i64 ((flt0 cars).way 0), .int .i64 ((flt0 cars).way 1), .int .i64 ((flt0 cars).way 2)] 37) = wB := ⟨_, rfl⟩
  rw [hwB]
  have hbB : Below w.heap.size w wB := by rw [← hwB]; exact hb03.alloc hz03 _
  have hbox : wB.heap[w3.heap.size]? = some (.cells #[.int .i64 ((flt0 cars).at_ 0), .int .i64 ((flt0 cars).at_ 1), .int .i64 ((flt0 cars).at_ 2), .int .i64 ((flt0 cars).way 0), .int .i64 ((flt0 cars).way 1), .int .i64 ((flt0 cars).way 2)] 37 (0, 0)) := by rw [← hwB]; exact heap_alloc_new w3 _
  obtain ⟨g, hg⟩ : ∃ g, w3.heap.size = g := ⟨_, rfl⟩
  rw [hg] at hbox hz03
  simp only [hg]
  clear hwB hg hb03
  go_loopw [33] (fun i wr => ∃ (k : Nat) (f : Flt), k ≤ n ∧ i = .int .i64 k ∧ Hid (f = (flt0 cars).run ((cs.map prC).take k) (ss.take k)) ∧ Hid (f.small (2000000 * k)) ∧ Hid (wr.heap[g]? = some (.cells #[.int .i64 (f.at_ 0), .int .i64 (f.at_ 1), .int .i64 (f.at_ 2), .int .i64 (f.way 0), .int .i64 (f.way 1), .int .i64 (f.way 2)] 37 (0, 0))) ∧ Below w.heap.size w wr) (fun i _ => n - (intOf i).toNat)
  case atStart => exact ⟨0, flt0 cars, by omega, rfl, Lib.hid (by simp [run_nil]), Lib.hid (by simpa using HSM.out), Lib.hid hbox, hbB⟩
  case round =>
    clear hbox hbB
    obtain ⟨k, f, hk, rfl, hf, hsm, hbox, hb⟩ := hrel
    have hzr := hb.size
    obtain ⟨b0, b1, b2, b3, b4, b5⟩ := cells_fleet hbox.out
    have qF := lt_of_heap hbox.out
    by_cases hlt : k < n
    · obtain ⟨b, o, x, y, z, rfl, hbl, hx, q1, q2, q3⟩ := (HT.out.below hb).at_ hlt
      obtain ⟨b', o', sv, rfl, hbl2, hsv, q4⟩ := (HU.out.below hb).at_ hlt
      obtain ⟨⟨x0, x1⟩, ⟨y0, y1⟩, -⟩ := HCL.out _ (List.mem_of_getElem? hx)
      dsimp only at x0 x1 y0 y1
      have hs3 := HSS.out sv (List.mem_of_getElem? hsv)
      have q4' : wr.cell? ⟨b', o' + k, none⟩ = some (.int .i64 (sv : Int)) := q4
      have n0 : (0 : Int) ≤ (k : Int) := by omega
      have n1 : (k : Int) < (n : Int) := by omega
      have u1 : b < wr.heap.size := by omega
      have u2 : b' < wr.heap.size := by omega
      have CS := Lib.hid (fun w' => serve_c f sv x y z w' (fun i => by have h := hsm.out i; omega) (by omega) ⟨x0, by omega⟩ ⟨y0, by omega⟩)
      have HFN : Hid (f.serve sv (x, y) = (flt0 cars).run ((cs.map prC).take (k + 1)) (ss.take (k + 1))) := Lib.hid (by
        rw [run_snoc (flt0 cars) (show (cs.map prC)[k]? = some (x, y) by rw [List.getElem?_map, hx]; rfl) hsv, ← hf.out])
      have HSN : Hid ((f.serve sv (x, y)).small (2000000 * ((k + 1 : Nat) : Int))) := Lib.hid (by
        have h := hsm.out.serve (by omega) (c := (x, y)) (show 0 ≤ x ∧ x ≤ 1000000 by omega) (show 0 ≤ y ∧ y ≤ 1000000 by omega) sv
        have e : 2000000 * ((k + 1 : Nat) : Int) = 2000000 * (k : Int) + 2000000 := by omega
        rw [e]; exact h)
      clear hx hsv q4
      go_wp2_with fail
      go_still_tail 6, (by kernel_rfl)
      change wpList _ _ _ _ _ wr.drew
      go_wp2_with (go_at_call 14; refine (CS.out _).mono ?_; rintro e w4 ⟨rfl, hb4⟩; have hbr4 := below_undrew hb4; have hbox4 := (hbr4.block g qF).trans hbox.out; obtain ⟨c0, c1, c2, c3, c4, c5⟩ := cells_fleet hbox4; have d0 := fun i => free_fleet (i := i) hbox4)
      have hbr := hb.trans (hbr4.mono hzr)
      exact ⟨⟨k + 1, f.serve sv (x, y), by omega, by go_num, HFN, HSN, Lib.hid (six_set hbox4 _ _ _ _ _ _), (((((hbr.setCell hz03 _).setCell hz03 _).setCell hz03 _).setCell hz03 _).setCell hz03 _).setCell hz03 _⟩, by simp [intOf]; omega⟩
    · obtain rfl : k = n := by omega
      have hE : f = (flt0 cars).run (cs.map prC) ss := by
        rw [hf.out, List.take_of_length_le (by rw [List.length_map]; omega), List.take_of_length_le (by omega)]
      have HE : Hid (gCost cars cs ss = f.cost) := Lib.hid (by rw [hE]; rfl)
      clear hE
      go_wp2_with fail
      refine (cost_c f _).mono ?_
      rintro e w4 ⟨rfl, hb4⟩
      go_wp2_with fail
      go_ret
      exact ⟨by rw [HE.out]; rfl, hb.trans (hb4.mono hzr)⟩
end Go.Proofs.Ytillmnhhkhjpkaa
