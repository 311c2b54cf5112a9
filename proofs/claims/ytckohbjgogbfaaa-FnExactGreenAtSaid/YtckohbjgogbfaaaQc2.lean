/- Cycles of plans: the reference's gapAfter and cycle; CycleOf of both. -/
import Derived.Test.YtckohbjgogbfaaaQc1
import Derived.Test.YtckohbjgogbfaaaPd
set_option linter.unusedVariables false
set_option linter.unusedSimpArgs false
namespace Go.Proofs.Ytckohbjgogbfaaa
open Go.RowKit

set_option maxHeartbeats 4000000 in
theorem gapAfter_c (At : Option Addr) (m ct : Nat) (t : List (List Int)) (A : Option Addr) (n c : Nat) (ss : List (List Int × Int)) (k : Nat) (w : World) (B : Nat) (hT : Sl2 w B ILit At m ct t) (hS : SlS w B A n c ss) (hB : B ≤ w.heap.size) (hk : k < n) (hn : n ≤ 1048576)
    (hsq : sqB t = true) (hin : ∀ s ∈ ss, ∀ x ∈ s.1, 0 ≤ x ∧ x < m) (hpl : ∀ s ∈ ss, s.1.length ≤ 1048576) :
    Calls Try.prog 60 #[.agg #[.slice At m ct, .slice A n c], .int .i64 k] w fun e w' => e = .returned (.int .i64 (gapN t ss k)) ∧ Below w.heap.size w w' := by
  obtain ⟨W2, hW2⟩ : ∃ W2, w.alloc (.cells #[.slice At m ct, .slice A n c] 26) = W2 := ⟨_, rfl⟩
  have hb0 : Below w.heap.size w W2 := by rw [← hW2]; exact (Below.refl _ _).alloc (Nat.le_refl _) _
  have hh : W2.heap[w.heap.size]? = some (.cells #[.slice At m ct, .slice A n c] 26 (0, 0)) := by rw [← hW2]; exact heap_alloc_new w _
  have hzl := lt_of_heap hh
  have k0 : W2.cell? ⟨w.heap.size, 0, none⟩ = some (.slice At m ct) := by rw [cell_of_row _ _ _ _ _ _ hh]; rfl
  have k1 : W2.cell? ⟨w.heap.size, 1, none⟩ = some (.slice A n c) := by rw [cell_of_row _ _ _ _ _ _ hh]; rfl
  have hT0 := ((hT.more hB).below hb0).more hb0.size
  have hS0 := ((hS.more hB).below hb0).more hb0.size
  have hln := hS.len
  obtain ⟨b, o, ph, g, A1, n1, c1, rfl, hbl, hx, hcell, hcellg, hrow⟩ := hS0.at_ hk
  have hj2 := next_at hk
  obtain ⟨b', o', ph2, g2, A2, n2, c2, hA, -, hy, hcell2, -, hrow2⟩ := hS0.at_ hj2
  injection hA with hA
  injection hA with hA1 hA2
  subst hA1 hA2
  obtain ⟨j, hje⟩ : ∃ j, (k + 1) % n = j := ⟨_, rfl⟩
  rw [hje] at hcell2 hj2 hy
  obtain ⟨e1, e2⟩ := phAt_of hx
  obtain ⟨e3, -⟩ := phAt_of hy
  have HE : Hid (gapN t ss k = changeN t ph ph2) := Lib.hid (by rw [gapN, e1, hln, hje, e3])
  have hp1 := hpl _ (List.mem_of_getElem? hx)
  have hp2 := hpl _ (List.mem_of_getElem? hy)
  simp only at hp1 hp2
  rw [hrow.len] at hp1
  rw [hrow2.len] at hp2
  have CC := Lib.hid (fun (os : Array Obj) (d : Nat) => sChange_c At m ct t A1 n1 c1 ph A2 n2 c2 ph2 (plus W2 os d) _ (hT0.plus (Nat.le_refl _) os d) (hrow.plus (Nat.le_refl _) os d) (hrow2.plus (Nat.le_refl _) os d) (by simp) (by omega) (by omega) hsq (hin _ (List.mem_of_getElem? hx)) (hin _ (List.mem_of_getElem? hy)))
  have hmod : ((k : Int) + 1).tmod (n : Int) = (j : Int) := by rw [show ((k : Int) + 1) = ((k + 1 : Nat) : Int) from rfl, ← hje]; rfl
  have i0 : (0 : Int) ≤ (k : Int) := by omega
  have i1 : (k : Int) < (n : Int) := by omega
  have j0 : (0 : Int) ≤ (j : Int) := by omega
  have j1 : (j : Int) < (n : Int) := by omega
  have n0 : ((n : Int) == 0) = false := by simp; omega
  have n1' : ¬ n = 0 := by omega
  have s1 : IntKind.i64.wrap ((k : Int) + 1) = (k : Int) + 1 := IntWalk.i64_in _ (by omega)
  have s2 : IntKind.i64.wrap (j : Int) = (j : Int) := IntWalk.i64_in _ (by omega)
  have HB0 := Lib.hid hb0
  clear hh hT hS hT0 hS0 hx hy hrow hrow2 e1 e2 e3 hje hln hsq hin hpl hb0
  go_enter Try.func60, Try.ntmps60
  go_wp2_with fail
  clear hW2
  refine wp_region_plus (by kernel_rfl) (by kernel_rfl) ?_; (repeat (go_big_quiet_step ((go_at_call 75; exact quiet_plus (CC.out _ _))))); refine wpQuiet_nil ?_; intro _ hw'; obtain ⟨⟨osq, dq⟩, hw''⟩ := hw'; subst hw''
  clear s1 s2 hmod
  go_wp2_with fail
  go_ret
  exact ⟨by rw [HE.out]; rfl, HB0.out.trans ((by (repeat' (first | (with_reducible exact Below.refl _ _) | (with_reducible assumption) | (with_reducible refine Below.alloc ?_ ?_ _) | (with_reducible refine below_plus ?_ ?_ _ _) | (with_reducible refine Below.drew ?_) | (with_reducible refine Below.setCell ?_ ?_ _) | (with_reducible refine below_adv ?_ ?_ _) | go_size | (simp; done) | (simp; omega))) : Below W2.heap.size W2 _).mono HB0.out.size)⟩

set_option maxHeartbeats 4000000 in
theorem sCycle_c (At : Option Addr) (m ct : Nat) (t : List (List Int)) (A : Option Addr) (n c : Nat) (ss : List (List Int × Int)) (w : World) (B : Nat) (hT : Sl2 w B ILit At m ct t) (hS : SlS w B A n c ss) (hB : B ≤ w.heap.size) (hn : n ≤ 1048576)
    (hsq : sqB t = true) (hic : inC t = true) (hin : ∀ s ∈ ss, ∀ x ∈ s.1, 0 ≤ x ∧ x < m) (hgr : grOk ss) (hpl : ∀ s ∈ ss, s.1.length ≤ 1048576) :
    Calls Try.prog 32 #[.agg #[.slice At m ct, .slice A n c]] w fun e w' => e = .returned (.int .i64 (cycN t ss)) ∧ Below w.heap.size w w' := by
  obtain ⟨hc0, hc1⟩ := hS.cap
  obtain ⟨W2, hW2⟩ : ∃ W2, w.alloc (.cells #[.slice At m ct, .slice A n c] 26) = W2 := ⟨_, rfl⟩
  have hb0 : Below w.heap.size w W2 := by rw [← hW2]; exact (Below.refl _ _).alloc (Nat.le_refl _) _
  have hh : W2.heap[w.heap.size]? = some (.cells #[.slice At m ct, .slice A n c] 26 (0, 0)) := by rw [← hW2]; exact heap_alloc_new w _
  have hzl := lt_of_heap hh
  have k0 : W2.cell? ⟨w.heap.size, 0, none⟩ = some (.slice At m ct) := by rw [cell_of_row _ _ _ _ _ _ hh]; rfl
  have k1 : W2.cell? ⟨w.heap.size, 1, none⟩ = some (.slice A n c) := by rw [cell_of_row _ _ _ _ _ _ hh]; rfl
  have hT0 := ((hT.more hB).below hb0).more hb0.size
  have hS0 := ((hS.more hB).below hb0).more hb0.size
  have HLN := Lib.hid hS.len
  have HIC := Lib.hid hic
  have HGR := Lib.hid hgr
  have CG := Lib.hid (fun (k : Nat) (hk : k < n) w' (hw : Below W2.heap.size W2 w') => gapAfter_c At m ct t A n c ss k w' _ (hT0.below hw) (hS0.below hw) hw.size hk hn hsq hin hpl)
  clear hh hT hS hsq hic hin hgr hpl hT0
  go_enter Try.func32, Try.ntmps32
  go_wp2_with fail
  clear hW2
  go_loopw [3, 4] (fun l i wr => ∃ (k : Nat), k ≤ n ∧ i = .int .i64 k ∧ l = .int .i64 (cycUp t ss k) ∧ Below W2.heap.size W2 wr) (fun _ i _ => n - (intOf i).toNat)
  case atStart => exact ⟨0, by omega, rfl, rfl, Below.refl _ _⟩
  case round =>
    obtain ⟨k, hk, rfl, rfl, hb⟩ := hrel
    have hzr := hb.size
    have k0r := (hb.cell (p := ⟨w.heap.size, 0, none⟩) hzl).trans k0
    have k1r := (hb.cell (p := ⟨w.heap.size, 1, none⟩) hzl).trans k1
    by_cases hlt : k < n
    · obtain ⟨b, o, ph, g, A1, n1, c1, rfl, hbl, hx, hcell, hcellg, hrow⟩ := hS0.at_ hlt
      have r2 := (hb.cell (p := ⟨b, o + k * 2 + 1, none⟩) hbl).trans hcellg
      obtain ⟨e1, e2⟩ := phAt_of hx
      have HE : Hid (cycUp t ss (k + 1) = cycUp t ss k + g + gapN t ss k) := Lib.hid (by rw [cycUp, e2]; omega)
      obtain ⟨g5, g40⟩ := HGR.out _ (List.mem_of_getElem? hx)
      obtain ⟨d0, d1⟩ := changeN_bd HIC.out (phAt ss k) (phAt ss ((k + 1) % ss.length))
      obtain ⟨l0, l1⟩ := cycUp_bd HIC.out HGR.out k
      change 0 ≤ gapN t ss k at d0
      change gapN t ss k ≤ 5 at d1
      have CG1 := Lib.hid (fun (os : Array Obj) (d : Nat) => CG.out k hlt (plus wr os d) (by (repeat' (first | (with_reducible exact Below.refl _ _) | (with_reducible assumption) | (with_reducible refine Below.alloc ?_ ?_ _) | (with_reducible refine below_plus ?_ ?_ _ _) | (with_reducible refine Below.drew ?_) | (with_reducible refine Below.setCell ?_ ?_ _) | (with_reducible refine below_adv ?_ ?_ _) | go_size | (simp; done) | (simp; omega)))))
      have q1 : w.heap.size < wr.heap.size := by omega
      have q2 : b < wr.heap.size := by omega
      have i0 : (0 : Int) ≤ (k : Int) := by omega
      have i1 : (k : Int) < (n : Int) := by omega
      have w1 : IntKind.i64.wrap (cycUp t ss k + g) = cycUp t ss k + g := IntWalk.i64_in _ (by omega)
      have w2 : IntKind.i64.wrap (cycUp t ss k + g + gapN t ss k) = cycUp t ss k + g + gapN t ss k := IntWalk.i64_in _ (by omega)
      have HB := Lib.hid hb
      have HK := Lib.hid (show k + 1 ≤ n by omega)
      clear hcell hcellg hrow hx e1 e2 hb
      go_wp2_with fail
      refine wp_region_plus (by kernel_rfl) (by kernel_rfl) ?_; (repeat (go_big_quiet_step ((go_at_call 60; exact quiet_plus (CG1.out _ _))))); refine wpQuiet_nil ?_; intro _ hw'; obtain ⟨⟨osq, dq⟩, hw''⟩ := hw'; subst hw''
      clear w1 w2
      go_wp2_with fail
      go_roundw
      case rel => exact ⟨k + 1, HK.out, by go_num, by rw [HE.out], by have hb := HB.out; (repeat' (first | (with_reducible exact Below.refl _ _) | (with_reducible assumption) | (with_reducible refine Below.alloc ?_ ?_ _) | (with_reducible refine below_plus ?_ ?_ _ _) | (with_reducible refine Below.drew ?_) | (with_reducible refine Below.setCell ?_ ?_ _) | (with_reducible refine below_adv ?_ ?_ _) | go_size | (simp; done) | (simp; omega)))⟩
      case measure => simp [intOf]; omega
    · obtain rfl : k = n := by omega
      have HE : Hid (cycUp t ss k = cycN t ss) := Lib.hid (by rw [cycN, HLN.out])
      go_wp2_with fail
      go_ret
      exact ⟨by rw [← HE.out]; rfl, hb0.trans (hb.mono hb0.size)⟩

/-- What CycleOf returns. -/
def cycF (t : List (List Int)) (ss : List (List Int × Int)) : Int := if planB t ss = true then cycN t ss else -1
theorem plan_iff {t : List (List Int)} {ss : List (List Int × Int)} : planB t ss = true ↔ cOk t = true ∧ (1 ≤ ss.length ∧ ss.length ≤ 5) ∧ ∀ s ∈ ss, fitsB t s.1 = true ∧ 5 ≤ s.2 ∧ s.2 ≤ 40 := by
  simp only [planB, inB, stageB, Bool.and_eq_true, decide_eq_true_eq, List.all_eq_true]
  constructor
  · rintro ⟨⟨h1, h2⟩, h3⟩; exact ⟨h1, by omega, fun s hs => ⟨(h3 s hs).1, (h3 s hs).2.1, (h3 s hs).2.2⟩⟩
  · rintro ⟨h1, h2, h3⟩; exact ⟨⟨h1, by omega⟩, fun s hs => ⟨(h3 s hs).1, (h3 s hs).2.1, (h3 s hs).2.2⟩⟩
theorem plan_parts {t : List (List Int)} {ss : List (List Int × Int)} {m n : Nat} (h : planB t ss = true) (hm : t.length = m) (hn : ss.length = n) :
    sqB t = true ∧ inC t = true ∧ (∀ s ∈ ss, ∀ x ∈ s.1, 0 ≤ x ∧ x < m) ∧ grOk ss ∧ 1 ≤ n ∧ n ≤ 5 := by
  obtain ⟨a1, a2, a3⟩ := plan_iff.1 h
  obtain ⟨-, -, b1, b2, -⟩ := cOk_iff.1 a1
  exact ⟨b1, b2, fun s hs => by rw [← hm]; exact fitsB_in (a3 s hs).1, fun s hs => (a3 s hs).2, by omega, by omega⟩

set_option maxHeartbeats 4000000 in
theorem cycleOf_c (At : Option Addr) (m ct : Nat) (t : List (List Int)) (A : Option Addr) (n c : Nat) (ss : List (List Int × Int)) (w : World) (B : Nat) (hT : Sl2 w B ILit At m ct t) (hS : SlS w B A n c ss) (hB : B ≤ w.heap.size) (hpl : ∀ s ∈ ss, s.1.length ≤ 1048576) :
    Calls Try.prog 12 #[.agg #[.slice At m ct, .slice A n c]] w fun e w' => e = .returned (.int .i64 (cycF t ss)) ∧ Below w.heap.size w w' := by
  obtain ⟨W2, hW2⟩ : ∃ W2, w.alloc (.cells #[.slice At m ct, .slice A n c] 26) = W2 := ⟨_, rfl⟩
  have hb0 : Below w.heap.size w W2 := by rw [← hW2]; exact (Below.refl _ _).alloc (Nat.le_refl _) _
  have hh : W2.heap[w.heap.size]? = some (.cells #[.slice At m ct, .slice A n c] 26 (0, 0)) := by rw [← hW2]; exact heap_alloc_new w _
  have hzl := lt_of_heap hh
  have k0 : W2.cell? ⟨w.heap.size, 0, none⟩ = some (.slice At m ct) := by rw [cell_of_row _ _ _ _ _ _ hh]; rfl
  have k1 : W2.cell? ⟨w.heap.size, 1, none⟩ = some (.slice A n c) := by rw [cell_of_row _ _ _ _ _ _ hh]; rfl
  have hT0 := ((hT.more hB).below hb0).more hb0.size
  have hS0 := ((hS.more hB).below hb0).more hb0.size
  have cv := validPlan_c At m ct t A n c ss W2 _ hT0 hS0 (Nat.le_refl _) (fun s hs => Nat.le_trans (hpl s hs) (by omega))
  have htl := hT.len
  have hsl := hS.len
  cases hok : planB t ss
  · have HE : Hid (cycF t ss = -1) := Lib.hid (by simp [cycF, hok])
    rw [hok] at cv
    have CV := Lib.hid cv
    clear cv hok hT hS hT0 hS0 hh hpl
    go_enter Try.func12, Try.ntmps12
    go_wp2_with fail
    clear hW2
    refine CV.out.mono ?_
    rintro e w1 ⟨rfl, hb1⟩
    go_wp2_with fail
    go_ret
    exact ⟨by rw [HE.out]; rfl, hb0.trans (hb1.mono hb0.size)⟩
  · have HE : Hid (cycF t ss = cycN t ss) := Lib.hid (by simp [cycF, hok])
    obtain ⟨p1, p2, p3, p4, p5, p6⟩ := plan_parts hok htl hsl
    rw [hok] at cv
    have CV := Lib.hid cv
    have CC := Lib.hid (fun w' (hw : Below W2.heap.size W2 w') => cycle_c At m ct t A n c ss w' _ (hT0.below hw) (hS0.below hw) hw.size (by omega) p1 p2 p3 p4)
    clear cv hok hT hS hT0 hS0 hh hpl p1 p2 p3 p4
    go_enter Try.func12, Try.ntmps12
    go_wp2_with fail
    clear hW2
    refine CV.out.mono ?_
    rintro e w1 ⟨rfl, hb1⟩
    have k01 := (hb1.cell (p := ⟨w.heap.size, 0, none⟩) hzl).trans k0
    have k11 := (hb1.cell (p := ⟨w.heap.size, 1, none⟩) hzl).trans k1
    go_wp2_with fail
    refine (CC.out w1 hb1).mono ?_
    rintro e w2 ⟨rfl, hb2⟩
    go_wp2_with fail
    go_ret
    exact ⟨by rw [HE.out]; rfl, hb0.trans ((hb1.trans (hb2.mono hb1.size)).mono hb0.size)⟩

end Go.Proofs.Ytckohbjgogbfaaa
