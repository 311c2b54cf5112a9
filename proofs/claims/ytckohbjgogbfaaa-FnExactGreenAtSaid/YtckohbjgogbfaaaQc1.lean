/- Cycles of plans: the program's next, beginOf, cycle, walked. -/
import Derived.Test.YtckohbjgogbfaaaQa2
import Derived.Test.YtckohbjgogbfaaaPe
set_option linter.unusedVariables false
set_option linter.unusedSimpArgs false
namespace Go.Proofs.Ytckohbjgogbfaaa
open Go.RowKit

/-- The phase of a stage; the seconds ahead of stage k. -/
def phAt (ss : List (List Int × Int)) (k : Nat) : List Int := (ss.getD k ([], 0)).1
def grAt (ss : List (List Int × Int)) (k : Nat) : Int := (ss.getD k ([], 0)).2
def gapN (t : List (List Int)) (ss : List (List Int × Int)) (k : Nat) : Int := changeN t (phAt ss k) (phAt ss ((k + 1) % ss.length))
def cycUp (t : List (List Int)) (ss : List (List Int × Int)) : Nat → Int
  | 0 => 0
  | k + 1 => cycUp t ss k + (grAt ss k + gapN t ss k)
def cycN (t : List (List Int)) (ss : List (List Int × Int)) : Int := cycUp t ss ss.length
theorem phAt_of {ss : List (List Int × Int)} {k : Nat} {ph : List Int} {g : Int} (h : ss[k]? = some (ph, g)) : phAt ss k = ph ∧ grAt ss k = g := by
  simp [phAt, grAt, List.getD_eq_getElem?_getD, h]
/-- Greens are between 5 and 40. -/
def grOk (ss : List (List Int × Int)) : Prop := ∀ s ∈ ss, 5 ≤ s.2 ∧ s.2 ≤ 40
theorem grAt_bd {ss : List (List Int × Int)} (h : grOk ss) (k : Nat) : 0 ≤ grAt ss k ∧ grAt ss k ≤ 40 := by
  simp only [grAt, List.getD_eq_getElem?_getD]
  cases hk : ss[k]? with
  | none => simp
  | some s => have := h s (List.mem_of_getElem? hk); simp; omega
theorem cycUp_bd {t : List (List Int)} (hi : inC t = true) {ss : List (List Int × Int)} (h : grOk ss) (k : Nat) : 0 ≤ cycUp t ss k ∧ cycUp t ss k ≤ 45 * k := by
  induction k with
  | zero => exact ⟨Int.le_refl _, Int.le_refl _⟩
  | succ k ih =>
    have h1 := grAt_bd h k
    have h2 := changeN_bd hi (phAt ss k) (phAt ss ((k + 1) % ss.length))
    unfold cycUp gapN
    omega

set_option maxHeartbeats 4000000 in
theorem next_c (At : Option Addr) (m ct b o n c k j : Nat) (A2 : Option Addr) (n2 c2 : Nat) (w : World) (hb : b < w.heap.size) (hkn : k < n) (hn : n ≤ 1048576) (hj : (k + 1) % n = j) (hcell : w.cell? ⟨b, o + j * 2, none⟩ = some (.slice A2 n2 c2)) :
    Calls Try.prog 54 #[.agg #[.slice At m ct, .slice (some ⟨b, o, none⟩) n c], .int .i64 k] w fun e w' => e = .returned (.slice A2 n2 c2) ∧ Below w.heap.size w w' := by
  obtain ⟨W2, hW2⟩ : ∃ W2, w.alloc (.cells #[.slice At m ct, .slice (some ⟨b, o, none⟩) n c] 26) = W2 := ⟨_, rfl⟩
  have hb0 : Below w.heap.size w W2 := by rw [← hW2]; exact (Below.refl _ _).alloc (Nat.le_refl _) _
  have hh : W2.heap[w.heap.size]? = some (.cells #[.slice At m ct, .slice (some ⟨b, o, none⟩) n c] 26 (0, 0)) := by rw [← hW2]; exact heap_alloc_new w _
  have hzl := lt_of_heap hh
  have k1 : W2.cell? ⟨w.heap.size, 1, none⟩ = some (.slice (some ⟨b, o, none⟩) n c) := by rw [cell_of_row _ _ _ _ _ _ hh]; rfl
  have k2 := (hb0.cell (p := ⟨b, o + j * 2, none⟩) hb).trans hcell
  have hjn : j < n := by rw [← hj]; exact next_at hkn
  have hmod : ((k : Int) + 1).tmod (n : Int) = (j : Int) := by rw [show ((k : Int) + 1) = ((k + 1 : Nat) : Int) from rfl, ← hj]; rfl
  have i0 : (0 : Int) ≤ (k : Int) := by omega
  have j0 : (0 : Int) ≤ (j : Int) := by omega
  have j1 : (j : Int) < (n : Int) := by omega
  have n0 : ((n : Int) == 0) = false := by simp; omega
  have n1 : ¬ n = 0 := by omega
  have s1 : IntKind.i64.wrap ((k : Int) + 1) = (k : Int) + 1 := IntWalk.i64_in _ (by omega)
  have s2 : IntKind.i64.wrap (j : Int) = (j : Int) := IntWalk.i64_in _ (by omega)
  have hbw : b < W2.heap.size := by omega
  have HB0 := Lib.hid hb0
  clear hh hcell hj hb0
  go_enter Try.func54, Try.ntmps54
  go_wp2_with fail
  clear hW2
  refine wp_region_plus (by kernel_rfl) (by kernel_rfl) ?_; (repeat (go_big_quiet_step (fail))); refine wpQuiet_nil ?_; intro _ hw'; obtain ⟨⟨osq, dq⟩, hw''⟩ := hw'; subst hw''
  clear s1 s2 hmod
  go_wp2_with fail
  go_ret
  exact ⟨rfl, HB0.out.trans ((by (repeat' (first | (with_reducible exact Below.refl _ _) | (with_reducible assumption) | (with_reducible refine Below.alloc ?_ ?_ _) | (with_reducible refine below_plus ?_ ?_ _ _) | (with_reducible refine Below.drew ?_) | (with_reducible refine Below.setCell ?_ ?_ _) | (with_reducible refine below_adv ?_ ?_ _) | go_size | (simp; done) | (simp; omega))) : Below W2.heap.size W2 _).mono HB0.out.size)⟩

set_option maxHeartbeats 4000000 in
theorem beginOf_c (At : Option Addr) (m ct : Nat) (t : List (List Int)) (A : Option Addr) (n c : Nat) (ss : List (List Int × Int)) (k : Nat) (w : World) (B : Nat) (hT : Sl2 w B ILit At m ct t) (hS : SlS w B A n c ss) (hB : B ≤ w.heap.size) (hk : k ≤ n) (hn : n ≤ 1048576)
    (hsq : sqB t = true) (hic : inC t = true) (hin : ∀ s ∈ ss, ∀ x ∈ s.1, 0 ≤ x ∧ x < m) (hgr : grOk ss) :
    Calls Try.prog 52 #[.agg #[.slice At m ct, .slice A n c], .int .i64 k] w fun e w' => e = .returned (.int .i64 (cycUp t ss k)) ∧ Below w.heap.size w w' := by
  obtain ⟨hc0, hc1⟩ := hS.cap
  obtain ⟨W2, hW2⟩ : ∃ W2, w.alloc (.cells #[.slice At m ct, .slice A n c] 26) = W2 := ⟨_, rfl⟩
  have hb0 : Below w.heap.size w W2 := by rw [← hW2]; exact (Below.refl _ _).alloc (Nat.le_refl _) _
  have hh : W2.heap[w.heap.size]? = some (.cells #[.slice At m ct, .slice A n c] 26 (0, 0)) := by rw [← hW2]; exact heap_alloc_new w _
  have hzl := lt_of_heap hh
  have k0 : W2.cell? ⟨w.heap.size, 0, none⟩ = some (.slice At m ct) := by rw [cell_of_row _ _ _ _ _ _ hh]; rfl
  have k1 : W2.cell? ⟨w.heap.size, 1, none⟩ = some (.slice A n c) := by rw [cell_of_row _ _ _ _ _ _ hh]; rfl
  have hT0 := ((hT.more hB).below hb0).more hb0.size
  have hS0 := ((hS.more hB).below hb0).more hb0.size
  have HLN := Lib.hid hS.len
  have HSQ := Lib.hid hsq
  have HIC := Lib.hid hic
  have HIN := Lib.hid hin
  have HGR := Lib.hid hgr
  have i0 : (0 : Int) ≤ (k : Int) := by omega
  have i1 : (k : Int) ≤ (c : Int) := by omega
  clear hh hT hS hsq hic hin hgr
  go_enter Try.func52, Try.ntmps52
  go_wp2_with fail
  clear hW2
  go_loopw [5, 13] (fun l i wr => ∃ (j : Nat), j ≤ k ∧ i = .int .i64 j ∧ l = .int .i64 (cycUp t ss j) ∧ Below W2.heap.size W2 wr) (fun _ i _ => k - (intOf i).toNat)
  case atStart => exact ⟨0, by omega, rfl, rfl, Below.refl _ _⟩
  case round =>
    obtain ⟨j, hjk, rfl, rfl, hb⟩ := hrel
    have hzr := hb.size
    by_cases hlt : j < k
    · have hjn : j < n := by omega
      obtain ⟨b, o, ph, g, A1, n1, c1, rfl, hbl, hx, hcell, hcellg, hrow⟩ := hS0.at_ hjn
      have hj2 := next_at hjn
      obtain ⟨b', o', ph2, g2, A2, n2, c2, hA, -, hy, hcell2, -, hrow2⟩ := hS0.at_ hj2
      injection hA with hA
      injection hA with hA1 hA2
      subst hA1 hA2
      have r1 := (hb.cell (p := ⟨b, o + j * 2, none⟩) hbl).trans hcell
      have r2 := (hb.cell (p := ⟨b, o + j * 2 + 1, none⟩) hbl).trans hcellg
      obtain ⟨e1, e2⟩ := phAt_of hx
      obtain ⟨e3, -⟩ := phAt_of hy
      have hgap : gapN t ss j = changeN t ph ph2 := by rw [gapN, e1, HLN.out, e3]
      have HE : Hid (cycUp t ss (j + 1) = cycUp t ss j + (g + changeN t ph ph2)) := Lib.hid (by rw [cycUp, hgap, e2])
      obtain ⟨g5, g40⟩ := HGR.out _ (List.mem_of_getElem? hx)
      obtain ⟨d0, d1⟩ := changeN_bd HIC.out ph ph2
      obtain ⟨l0, l1⟩ := cycUp_bd HIC.out HGR.out j
      obtain ⟨W3, hW3⟩ : ∃ W3, wr.alloc (.cells #[.slice A1 n1 c1, .int .i64 g] 35) = W3 := ⟨_, rfl⟩
      have hb3 : Below wr.heap.size wr W3 := by rw [← hW3]; exact (Below.refl _ _).alloc (Nat.le_refl _) _
      have hh3 : W3.heap[wr.heap.size]? = some (.cells #[.slice A1 n1 c1, .int .i64 g] 35 (0, 0)) := by rw [← hW3]; exact heap_alloc_new wr _
      have hz3 := lt_of_heap hh3
      have hb23 := hb.trans (hb3.mono hzr)
      have hz23 := hb23.size
      have s0 : W3.cell? ⟨wr.heap.size, 0, none⟩ = some (.slice A1 n1 c1) := by rw [cell_of_row _ _ _ _ _ _ hh3]; rfl
      have s1 : W3.cell? ⟨wr.heap.size, 1, none⟩ = some (.int .i64 g) := by rw [cell_of_row _ _ _ _ _ _ hh3]; rfl
      have k03 := (hb23.cell (p := ⟨w.heap.size, 0, none⟩) hzl).trans k0
      have k13 := (hb23.cell (p := ⟨w.heap.size, 1, none⟩) hzl).trans k1
      have hT3 := (hT0.below hb23).more hz23
      have hr3 := (hrow.below hb23).more hz23
      have hr23 := (hrow2.below hb23).more hz23
      have hc23 := (hb23.cell (p := ⟨b, o + (j + 1) % n * 2, none⟩) hbl).trans hcell2
      have CN := Lib.hid (fun (os : Array Obj) (d : Nat) => next_c At m ct b o n c j _ A2 n2 c2 (plus W3 os d) (by simp; omega) hjn hn rfl ((cell?_plus W3 os d b _ (by omega)).trans hc23))
      have CC := Lib.hid (fun (os : Array Obj) (d : Nat) => changeOf_c At m ct t A1 n1 c1 ph A2 n2 c2 ph2 (plus W3 os d) _ (hT3.plus (Nat.le_refl _) os d) (hr3.plus (Nat.le_refl _) os d) (hr23.plus (Nat.le_refl _) os d) (by simp) HSQ.out (HIN.out _ (List.mem_of_getElem? hx)) (HIN.out _ (List.mem_of_getElem? hy)))
      have u1 : w.heap.size < W3.heap.size := by omega
      have w1 : IntKind.i64.wrap (g + changeN t ph ph2) = g + changeN t ph ph2 := IntWalk.i64_in _ (by omega)
      have w2 : IntKind.i64.wrap (cycUp t ss j + (g + changeN t ph ph2)) = cycUp t ss j + (g + changeN t ph ph2) := IntWalk.i64_in _ (by omega)
      have HB23 := Lib.hid hb23
      have HJ := Lib.hid (show j + 1 ≤ k by omega)
      clear hcell hcellg hrow hx hy hcell2 hrow2 hgap e1 e2 e3 hh3 hb3 hb23 hT3 hr3 hr23 hc23 hb
      go_wp2_with fail
      clear hW3
      refine wp_region_plus (by kernel_rfl) (by kernel_rfl) ?_; (repeat (go_big_quiet_step ((first | (go_at_call 54; with_reducible exact quiet_plus (CN.out _ _)) | (go_at_call 69; with_reducible exact quiet_plus (CC.out _ _)))))); refine wpQuiet_nil ?_; intro _ hw'; obtain ⟨⟨osq, dq⟩, hw''⟩ := hw'; subst hw''
      clear w1 w2
      go_wp2_with fail
      go_roundw
      case rel => exact ⟨j + 1, HJ.out, by go_num, by rw [HE.out], by have hb := HB23.out; (repeat' (first | (with_reducible exact Below.refl _ _) | (with_reducible assumption) | (with_reducible refine Below.alloc ?_ ?_ _) | (with_reducible refine below_plus ?_ ?_ _ _) | (with_reducible refine Below.drew ?_) | (with_reducible refine Below.setCell ?_ ?_ _) | (with_reducible refine below_adv ?_ ?_ _) | go_size | (simp; done) | (simp; omega)))⟩
      case measure => simp [intOf]; omega
    · obtain rfl : j = k := by omega
      go_wp2_with fail
      go_ret
      exact ⟨rfl, hb0.trans (hb.mono hb0.size)⟩

theorem cycle_c (At : Option Addr) (m ct : Nat) (t : List (List Int)) (A : Option Addr) (n c : Nat) (ss : List (List Int × Int)) (w : World) (B : Nat) (hT : Sl2 w B ILit At m ct t) (hS : SlS w B A n c ss) (hB : B ≤ w.heap.size) (hn : n ≤ 1048576)
    (hsq : sqB t = true) (hic : inC t = true) (hin : ∀ s ∈ ss, ∀ x ∈ s.1, 0 ≤ x ∧ x < m) (hgr : grOk ss) :
    Calls Try.prog 28 #[.agg #[.slice At m ct, .slice A n c]] w fun e w' => e = .returned (.int .i64 (cycN t ss)) ∧ Below w.heap.size w w' := by
  have hb0 : Below w.heap.size w (w.alloc (.cells #[.slice At m ct, .slice A n c] 26)) := (Below.refl _ _).alloc (Nat.le_refl _) _
  have C1 := beginOf_c At m ct t A n c ss n _ _ ((hT.more hB).below hb0) ((hS.more hB).below hb0) hb0.size (Nat.le_refl _) hn hsq hic hin hgr
  rw [show cycUp t ss n = cycN t ss by rw [cycN, hS.len]] at C1
  have C1 := Lib.hid C1
  clear hT hS hsq hic hin hgr
  go_enter Try.func28, Try.ntmps28
  go_wp2_with fail
  refine C1.out.mono ?_
  rintro e w1 ⟨rfl, hb1⟩
  go_wp2_with fail
  go_ret
  exact ⟨rfl, hb0.trans (hb1.mono hb0.size)⟩
end Go.Proofs.Ytckohbjgogbfaaa
