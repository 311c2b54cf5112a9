/- The laws' helpers on []int: toIntS, eqIntS, markIntS, heldIntS. -/
import Derived.Test.YtlpbmnmhpknppaaRows
import Derived.Test.YtlpbmnmhpknppaaOw
set_option linter.unusedVariables false
set_option linter.unusedSimpArgs false
namespace Go.Proofs.Ytlpbmnmhpknppaa
open Go.RowKit

theorem info_int : (Try.prog.info? 3).map (fun i => (i.zero, i.size, i.bytes)) = some (some (.int .i64 0), 1, 8) := by kernel_rfl

theorem toIntS_c (A : Option Addr) (n c : Nat) (xs : List Int) (w : World) (B : Nat) (hS : Sl w B ILit A n c xs) (hB : B ≤ w.heap.size) (hn : n ≤ 1099511627776) :
    Calls Try.prog 32 #[.slice A n c] w fun e w' => e = .returned (.slice (some ⟨w.heap.size, 0, none⟩) n n) ∧ w.alloc (.cells (xs.map ILit).toArray 3) = w' := by
  have hlen := hS.len
  have hmk := run_make_row' (P := Try.prog) 35 3 (.int .i64 0) 8 Try.underlying35 info_int rfl .i64 .i64 n (by omega) (by omega)
  rw [show madeCells #[.int .i64 0] n = part ILit (.int .i64 0) xs 0 from by rw [part_zero, hlen]] at hmk
  have HL := Lib.hid hlen
  obtain ⟨hc0, hc1⟩ := hS.cap
  clear hlen
  go_enter Try.func32, Try.ntmps32
  go_wp2
  go_loopw [4] (fun i wr => ∃ k : Nat, k ≤ n ∧ i = .int .i64 k ∧ wr = w.alloc (.cells (part ILit (.int .i64 0) xs k) 3)) (fun i _ => n - (intOf i).toNat)
  case atStart => exact ⟨0, Nat.zero_le _, rfl, rfl⟩
  case round =>
    obtain ⟨k, hk, rfl, rfl⟩ := hrel
    by_cases hlt : k < n
    · obtain ⟨b, o, x, rfl, hb, hx, hcell⟩ := hS.at_ hlt
      have hcell' : w.cell? ⟨b, o + k, none⟩ = some (.int .i64 x) := hcell
      have hbw : b < w.heap.size := by omega
      have hold := part_old ILit (.int .i64 0) xs (k := k) (by rw [HL.out]; exact hlt)
      have hset := part_set ILit (.int .i64 0) xs hx
      have hset' : (part ILit (.int .i64 0) xs k).setIfInBounds k (.int .i64 x) = part ILit (.int .i64 0) xs (k + 1) := hset
      have HS := Lib.hid hset'
      obtain ⟨cs, hcs⟩ : ∃ cs, part ILit (.int .i64 0) xs k = cs := ⟨_, rfl⟩
      rw [hcs] at hold ⊢
      have HC := Lib.hid hcs
      clear hcell hx hset hset' hS hcs hmk
      go_wp2
      go_roundw
      case rel => exact ⟨k + 1, by omega, by go_num, by rw [← HC.out, HS.out]⟩
      case measure => simp [intOf]; omega
    · obtain rfl : k = n := by omega
      clear hmk
      go_wp2
      go_ret
      exact ⟨rfl, by rw [← HL.out, part_all]⟩

theorem eqIntS_c (A : Option Addr) (n c : Nat) (xs : List Int) (A2 : Option Addr) (n2 c2 : Nat) (ys : List Int) (w : World) (B B2 : Nat) (hS : Sl w B ILit A n c xs) (hB : B ≤ w.heap.size) (hT : Sl w B2 ILit A2 n2 c2 ys) (hB2 : B2 ≤ w.heap.size) :
    Calls Try.prog 34 #[.slice A n c, .slice A2 n2 c2] w fun e w' => e = .returned (.bool (eqL xs ys)) ∧ Below w.heap.size w w' := by
  have hl1 := hS.len
  have hl2 := hT.len
  obtain ⟨hc0, hc1⟩ := hS.cap
  by_cases hn : n = n2
  · subst hn
    have HL := Lib.hid (And.intro hl1 hl2)
    clear hl1 hl2
    go_enter Try.func34, Try.ntmps34
    go_wp2
    go_loopw [5] (fun i wr => ∃ k : Nat, k ≤ n ∧ i = .int .i64 k ∧ Hid (xs.take k = ys.take k) ∧ ∃ os d, wr = plus w os d) (fun i _ => n - (intOf i).toNat)
    case atStart => exact ⟨0, Nat.zero_le _, rfl, rfl, #[], w.drawn, (plus_zero w).symm⟩
    case round =>
      obtain ⟨k, hk, rfl, htk, os, d, rfl⟩ := hrel
      by_cases hlt : k < n
      · obtain ⟨b, o, x, rfl, hb, hx, hcell⟩ := hS.at_ hlt
        obtain ⟨b2, o2, y, rfl, hb2, hy, hcell2⟩ := hT.at_ hlt
        have hcell' : w.cell? ⟨b, o + k, none⟩ = some (.int .i64 x) := hcell
        have hcell2' : w.cell? ⟨b2, o2 + k, none⟩ = some (.int .i64 y) := hcell2
        have hbw : b < w.heap.size := by omega
        have hbw2 : b2 < w.heap.size := by omega
        have hki : (k : Int) < (n : Int) := by omega
        by_cases hxy : x = y
        · subst hxy
          have HT : Hid (xs.take (k + 1) = ys.take (k + 1)) := by
            show xs.take (k + 1) = ys.take (k + 1)
            rw [take_snoc hx, take_snoc hy, htk.out]
          clear hx hy hS hT hcell hcell2
          go_wp2_with fail
          refine wp_region_plus (by kernel_rfl) (by kernel_rfl) ?_; (repeat (go_big_quiet_step (fail))); refine wpQuiet_nil ?_; intro _ hw'; obtain ⟨⟨osq, dq⟩, hw''⟩ := hw'; subst hw''
          go_wp2_with fail
          go_roundw
          case rel => exact ⟨k + 1, by omega, by go_num, HT, _, _, rfl⟩
          case measure => simp [intOf]; omega
        · have hne := Lib.hid (eqL_at hx hy hxy)
          have hxy2 : (x != y) = true := by simpa [bne] using hxy
          clear hx hy hS hT hcell hcell2
          all_goals
            go_wp2_with fail
            refine wp_region_plus (by kernel_rfl) (by kernel_rfl) ?_; (repeat (go_big_quiet_step (fail))); refine wpQuiet_nil ?_; intro _ hw'; obtain ⟨⟨osq, dq⟩, hw''⟩ := hw'; subst hw''
            go_wp2_with fail
            go_ret
            exact ⟨by rw [hne.out]; rfl, by (repeat' (first | (with_reducible exact Below.refl _ _) | (with_reducible assumption) | (with_reducible refine Below.alloc ?_ ?_ _) | (with_reducible refine below_plus ?_ ?_ _ _) | (with_reducible refine Below.drew ?_) | (with_reducible refine Below.setCell ?_ ?_ _) | (with_reducible refine below_adv ?_ ?_ _) | go_size | (simp; done) | (simp; omega)))⟩
      · obtain rfl : k = n := by omega
        have heq : xs = ys := by
          have := htk.out
          rwa [List.take_of_length_le (by rw [HL.out.1]; exact Nat.le_refl _), List.take_of_length_le (by rw [HL.out.2]; exact Nat.le_refl _)] at this
        clear hS hT
        go_wp2_with fail
        go_ret
        exact ⟨by rw [eqL_true heq]; rfl, by (repeat' (first | (with_reducible exact Below.refl _ _) | (with_reducible assumption) | (with_reducible refine Below.alloc ?_ ?_ _) | (with_reducible refine below_plus ?_ ?_ _ _) | (with_reducible refine Below.drew ?_) | (with_reducible refine Below.setCell ?_ ?_ _) | (with_reducible refine below_adv ?_ ?_ _) | go_size | (simp; done) | (simp; omega)))⟩
  · have hne := eqL_len (xs := xs) (ys := ys) (by omega)
    rw [hne]
    have hnn : ((n : Int) != (n2 : Int)) = true := by simp [bne]; omega
    clear hS hT hne hl1 hl2
    go_enter Try.func34, Try.ntmps34
    go_wp2
    go_ret
    exact ⟨rfl, by (repeat' (first | (with_reducible exact Below.refl _ _) | (with_reducible assumption) | (with_reducible refine Below.alloc ?_ ?_ _) | (with_reducible refine below_plus ?_ ?_ _ _) | (with_reducible refine Below.drew ?_) | (with_reducible refine Below.setCell ?_ ?_ _) | (with_reducible refine below_adv ?_ ?_ _) | go_size | (simp; done) | (simp; omega)))⟩

/-- What markIntS lays. -/
def mkIntS (k : Int) (n : Nat) : List Int := (List.range n).map fun (j : Nat) => (k + (j : Int))
theorem mkIntS_len (k : Int) (n : Nat) : (mkIntS k n).length = n := by simp [mkIntS]
theorem mkIntS_at (k : Int) {n j : Nat} (h : j < n) : (mkIntS k n)[j]? = some ((k + (j : Int))) := by simp [mkIntS, h]

/-- The row after j marks. -/
def mrkIntS (cs : Array Value) (k : Int) : Nat → Array Value
  | 0 => cs
  | j + 1 => (mrkIntS cs k j).setIfInBounds j (ILit ((k + (j : Int))))
theorem mrkIntS_size (cs : Array Value) (k : Int) (j : Nat) : (mrkIntS cs k j).size = cs.size := by
  induction j with
  | zero => rfl
  | succ j ih => simp [mrkIntS, ih]
theorem mrkIntS_at (cs : Array Value) (k : Int) (m : Nat) (hm : m ≤ cs.size) : ∀ (j : Nat) (x : Int), (mkIntS k m)[j]? = some x → (mrkIntS cs k m)[j]? = some (ILit x) := by
  induction m with
  | zero => intro j x h; simp [mkIntS] at h
  | succ m ih =>
    intro j x h
    rw [mrkIntS, Array.getElem?_setIfInBounds, mrkIntS_size]
    by_cases hj : m = j
    · subst hj
      rw [mkIntS_at k (by omega)] at h
      injection h with h
      simp [← h, show m < cs.size from by omega]
    · have hjm : j < m + 1 := by
        have := (List.getElem?_eq_some_iff.1 h).1
        rwa [mkIntS_len] at this
      rw [if_neg hj]
      refine ih (by omega) j x ?_
      rw [mkIntS_at k (by omega)] at h ⊢
      exact h

/-- What markIntS leaves: the block's first n cells marked, nothing else turned. -/
def MarkedIntS (w : World) (base : Nat) (A : Option Addr) (n c : Nat) (k : Int) (e : Ending) (w' : World) : Prop :=
  e = .returned (.int .i64 (k + n)) ∧ Ow w' base 3 ILit A n c (mkIntS k n) ∧ w.grownBy w' (if n = 0 then none else A.map (·.block)) ∧ w'.heap.size = w.heap.size

theorem markIntS_c (A : Option Addr) (n c : Nat) (xs : List Int) (k0 : Int) (w : World) (base : Nat) (hO : Ow w base 3 ILit A n c xs) (hk0 : 0 ≤ k0) (hk1 : k0 ≤ 1099511627776) (hn : n ≤ 1099511627776) :
    Calls Try.prog 42 #[.slice A n c, .int .i64 k0] w (MarkedIntS w base A n c k0) := by
  obtain ⟨h1, h2, h3, h4⟩ := hO
  by_cases h0 : n = 0
  · subst h0
    go_enter Try.func42, Try.ntmps42
    go_wp2
    refine wp_loop_rounds 1 ?_
    rw [rounds_succ]
    go_wp2
    go_ret
    exact ⟨by simp, ⟨rfl, h2, h3, fun h => absurd h (by omega)⟩, World.grownBy.refl w _, rfl⟩
  · obtain ⟨g, cs, rfl, hb, hh, hc⟩ := h4 (by omega)
    have hgl := lt_of_heap hh
    have hsz : n ≤ cs.size := by
      have hx := hc (n - 1) (xs[n - 1]'(by omega)) (List.getElem?_eq_getElem (by omega))
      have := (Array.getElem?_eq_some_iff.1 hx).1
      omega
    clear h4 hc
    go_enter Try.func42, Try.ntmps42
    go_wp2
    go_loopw [1, 5] (fun kk i wr => ∃ j : Nat, j ≤ n ∧ i = .int .i64 j ∧ kk = .int .i64 (k0 + j) ∧ Hid (wr.heap[g]? = some (.cells (mrkIntS cs k0 j) 3 (0, 0)) ∧ w.grownBy wr (some g) ∧ wr.heap.size = w.heap.size)) (fun _ i _ => n - (intOf i).toNat)
    case atStart => exact ⟨0, Nat.zero_le _, rfl, by simp, hh, World.grownBy.refl w _, rfl⟩
    case round =>
      obtain ⟨j, hj, rfl, rfl, hH⟩ := hrel
      by_cases hlt : j < n
      · obtain ⟨e1, e2, e3⟩ := hH.out
        have hms := mrkIntS_size cs k0 j
        obtain ⟨old, hold⟩ : ∃ old, (mrkIntS cs k0 j)[j]? = some old := ⟨_, Array.getElem?_eq_getElem (by omega)⟩
        have hcell : wr.cell? ⟨g, j, none⟩ = some old := by rw [cell_of_row wr g j _ _ _ e1]; exact hold
        have hfr : wr.frozen? ⟨g, j, none⟩ = false := frozen_of_row wr g j _ _ e1
        have hN : Hid ((wr.setCell ⟨g, j, none⟩ (ILit ((k0 + (j : Int))))).heap[g]? = some (.cells (mrkIntS cs k0 (j + 1)) 3 (0, 0)) ∧ w.grownBy (wr.setCell ⟨g, j, none⟩ (ILit ((k0 + (j : Int))))) (some g) ∧ (wr.setCell ⟨g, j, none⟩ (ILit ((k0 + (j : Int))))).heap.size = w.heap.size) := by
          refine ⟨heap_setCell_same wr g j _ _ _ e1, ?_, by simpa [World.setCell] using e3⟩
          exact ⟨e2.os, e2.tape, e2.output, by simpa [World.setCell] using e2.size, fun i hi hne => (Below.heap_setCell wr ⟨g, j, none⟩ _ i (fun e => hne (by rw [e]))).trans (e2.block i hi hne)⟩
        clear hH e1 e2 e3 hms hold
        go_wp2
        go_roundw
        case rel => exact ⟨j + 1, by omega, by go_num, by go_num, hN⟩
        case measure => simp [intOf]; omega
      · obtain rfl : j = n := by omega
        obtain ⟨e1, e2, e3⟩ := hH.out
        clear hH
        go_wp2
        go_ret
        refine ⟨rfl, ⟨mkIntS_len k0 j, h2, h3, fun _ => ⟨g, _, rfl, hb, e1, mrkIntS_at cs k0 j hsz⟩⟩, ?_, e3⟩
        rw [if_neg h0]
        exact e2

theorem heldIntS_c (A : Option Addr) (n c : Nat) (k0 : Int) (w : World) (B : Nat) (hS : Sl w B ILit A n c (mkIntS k0 n)) (hB : B ≤ w.heap.size) (hk0 : 0 ≤ k0) (hk1 : k0 ≤ 1099511627776) (hn : n ≤ 1099511627776) :
    Calls Try.prog 43 #[.slice A n c, .int .i64 k0] w fun e w' => e = .returned (.int .i64 (k0 + n)) ∧ Below w.heap.size w w' := by
  obtain ⟨hc0, hc1⟩ := hS.cap
  go_enter Try.func43, Try.ntmps43
  go_wp2
  go_loop [1, 5] (fun kk i => ∃ j : Nat, j ≤ n ∧ i = .int .i64 j ∧ kk = .int .i64 (k0 + j)) (fun _ i => n - (intOf i).toNat)
  case atStart => exact ⟨0, Nat.zero_le _, rfl, by simp⟩
  case round =>
    obtain ⟨j, hj, rfl, rfl⟩ := hrel
    by_cases hlt : j < n
    · obtain ⟨b, o, x, rfl, hb, hx, hcell⟩ := hS.at_ hlt
      rw [mkIntS_at k0 hlt] at hx
      injection hx with hx
      subst hx
      have hcell' : w.cell? ⟨b, o + j, none⟩ = some (.int .i64 (k0 + j)) := hcell
      clear hcell hS
      go_wp2
      go_round
      case rel => exact ⟨j + 1, by omega, by go_num, by go_num⟩
      case measure => simp [intOf]; omega
    · obtain rfl : j = n := by omega
      clear hS
      go_wp2
      go_ret
      exact ⟨rfl, Below.refl _ _⟩
end Go.Proofs.Ytlpbmnmhpknppaa
