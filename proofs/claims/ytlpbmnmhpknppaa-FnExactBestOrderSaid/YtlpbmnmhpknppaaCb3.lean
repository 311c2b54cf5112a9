/- ConflictsOf of the program. -/
import Derived.Test.YtlpbmnmhpknppaaCb1
import Derived.Test.YtlpbmnmhpknppaaCa2
import Derived.Test.YtlpbmnmhpknppaaG4
set_option linter.unusedVariables false
set_option linter.unusedSimpArgs false
namespace Go.Proofs.Ytlpbmnmhpknppaa
open Go.RowKit

theorem made_repB (m : Nat) : madeCells #[.bool false] m = ((List.replicate m false).map OLit).toArray := by
  have h1 := part_zero OLit (.bool false) (List.replicate m false)
  rw [List.length_replicate] at h1
  rw [← h1]
  simp [part, OLit]
/-- The table with k rows done, the others empty. -/
def confUp (t : List (List Int)) (k : Nat) : List (List Bool) := (conf t).take k ++ List.replicate (t.length - k) []
theorem confUp_len (t : List (List Int)) {k : Nat} (h : k ≤ t.length) : (confUp t k).length = t.length := by
  simp [confUp, conf_len]; omega
theorem confUp_all (t : List (List Int)) : confUp t t.length = conf t := by
  simp [confUp, ← conf_len t]
theorem confUp_set (t : List (List Int)) {k : Nat} {r : List Int} (h : t[k]? = some r) : (confUp t k).set k (r.map fun x => decide (0 < x)) = confUp t (k + 1) := by
  have hk := (List.getElem?_eq_some_iff.1 h).1
  have hl : ((conf t).take k).length = k := by rw [List.length_take, conf_len]; omega
  unfold confUp
  rw [take_snoc (conf_row h), List.set_append_right _ _ (by omega), hl, Nat.sub_self, show t.length - k = t.length - (k + 1) + 1 by omega, List.replicate_succ, List.set_cons_zero, List.append_assoc, List.singleton_append]
/-- A row with j elements laid. -/
def upL (l : List Bool) (j : Nat) : List Bool := l.take j ++ List.replicate (l.length - j) false
theorem upL_len (l : List Bool) {j : Nat} (h : j ≤ l.length) : (upL l j).length = l.length := by simp [upL]; omega
theorem upL_all (l : List Bool) : upL l l.length = l := by simp [upL]
theorem upL_zero (l : List Bool) : upL l 0 = List.replicate l.length false := by simp [upL]
theorem upL_set {l : List Bool} {j : Nat} {x : Bool} (h : l[j]? = some x) : (upL l j).set j x = upL l (j + 1) := by
  have hj := (List.getElem?_eq_some_iff.1 h).1
  have hl : (l.take j).length = j := by rw [List.length_take]; omega
  unfold upL
  rw [take_snoc h, List.set_append_right _ _ (by omega), hl, Nat.sub_self, show l.length - j = l.length - (j + 1) + 1 by omega, List.replicate_succ, List.set_cons_zero, List.append_assoc, List.singleton_append]
theorem set_set' {α : Type} (l : List α) (k : Nat) (a b : α) : (l.set k a).set k b = l.set k b := by simp

set_option maxHeartbeats 4000000 in
theorem conflictsOf_c (A : Option Addr) (n c : Nat) (t : List (List Int)) (w : World) (B : Nat) (hS : Sl2 w B ILit A n c t) (hB : B ≤ w.heap.size) :
    Calls Try.prog 23 #[.slice A n c] w (OwBoolSS w (confF t)) := by
  obtain ⟨hc0, hc1⟩ := hS.cap
  have hl := hS.len
  have cw := validClearance_c A n c t w B hS hB
  have hS0 := hS.more hB
  clear hS
  cases hr : cOk t
  · rw [hr] at cw
    have CW := Lib.hid cw
    have HE := Lib.hid (confF_no hr)
    clear cw hr hl
    go_enter Try.func23, Try.ntmps23
    go_wp2_with fail
    refine CW.out.mono ?_
    rintro e w1 ⟨rfl, hb1⟩
    go_wp2_with fail
    go_ret
    exact ⟨_, _, _, rfl, by rw [HE.out]; exact Ow2.nil _ _ _ _ _ _, hb1⟩
  · rw [hr] at cw
    have CW := Lib.hid cw
    have HE := Lib.hid (confF_yes hr)
    obtain ⟨hn1, hn8, hsq, -, -⟩ := cOk_iff.1 hr
    rw [hl] at hn1 hn8
    have HSQ := Lib.hid hsq
    have HL := Lib.hid hl
    have hmo := run_make_row' (P := Try.prog) 30 34 (.slice none 0 0) 24 Try.underlying30 info_rowBoolS rfl .i64 .i64 n (by omega) (by omega)
    have hmr := run_make_row' (P := Try.prog) 34 4 (.bool false) 1 Try.underlying34 info_bool rfl .i64 .i64 n (by omega) (by omega)
    rw [made_repB] at hmr
    obtain ⟨co, hco⟩ : ∃ co, madeCells #[.slice none 0 0] n = co := ⟨_, rfl⟩
    obtain ⟨cr, hcr⟩ : ∃ cr, ((List.replicate n false).map OLit).toArray = cr := ⟨_, rfl⟩
    rw [hco] at hmo
    rw [hcr] at hmr
    have HCO := Lib.hid hco
    have HCR := Lib.hid hcr
    clear cw hr hl hsq hco hcr
    go_enter Try.func23, Try.ntmps23
    go_wp2_with fail
    refine CW.out.mono ?_
    rintro e w1 ⟨rfl, hb1⟩
    have hz1 := hb1.size
    have hM := Ow2.make w1 34 4 n OLit (by omega)
    rw [HCO.out] at hM
    have HM := Lib.hid hM
    clear CW hM
    go_wp2_with fail
    go_loopw [16] (fun i wr => ∃ (k : Nat), k ≤ n ∧ i = .int .i64 k ∧ Ow2 wr w1.heap.size wr.heap.size 34 4 OLit (some ⟨w1.heap.size, 0, none⟩) n n (confUp t k) ∧ Below w1.heap.size w1 wr) (fun i _ => n - (intOf i).toNat)
    case atStart => exact ⟨0, by omega, rfl, by simpa [confUp, HL.out] using HM.out, by (repeat' (first | (with_reducible exact Below.refl _ _) | (with_reducible assumption) | (with_reducible refine Below.alloc ?_ ?_ _) | (with_reducible refine below_plus ?_ ?_ _ _) | (with_reducible refine Below.drew ?_) | (with_reducible refine Below.setCell ?_ ?_ _) | (with_reducible refine below_adv ?_ ?_ _) | go_size | (simp; done) | (simp; omega)))⟩
    case round =>
      obtain ⟨k, hk, rfl, hO, hb⟩ := hrel
      have hzr := hb.size
      by_cases hlt : k < n
      · obtain ⟨b, o, b1, o1, c1, ra, rfl, hbl, hbl1, hra, hral, hrac, hcell, hrow⟩ := (hS0.below (hb1.trans (hb.mono hz1))).entry HSQ.out hlt
        have HRA := Lib.hid hra
        have HRL := Lib.hid hral
        have HROW := Lib.hid hrow
        have hcell' : wr.cell? ⟨b, o + k, none⟩ = some (.slice (some ⟨b1, o1, none⟩) n c1) := hcell
        have hb1w : b1 < wr.heap.size := by omega
        have hbw : b < w1.heap.size := by omega
        have hb1w1 : b1 < w1.heap.size := by omega
        -- the outer cell that is written
        have hcu : (confUp t k)[k]? = some [] := by
          have hl2 : ((conf t).take k).length = k := by rw [List.length_take, conf_len, HL.out]; omega
          rw [confUp, List.getElem?_append_right (by omega), hl2, Nat.sub_self, List.getElem?_replicate, if_pos (by rw [HL.out]; omega)]
        obtain ⟨vs, v1, v2, v3⟩ := hO
        obtain ⟨g, cs, hA, hg1, hg2, hg3⟩ := v1.2.2.2 (by omega)
        injection hA with hA
        injection hA with hA
        subst hA
        obtain ⟨v, hv⟩ : ∃ v, vs[k]? = some v := ⟨_, List.getElem?_eq_getElem (by rw [v1.len]; exact hlt)⟩
        have cout : wr.cell? ⟨w1.heap.size, k, none⟩ = some v := by rw [cell_of_row wr _ k cs _ _ hg2]; exact hg3 k v hv
        have fout : wr.frozen? ⟨w1.heap.size, k, none⟩ = false := by simp [World.frozen?, hg2]
        have hgl := lt_of_heap hg2
        have hO' : Ow2 wr w1.heap.size wr.heap.size 34 4 OLit (some ⟨w1.heap.size, 0, none⟩) n n (confUp t k) := ⟨vs, v1, v2, v3⟩
        have hO2 := hO'.below (w' := wr.alloc (.cells cr 4)) ((Below.refl _ _).alloc (Nat.le_refl _) _)
        have hrowNew := Ow.new wr OLit (List.replicate n false) 4 (by simp; omega)
        rw [HCR.out, List.length_replicate] at hrowNew
        have hP := hO2.put (by decide) hlt hrowNew (Nat.le_refl _) (by simp) hzr
        have HP := Lib.hid hP
        clear hra hral hrow hcell hcu v1 v2 v3 hg2 hg3 hv hO' hO2 hrowNew hP
        go_wp2_with fail
        have hsw : (wr.alloc (.cells cr 4)).setCell ⟨w1.heap.size, k, none⟩ (.slice (some ⟨wr.heap.size, 0, none⟩) n n) = (wr.setCell ⟨w1.heap.size, k, none⟩ (.slice (some ⟨wr.heap.size, 0, none⟩) n n)).alloc (.cells cr 4) := World.setCell_alloc_past _ _ _ _ hgl
        obtain ⟨wo, hwo⟩ : ∃ wo, (wr.setCell ⟨w1.heap.size, k, none⟩ (.slice (some ⟨wr.heap.size, 0, none⟩) n n)).alloc (.cells cr 4) = wo := ⟨_, rfl⟩
        have hO1 := HP.out
        have hbo : Below w1.heap.size w1 ((wr.alloc (.cells cr 4)).setCell ⟨w1.heap.size, k, none⟩ (.slice (some ⟨wr.heap.size, 0, none⟩) n n)) := (hb.alloc hzr _).setCell (Nat.le_refl _) _
        have hzo : (wr.alloc (.cells cr 4)).heap.size ≤ ((wr.alloc (.cells cr 4)).setCell ⟨w1.heap.size, k, none⟩ (.slice (some ⟨wr.heap.size, 0, none⟩) n n)).heap.size := by simp [World.setCell]
        rw [hsw, hwo] at hO1 hbo hzo
        rw [hwo]
        have hO3 := hO1.more hzo
        have HB := Lib.hid hb
        have hup0 : List.replicate n false = upL (ra.map fun x => decide (0 < x)) 0 := by rw [upL_zero, List.length_map, HRL.out]
        rw [hup0] at hO3
        clear hwo hsw hO1 hzo HP hcell' cout fout hup0 hb
        go_loopw [29] (fun i wr2 => ∃ (j : Nat), j ≤ n ∧ i = .int .i64 j ∧ Ow2 wr2 w1.heap.size wr2.heap.size 34 4 OLit (some ⟨w1.heap.size, 0, none⟩) n n ((confUp t k).set k (upL (ra.map fun x => decide (0 < x)) j)) ∧ Below w1.heap.size w1 wr2) (fun i _ => n - (intOf i).toNat)
        case atStart => exact ⟨0, by omega, rfl, hO3, hbo⟩
        case round =>
          clear hO3 hbo
          obtain ⟨j, hj, rfl, hO, hb2⟩ := hrel
          have hzr2 := hb2.size
          by_cases hjn : j < n
          · obtain ⟨x, hx⟩ : ∃ x, ra[j]? = some x := ⟨_, List.getElem?_eq_getElem (by rw [HRL.out]; exact hjn)⟩
            have hlx : (ra.map fun x => decide (0 < x))[j]? = some (decide (0 < x)) := by rw [List.getElem?_map, hx]; rfl
            have hul : (upL (ra.map fun x => decide (0 < x)) j).length = n := by rw [upL_len _ (by rw [List.length_map, HRL.out]; omega), List.length_map, HRL.out]
            have hrowk : ((confUp t k).set k (upL (ra.map fun x => decide (0 < x)) j))[k]? = some (upL (ra.map fun x => decide (0 < x)) j) := by
              rw [List.getElem?_set, if_pos rfl, if_pos (by rw [confUp_len t (by rw [HL.out]; omega), HL.out]; exact hlt)]
            obtain ⟨g', gj, cj, hA', -, hgl2, hgj0, hgjl, hne, hcj, cell1, celle, frz, hset⟩ := hO.rowB (by decide) (Nat.le_refl _) hrowk (by rw [hul]; omega)
            injection hA' with hA'
            injection hA' with hA'
            subst hA'
            rw [hul] at cell1 hcj
            obtain ⟨y, hy⟩ : ∃ y, (upL (ra.map fun x => decide (0 < x)) j)[j]? = some y := ⟨_, List.getElem?_eq_getElem (by rw [hul]; exact hjn)⟩
            have cell2 := celle j y hy
            have frz2 := frz j
            have hnew := hset j (decide (0 < x)) (by rw [hul]; exact hjn)
            rw [set_set', upL_set hlx] at hnew
            have HN := Lib.hid hnew
            have e2 := (hb2.cell (p := ⟨b1, o1 + j, none⟩) hb1w1).trans ((HB.out.cell (p := ⟨b1, o1 + j, none⟩) hb1w1).symm.trans (HROW.out j x hx))
            have e2' : (_ : World).cell? ⟨b1, o1 + j, none⟩ = some (.int .i64 x) := e2
            clear hO hx hlx hul hrowk celle frz hset hy hnew e2
            go_wp2_with fail
            go_roundw
            case rel => exact ⟨j + 1, by omega, by go_num, by simpa [World.setCell] using HN.out, hb2.setCell hgj0 _⟩
            case measure => simp [intOf]; omega
          · obtain rfl : j = n := by omega
            have hul := upL_all (ra.map fun x => decide (0 < x))
            rw [List.length_map, HRL.out] at hul
            rw [hul, confUp_set t HRA.out] at hO
            clear hul
            go_wp2_with fail
            go_roundw
            case rel => exact ⟨k + 1, by omega, by go_num, hO, hb2⟩
            case measure => simp [intOf]; omega
      · obtain rfl : k = n := by omega
        have hup := confUp_all t
        rw [HL.out] at hup
        rw [hup] at hO
        have hfin := (hO.less (lo' := w.heap.size) (by omega))
        have hbz := hb1.trans (hb.mono hz1)
        clear hup hO hmo hmr
        go_wp2_with fail
        go_ret
        exact ⟨_, _, _, rfl, by rw [HE.out]; exact hfin, hbz⟩
end Go.Proofs.Ytlpbmnmhpknppaa
