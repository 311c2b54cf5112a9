/- The law CycleOf. -/
import Derived.Test.YtpihjabmllcldaaQg4
import Derived.Test.YtpihjabmllcldaaQc2
import Derived.Test.YtpihjabmllcldaaPe
set_option linter.unusedVariables false
set_option linter.unusedSimpArgs false
namespace Go.Proofs.Ytpihjabmllcldaa
open Go.RowKit

def totUp (ss : List (List Int × Int)) : Nat → Int
  | 0 => 0
  | k + 1 => totUp ss k + grAt ss k
theorem totUp_bd {ss : List (List Int × Int)} (h : grOk ss) (k : Nat) : 0 ≤ totUp ss k ∧ totUp ss k ≤ 40 * k := by
  induction k with
  | zero => exact ⟨Int.le_refl _, Int.le_refl _⟩
  | succ k ih =>
    have h1 := grAt_bd h k
    unfold totUp
    omega
theorem getD_fst (ss : List (List Int × Int)) (k : Nat) : (ss.map Prod.fst).getD k [] = phAt ss k := by
  simp only [List.getD_eq_getElem?_getD, List.getElem?_map, phAt]
  cases ss[k]? <;> rfl
theorem cyc_parts (t : List (List Int)) (ss : List (List Int × Int)) (k : Nat) : cycUp t ss k = totUp ss k + lostUp t (ss.map Prod.fst) k := by
  induction k with
  | zero => rfl
  | succ k ih =>
    have e : changeN t ((ss.map Prod.fst).getD k []) (nxt (ss.map Prod.fst) k []) = gapN t ss k := by
      rw [getD_fst, nxt, getD_fst, List.length_map]; rfl
    rw [cycUp, totUp, lostUp, ih, e]; omega
theorem cycN_parts (t : List (List Int)) (ss : List (List Int × Int)) : cycN t ss = totUp ss ss.length + lostN t (ss.map Prod.fst) := by
  rw [cycN, cyc_parts, lostN, List.length_map]
theorem ring_fst {t : List (List Int)} {ss : List (List Int × Int)} (h : planB t ss = true) : ringB t (ss.map Prod.fst) = true := by
  obtain ⟨a1, a2, a3⟩ := plan_iff.1 h
  refine ringB_iff.2 ⟨by simpa using a2, fun p hp => ?_⟩
  obtain ⟨s, hs, rfl⟩ := List.mem_map.1 hp
  exact (a3 s hs).1
theorem cycF_neg {t : List (List Int)} {ss : List (List Int × Int)} (h : cycF t ss < 0) : cycF t ss = -1 := by
  unfold cycF at h ⊢
  split
  · rename_i h2
    rw [if_pos h2] at h
    obtain ⟨-, p2, -, p4, -⟩ := plan_parts h2 rfl rfl
    have := (cycUp_bd p2 p4 ss.length).1
    unfold cycN at h
    omega
  · rfl
theorem cycF_ok {t : List (List Int)} {ss : List (List Int × Int)} (h : ¬ cycF t ss < 0) : planB t ss = true ∧ cycF t ss = cycN t ss := by
  unfold cycF at h ⊢
  split
  · rename_i h2; exact ⟨h2, rfl⟩
  · rename_i h2
    rw [if_neg h2] at h
    omega
theorem KeptS.here {w : World} {lo n c : Nat} {A : Option Addr} {ss : List (List Int × Int)} (h : KeptS w lo A n c ss) : SlS w w.heap.size A n c ss := h w fun _ _ _ => rfl

set_option maxHeartbeats 8000000 in
theorem cycleOfLaw_walk (A : Option Addr) (n c : Nat) (bs : List Int) (w : World) (hS : Sl w w.heap.size BLit A n c bs) (hbs : ∀ x ∈ bs, 0 ≤ x ∧ x ≤ 255) :
    Calls Try.prog 6 #[.slice A n c] w fun e w' => e = .returned (.bool true) ∧ Below w.heap.size w w' := by
  obtain ⟨hc0, hc1⟩ := hS.cap
  by_cases hn : 1048576 < n
  · go_enter Try.func6, Try.ntmps6
    go_wp2
    go_ret
    exact ⟨rfl, by (repeat' (first | (with_reducible exact Below.refl _ _) | (with_reducible assumption) | (with_reducible refine Below.alloc ?_ ?_ _) | (with_reducible refine below_plus ?_ ?_ _ _) | (with_reducible refine Below.drew ?_) | (with_reducible refine Below.setCell ?_ ?_ _) | (with_reducible refine below_adv ?_ ?_ _) | go_size | (simp; done) | (simp; omega)))⟩
  · go_enter Try.func6, Try.ntmps6
    go_wp2_with fail
    refine (drawCycleOf_c A n c bs w _ hS (Nat.le_refl _) hbs).mono ?_
    rintro e w1 ⟨At, m, ct, t, A2, n2, c2, ss, rfl, hK, hKS, hm8, hn1, hn5, hpl, hb1⟩
    have hz1 := hb1.size
    obtain ⟨W2, hW2⟩ : ∃ W2, w1.alloc (.cells #[.slice At m ct, .slice A2 n2 c2] 26) = W2 := ⟨_, rfl⟩
    have hb12 : Below w1.heap.size w1 W2 := by rw [← hW2]; (repeat' (first | (with_reducible exact Below.refl _ _) | (with_reducible assumption) | (with_reducible refine Below.alloc ?_ ?_ _) | (with_reducible refine below_plus ?_ ?_ _ _) | (with_reducible refine Below.drew ?_) | (with_reducible refine Below.setCell ?_ ?_ _) | (with_reducible refine below_adv ?_ ?_ _) | go_size | (simp; done) | (simp; omega)))
    have hT1 := (hK.here.below hb12).more hb12.size
    have hS1 := (hKS.here.below hb12).more hb12.size
    obtain ⟨hk0, hk1⟩ := hS1.cap
    have hP2 : W2.heap[w1.heap.size]? = some (.cells #[.slice At m ct, .slice A2 n2 c2] 26 (0, 0)) := by rw [← hW2]; exact heap_alloc_new w1 _
    have hgP := lt_of_heap hP2
    have p0 : W2.cell? ⟨w1.heap.size, 0, none⟩ = some (.slice At m ct) := by rw [cell_of_row _ _ _ _ _ _ hP2]; rfl
    have p1 : W2.cell? ⟨w1.heap.size, 1, none⟩ = some (.slice A2 n2 c2) := by rw [cell_of_row _ _ _ _ _ _ hP2]; rfl
    have hpl6 : ∀ s ∈ ss, s.1.length ≤ 1048576 := fun s hs => by have := hpl s hs; omega
    have c1' := fun w' (hw : Below W2.heap.size W2 w') => cycleOf_c At m ct t A2 n2 c2 ss w' _ (hT1.below hw) (hS1.below hw) hw.size hpl6
    have c2' := fun w' (hw : Below W2.heap.size W2 w') => sCycleOf_c At m ct t A2 n2 c2 ss w' _ (hT1.below hw) (hS1.below hw) hw.size hpl6
    have hb02 := hb1.trans (hb12.mono hz1)
    clear hS hbs hP2 hK hKS
    by_cases hneg : cycF t ss < 0
    · rw [cycF_neg hneg] at c1' c2'
      have C1 := Lib.hid c1'
      have C2 := Lib.hid c2'
      clear c1' c2' hT1 hS1 hpl hneg hpl6
      go_wp2_with fail
      clear hW2
      refine (C1.out W2 (Below.refl _ _)).mono ?_
      rintro e w2 ⟨rfl, hb2⟩
      have hz2 := hb2.size
      have p02 := (hb2.cell (p := ⟨w1.heap.size, 0, none⟩) hgP).trans p0
      have p12 := (hb2.cell (p := ⟨w1.heap.size, 1, none⟩) hgP).trans p1
      go_wp2_with fail
      refine (C2.out w2 hb2).mono ?_
      rintro e w3 ⟨rfl, hb3⟩
      have hb23 := hb2.trans (hb3.mono hz2)
      have p03 := (hb23.cell (p := ⟨w1.heap.size, 0, none⟩) hgP).trans p0
      have p13 := (hb23.cell (p := ⟨w1.heap.size, 1, none⟩) hgP).trans p1
      clear p02 p12
      go_wp2_with fail
      refine (C2.out w3 hb23).mono ?_
      rintro e w4 ⟨rfl, hb4⟩
      go_wp2_with fail
      go_ret
      exact ⟨rfl, hb02.trans ((hb23.trans (hb4.mono hb23.size)).mono hb02.size)⟩
    · obtain ⟨i1, hj, hj0, hj1, hj2⟩ := info_parts info_rowI
      obtain ⟨hok, hv⟩ := cycF_ok hneg
      have hlen := hS1.len
      obtain ⟨-, p2', -, p4', -, -⟩ := plan_parts hok rfl hlen
      have hring := ring_fst hok
      have hlf : lostF t (ss.map Prod.fst) = lostN t (ss.map Prod.fst) := by rw [lostF, if_pos hring]
      obtain ⟨L0, L1⟩ := lostN_bd hring
      have hcp := cycN_parts t ss
      rw [hlen] at hcp
      rw [hv, hcp] at c1' c2'
      have hflen : ∀ p ∈ ss.map Prod.fst, p.length ≤ 1048576 := fun p hp => by
        obtain ⟨s, hs, rfl⟩ := List.mem_map.1 hp
        exact hpl6 s hs
      obtain ⟨L, hL⟩ : ∃ L, lostN t (ss.map Prod.fst) = L := ⟨_, rfl⟩
      rw [hL] at hlf L0 L1 c1' c2'
      obtain ⟨T0, T1⟩ := totUp_bd p4' n2
      have CL := Lib.hid (fun (Ax : Option Addr) (cx : Nat) w' (hw : Below W2.heap.size W2 w') (hx : Sl2 w' w'.heap.size ILit Ax n2 cx (ss.map Prod.fst)) => lostTime_c At m ct t Ax n2 cx (ss.map Prod.fst) w' _ ((hT1.below hw).more hw.size) hx (Nat.le_refl _) hflen)
      rw [hlf] at CL
      have C1 := Lib.hid c1'
      have C2 := Lib.hid c2'
      have HGR := Lib.hid p4'
      have HLN := Lib.hid hlen
      obtain ⟨T, hT'⟩ : ∃ T, totUp ss n2 = T := ⟨_, rfl⟩
      rw [hT'] at C1 C2 T0 T1
      have HTT := Lib.hid hT'
      clear c1' c2' hT1 hpl hneg hpl6 hok hv hlen p2' p4' hring hlf hcp hflen hL hT'
      go_wp2_with fail
      clear hW2
      refine (C1.out W2 (Below.refl _ _)).mono ?_
      rintro e w2 ⟨rfl, hb2⟩
      have hz2 := hb2.size
      have p02 := (hb2.cell (p := ⟨w1.heap.size, 0, none⟩) hgP).trans p0
      have p12 := (hb2.cell (p := ⟨w1.heap.size, 1, none⟩) hgP).trans p1
      go_wp2_with fail
      refine (C2.out w2 hb2).mono ?_
      rintro e w3 ⟨rfl, hb3⟩
      have hb23 := hb2.trans (hb3.mono hz2)
      have hz3 := hb23.size
      have p03 := (hb23.cell (p := ⟨w1.heap.size, 0, none⟩) hgP).trans p0
      have p13 := (hb23.cell (p := ⟨w1.heap.size, 1, none⟩) hgP).trans p1
      have hS3 := (hS1.below hb23).more hz3
      clear p02 p12 p0 p1 C1 C2 hS1
      have hg3 : w1.heap.size < w3.heap.size := by omega
      go_wp2_with fail
      go_loopw [5, 6, 7] (fun v tt i wr => ∃ (k : Nat), k ≤ n2 ∧ i = .int .i64 k ∧ tt = .int .i64 (totUp ss k) ∧ Shr wr w3.heap.size w3.heap.size 38 ILit v k ((ss.take k).map Prod.fst) ∧ Below w3.heap.size w3 wr) (fun _ _ i _ => n2 - (intOf i).toNat)
      case atStart => exact ⟨0, by omega, rfl, rfl, Shr.nil (World.ownsRow_made _ #[] 0 (Nat.le_refl _) (by decide) rfl), by (repeat' (first | (with_reducible exact Below.refl _ _) | (with_reducible assumption) | (with_reducible refine Below.alloc ?_ ?_ _) | (with_reducible refine below_plus ?_ ?_ _ _) | (with_reducible refine Below.drew ?_) | (with_reducible refine Below.setCell ?_ ?_ _) | (with_reducible refine below_adv ?_ ?_ _) | go_size | (simp; done) | (simp; omega)))⟩
      case round =>
        obtain ⟨k, hk, rfl, rfl, hSh, hb⟩ := hrel
        have hzr := hb.size
        have p0r := (hb.cell (p := ⟨w1.heap.size, 0, none⟩) hg3).trans p03
        have p1r := (hb.cell (p := ⟨w1.heap.size, 1, none⟩) hg3).trans p13
        by_cases hlt : k < n2
        · obtain ⟨b, o, ph, g, A1, n1, c1, rfl, hbl, hx, hcell, hcellg, hrow⟩ := hS3.at_ hlt
          have r1 := (hb.cell (p := ⟨b, o + k * 2, none⟩) hbl).trans hcell
          have r2 := (hb.cell (p := ⟨b, o + k * 2 + 1, none⟩) hbl).trans hcellg
          obtain ⟨e1, e2⟩ := phAt_of hx
          have HT2 : Hid (totUp ss (k + 1) = totUp ss k + g) := Lib.hid (by rw [totUp, e2])
          obtain ⟨g5, g40⟩ := HGR.out _ (List.mem_of_getElem? hx)
          obtain ⟨l0, l1⟩ := totUp_bd HGR.out k
          obtain ⟨vs, hv1, hv2⟩ := hSh
          have HE := Lib.hid (fst_take hx)
          have HR := Lib.hid (hrow.below hb)
          clear hcell hcellg hx hrow e1 e2
          go_wp2_with (at_builtin; refine wpList_app1 w3 wr rfl _ _ 23 rfl 38 i1 (.slice none 0 0) 24 Try.underlying23 hj hj0 hj1 hj2 rfl (by decide) w3.heap.size _ k _ (by rfl) hv1 _ rfl _ (by rfl) rfl (by omega) hb hzr ?_; intro v8 w8 hO8 hb8 hg8; have p18 := (hb8.cell (p := ⟨w1.heap.size, 1, none⟩) hg3).trans p13; have r28 := (hb8.cell (p := ⟨b, o + k * 2 + 1, none⟩) hbl).trans ((hb.cell (p := ⟨b, o + k * 2 + 1, none⟩) hbl).symm.trans r2))
          have hN := Shr.app hv1 hv2 (Nat.le_refl _) hzr (Rsl.one HR.out) hO8 hg8
          rw [← HE.out] at hN
          clear hv1 hv2 hO8 hg8
          go_roundw
          case rel => exact ⟨k + 1, by omega, by go_num, by rw [HT2.out], hN, hb8⟩
          case measure => simp [intOf]; omega
        · obtain rfl : k = n2 := by omega
          rw [List.take_of_length_le (by rw [HLN.out]; exact Nat.le_refl _)] at hSh
          obtain ⟨A5, c5, rfl, hS5⟩ := hSh.sl2 hzr
          have hb2r := hb23.trans (hb.mono hz3)
          have D := Lib.hid (CL.out A5 c5 wr hb2r hS5)
          rw [HTT.out]
          clear hSh hS5
          go_wp2_with fail
          refine D.out.mono ?_
          rintro e w5 ⟨rfl, hb5⟩
          go_wp2_with fail
          go_ret
          exact ⟨rfl, hb02.trans ((hb2r.trans (hb5.mono hb2r.size)).mono hb02.size)⟩
end Go.Proofs.Ytpihjabmllcldaa
