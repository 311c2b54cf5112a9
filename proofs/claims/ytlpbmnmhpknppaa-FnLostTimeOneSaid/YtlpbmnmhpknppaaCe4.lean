/- The law LostTime. -/
import Derived.Test.YtlpbmnmhpknppaaCg6
import Derived.Test.YtlpbmnmhpknppaaCe2
import Derived.Test.YtlpbmnmhpknppaaCd6
import Derived.Test.YtlpbmnmhpknppaaStp
set_option linter.unusedVariables false
set_option linter.unusedSimpArgs false
namespace Go.Proofs.Ytlpbmnmhpknppaa
open Go.RowKit

theorem lostF_neg {t list : List (List Int)} (h : lostF t list < 0) : lostF t list = -1 := by
  unfold lostF at h ⊢
  split
  · rename_i h2
    rw [if_pos h2] at h
    have := (lostN_bd h2).1
    omega
  · rfl
theorem lostF_ok {t list : List (List Int)} (h : ¬ lostF t list < 0) : ringB t list = true ∧ lostF t list = lostN t list := by
  unfold lostF at h ⊢
  split
  · rename_i h2; exact ⟨h2, rfl⟩
  · rename_i h2
    rw [if_neg h2] at h
    omega
theorem ring_turn {t list : List (List Int)} (h : ringB t list = true) : ringB t (list.drop 1 ++ list.take 1) = true := by
  obtain ⟨⟨h1, h5⟩, hp⟩ := ringB_iff.1 h
  refine ringB_iff.2 ⟨by simp; omega, fun p hm => ?_⟩
  rcases List.mem_append.1 hm with hm | hm
  · exact hp p (List.mem_of_mem_drop hm)
  · exact hp p (List.mem_of_mem_take hm)

set_option maxHeartbeats 8000000 in
set_option maxRecDepth 100000 in
theorem lostTimeLaw_walk (A : Option Addr) (n c : Nat) (bs : List Int) (w : World) (hS : Sl w w.heap.size BLit A n c bs) (hbs : ∀ x ∈ bs, 0 ≤ x ∧ x ≤ 255) :
    Calls Try.prog 12 #[.slice A n c] w fun e w' => e = .returned (.bool true) ∧ Below w.heap.size w w' := by
  obtain ⟨hc0, hc1⟩ := hS.cap
  by_cases hn : 1048576 < n
  · go_enter Try.func12, Try.ntmps12
    go_wp2
    go_ret
    exact ⟨rfl, by (repeat' (first | (with_reducible exact Below.refl _ _) | (with_reducible assumption) | (with_reducible refine Below.alloc ?_ ?_ _) | (with_reducible refine below_plus ?_ ?_ _ _) | (with_reducible refine Below.drew ?_) | (with_reducible refine Below.setCell ?_ ?_ _) | (with_reducible refine below_adv ?_ ?_ _) | go_size | (simp; done) | (simp; omega)))⟩
  · go_enter Try.func12, Try.ntmps12
    go_wp2_with fail
    refine (drawLostTime_c A n c bs w _ hS (Nat.le_refl _) hbs).mono ?_
    rintro e w1 ⟨A1, m, c1, t, A2, n2, c2, list, rfl, hT1, hL1, hm8, hn2, hpl, hb1⟩
    have hz1 := hb1.size
    obtain ⟨hm0, hm1⟩ := hT1.cap
    obtain ⟨hf0, hf1⟩ := hL1.cap
    clear hS hbs
    have c1' := fun w' (hw : Below w1.heap.size w1 w') => lostTime_c A1 m c1 t A2 n2 c2 list w' _ (hT1.below hw) (hL1.below hw) hw.size (fun p hp => by have := hpl p hp; omega)
    have c2' := fun w' (hw : Below w1.heap.size w1 w') => sLostTime_c A1 m c1 t A2 n2 c2 list w' _ (hT1.below hw) (hL1.below hw) hw.size (fun p hp => by have := hpl p hp; omega)
    by_cases hneg : lostF t list < 0
    · rw [lostF_neg hneg] at c1' c2'
      have C1 := Lib.hid c1'
      have C2 := Lib.hid c2'
      clear c1' c2' hneg hT1 hL1 hpl
      go_wp2_with fail
      refine (C1.out w1 (Below.refl _ _)).mono ?_
      rintro e w2 ⟨rfl, hb2⟩
      have hz2 := hb2.size
      go_wp2_with fail
      refine (C2.out w2 hb2).mono ?_
      rintro e w3 ⟨rfl, hb3⟩
      have hb13 := hb2.trans (hb3.mono hz2)
      go_wp2_with fail
      refine (C2.out w3 hb13).mono ?_
      rintro e w4 ⟨rfl, hb4⟩
      go_wp2_with fail
      go_ret
      exact ⟨rfl, hb1.trans ((hb13.trans (hb4.mono hb13.size)).mono hz1)⟩
    · obtain ⟨i1, hj, hj0, hj1, hj2⟩ := info_parts info_rowI
      obtain ⟨hr, hv⟩ := lostF_ok hneg
      obtain ⟨⟨hl1, hl5⟩, hfit⟩ := ringB_iff.1 hr
      have hlen := hL1.len
      rw [hlen] at hl1 hl5
      obtain ⟨hN0, hN5⟩ := lostN_bd hr
      have hturn : lostF t (list.drop 1 ++ list.take 1) = lostN t list := by rw [lostF, if_pos (ring_turn hr), lost_turn t (by omega) (by omega)]
      have hplt : ∀ p ∈ list.drop 1 ++ list.take 1, p.length ≤ 1048576 := fun p hm => by
        rcases List.mem_append.1 hm with hm | hm
        · have := hpl p (List.mem_of_mem_drop hm); omega
        · have := hpl p (List.mem_of_mem_take hm); omega
      rw [hv] at c1' c2'
      have htwo : n2 = 2 → ∃ p0 p1, list = [p0, p1] ∧ lostN t list = changeF t p0 p1 + changeF t p1 p0 := fun h2 => by
        rw [h2] at hlen
        obtain ⟨p0, p1, rfl⟩ : ∃ p0 p1, list = [p0, p1] := by
          match list, hlen with
          | [p0, p1], _ => exact ⟨p0, p1, rfl⟩
        refine ⟨p0, p1, rfl, ?_⟩
        have f0 := hfit p0 (by simp)
        have f1 := hfit p1 (by simp)
        rw [lost2, changeF, changeF, if_pos (by simp [f0, f1]), if_pos (by simp [f0, f1])]
      obtain ⟨N, hN⟩ : ∃ N, lostN t list = N := ⟨_, rfl⟩
      rw [hN] at hN0 hN5 c1' c2' hturn htwo
      have C1 := Lib.hid c1'
      have C2 := Lib.hid c2'
      have HTU := Lib.hid hturn
      have HPT := Lib.hid hplt
      have HTW := Lib.hid htwo
      have HPL := Lib.hid hpl
      have HLL := Lib.hid hlen
      clear c1' c2' hneg hv hN hr hfit hturn hplt htwo hpl hlen
      go_wp2_with fail
      refine (C1.out w1 (Below.refl _ _)).mono ?_
      rintro e w2 ⟨rfl, hb2⟩
      have hz2 := hb2.size
      go_wp2_with fail
      refine (C2.out w2 hb2).mono ?_
      rintro e w3 ⟨rfl, hb3⟩
      have hb13 := hb2.trans (hb3.mono hz2)
      have hz3 := hb13.size
      have hb03 := hb1.trans (hb13.mono hz1)
      have hL3 := (hL1.below hb13).more (B' := w3.heap.size) hz3
      have hT3 := (hT1.below hb13).more (B' := w3.heap.size) hz3
      obtain ⟨ts, hv3, hr3⟩ := hL3.trips
      obtain ⟨b, o, p0, A0, n0, c0, rfl, hbl, hp0, hcell, hrow0⟩ := hL3.at_ (k := 0) (by omega)
      have r0 : w3.heap.size ≥ 0 ∧ w3.cell? ⟨b, o, none⟩ = some (.slice A0 n0 c0) := ⟨by omega, hcell⟩
      obtain ⟨-, r0⟩ := r0
      have hd := hv3.drop (k := 1) (by omega)
      simp only [Option.map_some] at hd
      have n20 : (0 : Int) < (n2 : Int) := by omega
      have n23 : 0 < n2 := by omega
      have n21 : (1 : Int) ≤ (n2 : Int) := by omega
      have n22 : (1 : Int) ≤ (c2 : Int) := by omega
      have HP0 := Lib.hid hp0
      have HR0 := Lib.hid hrow0
      have hst : Hid (∀ (v5 : Value) (w5 : World), w5.ownsRow w3.heap.size 35 1 v5 (0 + (n2 - 1) + 1) (([] ++ (ts.drop 1).map SLit) ++ [.slice A0 n0 c0]) → Below w3.heap.size w3 w5 → ∃ A5 c5, v5 = .slice A5 n2 c5 ∧ Sl2 w5 w5.heap.size ILit A5 n2 c5 (list.drop 1 ++ list.take 1)) := Lib.hid fun v5 w5 hO hb => by
        have hz := hb.size
        have hsh : Shr w5 w3.heap.size w3.heap.size 35 ILit v5 n2 (list.drop 1 ++ list.take 1) := by
          refine ⟨_, by rw [show 0 + (n2 - 1) + 1 = n2 by omega, List.nil_append] at hO; exact hO, ((?_ : Rsl w3 w3.heap.size ILit _ _)).below hb⟩
          have hone : list.take 1 = [p0] := by
            cases list with
            | nil => simp at hp0
            | cons x r => simp at hp0; subst hp0; rfl
          rw [hone]
          refine Rsl.app ?_ (Rsl.one hrow0)
          rw [List.map_drop]; exact hr3.drop 1
        exact hsh.sl2 hz
      have HL3 := Lib.hid hL3
      clear hb2 hb3 C1 C2 hL1 hT1 hL3 hv3 hr3 hb13 hp0 hcell hrow0
      have fin : ∀ (A5 : Option Addr) (c5 : Nat) (w5 : World), Below w3.heap.size w3 w5 → Sl2 w5 w5.heap.size ILit A5 n2 c5 (list.drop 1 ++ list.take 1) → ∀ w6, Below w5.heap.size w5 w6 → Calls Try.prog 38 #[.slice A1 m c1, .slice A5 n2 c5] w6 fun e w' => e = .returned (.int .i64 N) ∧ Below w6.heap.size w6 w' := fun A5 c5 w5 hb5 hS5 w6 hb6 => by
        have := lostTime_c A1 m c1 t A5 n2 c5 _ w6 _ (((hT3.below hb5).more hb5.size).below hb6) (hS5.below hb6) hb6.size HPT.out
        rwa [HTU.out] at this
      have FIN := Lib.hid fin
      have HT3 := Lib.hid hT3
      clear fin hT3
      by_cases hcc : c2 = 1
      · rw [if_pos hcc] at hd
        have HTS := Lib.hid hd
        clear hd HTW
        obtain rfl : n2 = 1 := by omega
        subst hcc
        go_wp2_with fail
        go_region_held3 (fun w' => w'.cell? ⟨b, o, none⟩ = some (.slice A0 n0 c0)) (first | go_keep | (exact (hb4.cell (p := ⟨b, o, none⟩) (show b < w3.heap.size by omega)).trans r0) | (exact (hb5.cell (p := ⟨b, o, none⟩) (show b < w3.heap.size by omega)).trans r0))
          (first | (refine step_appS w3 _ (by rfl) (.tmp 32) (.tmp 34) 22 (by rfl) 35 i1 (.slice none 0 0) 24 Try.underlying22 hj hj0 hj1 hj2 rfl (by decide) w3.heap.size _ 0 [] (by rfl) ?_ _ _ _ w3.heap.size SLit (ts.drop 1) (by rfl) ?_ (fun _ => rfl) (by omega) (by omega) ?_ ?_ ?_; (focus (first | exact own_empty (g := w3.heap.size) (heap_alloc_new _ _) (Nat.le_refl _) | exact own_empty (g := w3.heap.size) (heap_two0 _ _ _) (Nat.le_refl _) | exact own_empty (g := w3.heap.size + 1) (heap_two1 _ _ _) (Nat.le_succ _))); (focus (refine HTS.out.below ?_; (repeat' (first | (with_reducible exact Below.refl _ _) | (with_reducible assumption) | (with_reducible refine Below.alloc ?_ ?_ _) | (with_reducible refine below_plus ?_ ?_ _ _) | (with_reducible refine Below.drew ?_) | (with_reducible refine Below.setCell ?_ ?_ _) | (with_reducible refine below_adv ?_ ?_ _) | go_size | (simp; done) | (simp; omega))))); (focus ((repeat' (first | (with_reducible exact Below.refl _ _) | (with_reducible assumption) | (with_reducible refine Below.alloc ?_ ?_ _) | (with_reducible refine below_plus ?_ ?_ _ _) | (with_reducible refine Below.drew ?_) | (with_reducible refine Below.setCell ?_ ?_ _) | (with_reducible refine below_adv ?_ ?_ _) | go_size | (simp; done) | (simp; omega))))); (focus (first | (simp; done) | (simp; omega))); intro v4 w4 hO4 hb4 hg4; have hz4 := hb4.size) | (refine step_app1 w3 _ (by rfl) (.tmp 35) (.tmp 39) 22 (by rfl) 35 i1 (.slice none 0 0) 24 Try.underlying22 hj hj0 hj1 hj2 rfl (by decide) w3.heap.size v4 (0 + (1 - 1)) ([] ++ (ts.drop 1).map SLit) (by rfl) ?_ (.slice A0 n0 c0) rfl _ (by rfl) ?_ (by omega) ?_ ?_ ?_; (focus (first | exact hO4 | exact hO4.alloc _)); (focus (first | (rw [World.cell?_alloc_new]; rfl) | exact hg4.cell (cell_two1 _ _ _ _) (show some (w3.heap.size + 1) ≠ some w3.heap.size from fun h => by injection h with h; omega) | exact hg4.cell (cell_two0 _ _ _ _) (show some w3.heap.size ≠ some (w3.heap.size + 1) from fun h => by injection h with h; omega))); (focus (first | exact hb4 | (refine hb4.alloc ?_ _; omega))); (focus (first | exact hz4 | (simp; omega))); intro v5 w5 hO5 hb5 hg5))
        all_goals
          obtain ⟨A5, c5, rfl, hS5⟩ := hst.out _ _ hO5 hb5
          have HS5 := Lib.hid hS5
          clear hO4 hb4 hg4 hO5 hg5 hS5 HTS
          go_wp2_with fail
          refine wp_region_plus (by kernel_rfl) (by kernel_rfl) ?_; (repeat (go_big_quiet_step (fail))); refine wpQuiet_nil ?_; intro _ hw'; obtain ⟨⟨osq, dq⟩, hw''⟩ := hw'; subst hw''
          go_wp2_with fail
          refine (FIN.out A5 c5 w5 hb5 HS5.out _ (by (repeat' (first | (with_reducible exact Below.refl _ _) | (with_reducible assumption) | (with_reducible refine Below.alloc ?_ ?_ _) | (with_reducible refine below_plus ?_ ?_ _ _) | (with_reducible refine Below.drew ?_) | (with_reducible refine Below.setCell ?_ ?_ _) | (with_reducible refine below_adv ?_ ?_ _) | go_size | (simp; done) | (simp; omega))))).mono ?_
          rintro e w6 ⟨rfl, hb6⟩
          have hz5 := hb5.size
          go_wp2_with fail
          go_ret
          exact ⟨rfl, by have h5 := hb03.trans (hb5.mono (by omega)); exact h5.trans ((by (repeat' (first | (with_reducible exact Below.refl _ _) | (with_reducible assumption) | (with_reducible refine Below.alloc ?_ ?_ _) | (with_reducible refine below_plus ?_ ?_ _ _) | (with_reducible refine Below.drew ?_) | (with_reducible refine Below.setCell ?_ ?_ _) | (with_reducible refine below_adv ?_ ?_ _) | go_size | (simp; done) | (simp; omega))) : Below w.heap.size w5 _).trans (hb6.mono (by simp; omega)))⟩
      · rw [if_neg hcc] at hd
        simp only [Addr.add_lit] at hd
        have HTS := Lib.hid hd
        clear hd
        go_wp2_with fail
        go_region_held3 (fun w' => w'.cell? ⟨b, o, none⟩ = some (.slice A0 n0 c0)) (first | go_keep | (exact (hb4.cell (p := ⟨b, o, none⟩) (show b < w3.heap.size by omega)).trans r0) | (exact (hb5.cell (p := ⟨b, o, none⟩) (show b < w3.heap.size by omega)).trans r0))
          (first | (refine step_appS w3 _ (by rfl) (.tmp 32) (.tmp 34) 22 (by rfl) 35 i1 (.slice none 0 0) 24 Try.underlying22 hj hj0 hj1 hj2 rfl (by decide) w3.heap.size _ 0 [] (by rfl) ?_ _ _ _ w3.heap.size SLit (ts.drop 1) (by rfl) ?_ (fun _ => rfl) (by omega) (by omega) ?_ ?_ ?_; (focus (first | exact own_empty (g := w3.heap.size) (heap_alloc_new _ _) (Nat.le_refl _) | exact own_empty (g := w3.heap.size) (heap_two0 _ _ _) (Nat.le_refl _) | exact own_empty (g := w3.heap.size + 1) (heap_two1 _ _ _) (Nat.le_succ _))); (focus (refine HTS.out.below ?_; (repeat' (first | (with_reducible exact Below.refl _ _) | (with_reducible assumption) | (with_reducible refine Below.alloc ?_ ?_ _) | (with_reducible refine below_plus ?_ ?_ _ _) | (with_reducible refine Below.drew ?_) | (with_reducible refine Below.setCell ?_ ?_ _) | (with_reducible refine below_adv ?_ ?_ _) | go_size | (simp; done) | (simp; omega))))); (focus ((repeat' (first | (with_reducible exact Below.refl _ _) | (with_reducible assumption) | (with_reducible refine Below.alloc ?_ ?_ _) | (with_reducible refine below_plus ?_ ?_ _ _) | (with_reducible refine Below.drew ?_) | (with_reducible refine Below.setCell ?_ ?_ _) | (with_reducible refine below_adv ?_ ?_ _) | go_size | (simp; done) | (simp; omega))))); (focus (first | (simp; done) | (simp; omega))); intro v4 w4 hO4 hb4 hg4; have hz4 := hb4.size) | (refine step_app1 w3 _ (by rfl) (.tmp 35) (.tmp 39) 22 (by rfl) 35 i1 (.slice none 0 0) 24 Try.underlying22 hj hj0 hj1 hj2 rfl (by decide) w3.heap.size v4 (0 + (n2 - 1)) ([] ++ (ts.drop 1).map SLit) (by rfl) ?_ (.slice A0 n0 c0) rfl _ (by rfl) ?_ (by omega) ?_ ?_ ?_; (focus (first | exact hO4 | exact hO4.alloc _)); (focus (first | (rw [World.cell?_alloc_new]; rfl) | exact hg4.cell (cell_two1 _ _ _ _) (show some (w3.heap.size + 1) ≠ some w3.heap.size from fun h => by injection h with h; omega) | exact hg4.cell (cell_two0 _ _ _ _) (show some w3.heap.size ≠ some (w3.heap.size + 1) from fun h => by injection h with h; omega))); (focus (first | exact hb4 | (refine hb4.alloc ?_ _; omega))); (focus (first | exact hz4 | (simp; omega))); intro v5 w5 hO5 hb5 hg5))
        all_goals
          obtain ⟨A5, c5, rfl, hS5⟩ := hst.out _ _ hO5 hb5
          have HS5 := Lib.hid hS5
          clear hO4 hb4 hg4 hO5 hg5 hS5 HTS
          by_cases h2 : n2 = 2
          · obtain ⟨q0, q1, hq, hNe⟩ := HTW.out h2
            subst h2
            obtain ⟨b', o', p1, A01, n01, c01, hA', -, hp1, hcell1, hrow1⟩ := HL3.out.at_ (k := 1) (by omega)
            injection hA' with hA'
            injection hA' with hA1 hA2
            subst hA1 hA2
            have hq0 : q0 = p0 := by have := HP0.out; rw [hq] at this; simpa using this
            have hq1 : q1 = p1 := by rw [hq] at hp1; simpa using hp1
            rw [hq0, hq1] at hNe
            have l0 := HPL.out p0 (List.mem_of_getElem? HP0.out)
            have l1 := HPL.out p1 (List.mem_of_getElem? hp1)
            rw [HR0.out.len] at l0
            rw [hrow1.len] at l1
            have r1 : w3.cell? ⟨b, o + 1, none⟩ = some (.slice A01 n01 c01) := hcell1
            have r05 := (hb5.cell (p := ⟨b, o, none⟩) hbl).trans r0
            have r15 := (hb5.cell (p := ⟨b, o + 1, none⟩) hbl).trans r1
            have hz5 := hb5.size
            have hbw : b < w5.heap.size := by omega
            have hT5 := (HT3.out.below hb5).more hz5
            have hR05 := (HR0.out.below hb5).more hz5
            have hR15 := (hrow1.below hb5).more hz5
            have ch1 := fun (os : Array Obj) (d : Nat) => changeTime_c A1 m c1 t A0 n0 c0 p0 A01 n01 c01 p1 (plus w5 os d) _ (hT5.keep fun b' i h => cell?_plus w5 os d b' i h) (hR05.plus (Nat.le_refl _) os d) (hR15.plus (Nat.le_refl _) os d) (by simp) (by omega) (by omega)
            have ch2 := fun (os : Array Obj) (d : Nat) => changeTime_c A1 m c1 t A01 n01 c01 p1 A0 n0 c0 p0 (plus w5 os d) _ (hT5.keep fun b' i h => cell?_plus w5 os d b' i h) (hR15.plus (Nat.le_refl _) os d) (hR05.plus (Nat.le_refl _) os d) (by simp) (by omega) (by omega)
            obtain ⟨P, hP⟩ : ∃ P, changeF t p0 p1 = P := ⟨_, rfl⟩
            obtain ⟨Q, hQ⟩ : ∃ Q, changeF t p1 p0 = Q := ⟨_, rfl⟩
            rw [hP, hQ] at hNe
            rw [hP] at ch1
            rw [hQ] at ch2
            have CH1 := Lib.hid ch1
            have CH2 := Lib.hid ch2
            subst hNe
            have s1 : IntKind.i64.wrap (P + Q) = P + Q := IntWalk.i64_in _ (by omega)
            have HB5 := Lib.hid hb5
            clear ch1 ch2 hP hQ hq hq0 hq1 hp1 hcell1 hrow1 hT5 hR05 hR15 r0 r1 HTW hst
            go_wp2_with fail
            refine wp_region_plus (by kernel_rfl) (by kernel_rfl) ?_; (repeat (go_big_quiet_step ((first | (go_at_call 33; with_reducible exact quiet_plus (CH1.out _ _)) | (go_at_call 33; with_reducible exact quiet_plus (CH2.out _ _)))))); refine wpQuiet_nil ?_; intro _ hw'; obtain ⟨⟨osq, dq⟩, hw''⟩ := hw'; subst hw''
            clear s1
            go_wp2_with fail
            refine (FIN.out A5 c5 w5 HB5.out HS5.out _ (by (repeat' (first | (with_reducible exact Below.refl _ _) | (with_reducible assumption) | (with_reducible refine Below.alloc ?_ ?_ _) | (with_reducible refine below_plus ?_ ?_ _ _) | (with_reducible refine Below.drew ?_) | (with_reducible refine Below.setCell ?_ ?_ _) | (with_reducible refine below_adv ?_ ?_ _) | go_size | (simp; done) | (simp; omega))))).mono ?_
            rintro e w6 ⟨rfl, hb6⟩
            go_wp2_with fail
            go_ret
            exact ⟨rfl, by have h5 := hb03.trans (HB5.out.mono (by omega)); exact h5.trans ((by (repeat' (first | (with_reducible exact Below.refl _ _) | (with_reducible assumption) | (with_reducible refine Below.alloc ?_ ?_ _) | (with_reducible refine below_plus ?_ ?_ _ _) | (with_reducible refine Below.drew ?_) | (with_reducible refine Below.setCell ?_ ?_ _) | (with_reducible refine below_adv ?_ ?_ _) | go_size | (simp; done) | (simp; omega))) : Below w.heap.size w5 _).trans (hb6.mono (by simp; omega)))⟩
          · have h2' : ((n2 : Int) == 2) = false := by simp; omega
            clear HTW
            go_wp2_with fail
            refine wp_region_plus (by kernel_rfl) (by kernel_rfl) ?_; (repeat (go_big_quiet_step (fail))); refine wpQuiet_nil ?_; intro _ hw'; obtain ⟨⟨osq, dq⟩, hw''⟩ := hw'; subst hw''
            go_wp2_with fail
            refine (FIN.out A5 c5 w5 hb5 HS5.out _ (by (repeat' (first | (with_reducible exact Below.refl _ _) | (with_reducible assumption) | (with_reducible refine Below.alloc ?_ ?_ _) | (with_reducible refine below_plus ?_ ?_ _ _) | (with_reducible refine Below.drew ?_) | (with_reducible refine Below.setCell ?_ ?_ _) | (with_reducible refine below_adv ?_ ?_ _) | go_size | (simp; done) | (simp; omega))))).mono ?_
            rintro e w6 ⟨rfl, hb6⟩
            have hz5 := hb5.size
            go_wp2_with fail
            go_ret
            exact ⟨rfl, by have h5 := hb03.trans (hb5.mono (by omega)); exact h5.trans ((by (repeat' (first | (with_reducible exact Below.refl _ _) | (with_reducible assumption) | (with_reducible refine Below.alloc ?_ ?_ _) | (with_reducible refine below_plus ?_ ?_ _ _) | (with_reducible refine Below.drew ?_) | (with_reducible refine Below.setCell ?_ ?_ _) | (with_reducible refine below_adv ?_ ?_ _) | go_size | (simp; done) | (simp; omega))) : Below w.heap.size w5 _).trans (hb6.mono (by simp; omega)))⟩
end Go.Proofs.Ytlpbmnmhpknppaa
