/- The law LostTimeOne. -/
import Derived.Test.YtlpbmnmhpknppaaCe4
set_option linter.unusedVariables false
set_option linter.unusedSimpArgs false
namespace Go.Proofs.Ytlpbmnmhpknppaa
open Go.RowKit

theorem ring_more {t list : List (List Int)} (h : ringB t list = true) (h5 : list.length < 5) : ringB t (list.take 1 ++ list) = true := by
  obtain ⟨⟨h1, _⟩, hp⟩ := ringB_iff.1 h
  refine ringB_iff.2 ⟨by simp; omega, fun p hm => ?_⟩
  rcases List.mem_append.1 hm with hm | hm
  · exact hp p (List.mem_of_mem_take hm)
  · exact hp p hm
theorem ring_one {t list : List (List Int)} (h : ringB t list = true) : ringB t (list.take 1) = true := by
  obtain ⟨⟨h1, _⟩, hp⟩ := ringB_iff.1 h
  exact ringB_iff.2 ⟨by simp; omega, fun p hm => hp p (List.mem_of_mem_take hm)⟩

set_option maxHeartbeats 8000000 in
set_option maxRecDepth 100000 in
theorem lostTimeOneLaw_walk (A : Option Addr) (n c : Nat) (bs : List Int) (w : World) (hS : Sl w w.heap.size BLit A n c bs) (hbs : ∀ x ∈ bs, 0 ≤ x ∧ x ≤ 255) :
    Calls Try.prog 11 #[.slice A n c] w fun e w' => e = .returned (.bool true) ∧ Below w.heap.size w w' := by
  obtain ⟨hc0, hc1⟩ := hS.cap
  by_cases hn : 1048576 < n
  · go_enter Try.func11, Try.ntmps11
    go_wp2
    go_ret
    exact ⟨rfl, by (repeat' (first | (with_reducible exact Below.refl _ _) | (with_reducible assumption) | (with_reducible refine Below.alloc ?_ ?_ _) | (with_reducible refine below_plus ?_ ?_ _ _) | (with_reducible refine Below.drew ?_) | (with_reducible refine Below.setCell ?_ ?_ _) | (with_reducible refine below_adv ?_ ?_ _) | go_size | (simp; done) | (simp; omega)))⟩
  · go_enter Try.func11, Try.ntmps11
    go_wp2_with fail
    refine (drawLostTime_c A n c bs w _ hS (Nat.le_refl _) hbs).mono ?_
    rintro e w1 ⟨A1, m, c1, t, A2, n2, c2, list, rfl, hT1, hL1, hm8, hn2, hpl, hb1⟩
    have hz1 := hb1.size
    obtain ⟨hm0, hm1⟩ := hT1.cap
    obtain ⟨hf0, hf1⟩ := hL1.cap
    clear hS hbs
    have c1' := fun w' (hw : Below w1.heap.size w1 w') => lostTime_c A1 m c1 t A2 n2 c2 list w' _ (hT1.below hw) (hL1.below hw) hw.size (fun p hp => by have := hpl p hp; omega)
    have c2' := fun w' (hw : Below w1.heap.size w1 w') => sLostTime_c A1 m c1 t A2 n2 c2 list w' _ (hT1.below hw) (hL1.below hw) hw.size (fun p hp => by have := hpl p hp; omega)
    by_cases hneg : lostF t list < 0
    · rw [lostF_neg hneg] at c1' c2'
      have C1 := Lib.hid c1'
      have C2 := Lib.hid c2'
      clear c1' c2' hneg hT1 hL1 hpl
      go_wp2_with fail
      refine (C1.out w1 (Below.refl _ _)).mono ?_
      rintro e w2 ⟨rfl, hb2⟩
      have hz2 := hb2.size
      go_wp2_with fail
      refine (C2.out w2 hb2).mono ?_
      rintro e w3 ⟨rfl, hb3⟩
      have hb13 := hb2.trans (hb3.mono hz2)
      go_wp2_with fail
      refine (C2.out w3 hb13).mono ?_
      rintro e w4 ⟨rfl, hb4⟩
      go_wp2_with fail
      go_ret
      exact ⟨rfl, hb1.trans ((hb13.trans (hb4.mono hb13.size)).mono hz1)⟩
    · obtain ⟨i1, hj, hj0, hj1, hj2⟩ := info_parts info_rowI
      obtain ⟨hr, hv⟩ := lostF_ok hneg
      obtain ⟨⟨hl1, hl5⟩, hfit⟩ := ringB_iff.1 hr
      have hlen := hL1.len
      rw [hlen] at hl1 hl5
      obtain ⟨hN0, hN5⟩ := lostN_bd hr
      have hinc := (ringB_inC hr).2
      have hone : lostF t (list.take 1) = 0 := by rw [lostF, if_pos (ring_one hr), lost_single hinc (by omega)]
      have htwice : n2 < 5 → lostF t (list.take 1 ++ list) = lostN t list := fun h5 => by rw [lostF, if_pos (ring_more hr (by omega)), lost_twice hinc (by omega) (by omega)]
      have c3' := fun w' (hw : Below w1.heap.size w1 w') => lostTime_c A1 m c1 t A2 1 c2 (list.take 1) w' _ (hT1.below hw) ((hL1.take hl1).below hw) hw.size (fun p hp => by have := hpl p (List.mem_of_mem_take hp); omega)
      rw [hone] at c3'
      have C3 := Lib.hid c3'
      rw [hv] at c1' c2'
      obtain ⟨N, hN⟩ : ∃ N, lostN t list = N := ⟨_, rfl⟩
      rw [hN] at hN0 hN5 c1' c2' htwice
      have C1 := Lib.hid c1'
      have C2 := Lib.hid c2'
      have HTW := Lib.hid htwice
      have HPL := Lib.hid hpl
      clear c1' c2' c3' hneg hv hN hr hfit htwice hone hpl hinc
      obtain ⟨b, o, p0, A0, n0, c0, rfl, hbl, hp0, hcell, hrow0⟩ := hL1.at_ (k := 0) (by omega)
      have r0 : w1.cell? ⟨b, o, none⟩ = some (.slice A0 n0 c0) := hcell
      have n1c : (1 : Int) ≤ (c2 : Int) := by omega
      have n20 : (0 : Int) < (n2 : Int) := by omega
      have n23 : 0 < n2 := by omega
      clear hcell
      by_cases h5 : n2 < 5
      · have HTW5 := Lib.hid (HTW.out h5)
        obtain ⟨ts, hv3, hr3⟩ := hL1.trips
        have HO : Hid (∀ (w3 : World), Below w1.heap.size w1 w3 → ∀ v5 w5, w5.ownsRow w3.heap.size 35 1 v5 (1 + n2) ([.slice A0 n0 c0] ++ ts.map SLit) → Below w3.heap.size w3 w5 → ∃ A5 c5, v5 = .slice A5 (1 + n2) c5 ∧ Sl2 w5 w5.heap.size ILit A5 (1 + n2) c5 (list.take 1 ++ list)) := Lib.hid fun w3 hw v5 w5 hO hb => by
          have hz := hb.size
          have hz3 := hw.size
          have hsh : Shr w5 w3.heap.size w1.heap.size 35 ILit v5 (1 + n2) (list.take 1 ++ list) := by
            refine ⟨_, hO, (((?_ : Rsl w1 w1.heap.size ILit _ _)).below hw).below (hb.mono hz3)⟩
            have hone : list.take 1 = [p0] := by
              cases list with
              | nil => simp at hp0
              | cons x r => simp at hp0; subst hp0; rfl
            rw [hone]
            exact Rsl.app (Rsl.one hrow0) hr3
          exact hsh.sl2 (by omega)
        have HV3 := Lib.hid hv3
        have HPT : Hid (∀ p ∈ list.take 1 ++ list, p.length ≤ 1048576) := Lib.hid fun p hm => by
          rcases List.mem_append.1 hm with hm | hm
          · have := HPL.out p (List.mem_of_mem_take hm); omega
          · have := HPL.out p hm; omega
        have HT1 := Lib.hid hT1
        clear hv3 hr3 hT1 hL1 hrow0 hp0 hlen
        go_wp2_with fail
        refine (C1.out w1 (Below.refl _ _)).mono ?_
        rintro e w2 ⟨rfl, hb2⟩
        have hz2 := hb2.size
        go_wp2_with fail
        refine (C2.out w2 hb2).mono ?_
        rintro e w3 ⟨rfl, hb3⟩
        have hb13 := hb2.trans (hb3.mono hz2)
        have hz3 := hb13.size
        have r03 := (hb13.cell (p := ⟨b, o, none⟩) hbl).trans r0
        have hn0 := own_one w3 (.slice A0 n0 c0) 35 (Nat.le_refl _)
        have hb34 : Below w3.heap.size w3 (w3.alloc (.cells #[.slice A0 n0 c0] 35)) := (Below.refl _ _).alloc (Nat.le_refl _) _
        have hS34 := (HV3.out.below hb13).below (hb34.mono hz3)
        clear hb2 hb3 r0 C1 C2
        go_wp2_with (at_builtin; refine wpList_appS w3 _ rfl _ _ 22 rfl 35 i1 (.slice none 0 0) 24 Try.underlying22 hj hj0 hj1 hj2 rfl (by decide) w3.heap.size _ 1 [.slice A0 n0 c0] (by rfl) hn0 _ n2 c2 _ SLit ts (by rfl) hS34 (fun _ => rfl) (by omega) (by omega) hb34 (by simp) ?_; intro v5 w5 hO5 hb5 hg5)
        obtain ⟨A5, c5, rfl, hS5⟩ := HO.out w3 hb13 _ _ hO5 hb5
        have hz5 := hb5.size
        have hb15 := hb13.trans (hb5.mono hz3)
        have ch := lostTime_c A1 m c1 t A5 (1 + n2) c5 _ w5 _ ((HT1.out.below hb15).more (B' := w5.heap.size) (by omega)) hS5 (Nat.le_refl _) HPT.out
        rw [HTW5.out] at ch
        have CH := Lib.hid ch
        clear ch hS5 hO5 hg5 hS34 hn0 hb34 hb5 hb13 r03
        go_wp2_with fail
        refine CH.out.mono ?_
        rintro e w6 ⟨rfl, hb6⟩
        have hb16 := hb15.trans (hb6.mono (by omega))
        clear CH hb15 hb6
        go_wp2_with fail
        refine (C3.out w6 hb16).mono ?_
        rintro e w7 ⟨rfl, hb7⟩
        go_wp2_with fail
        go_ret
        exact ⟨rfl, hb1.trans ((hb16.trans (hb7.mono hb16.size)).mono hz1)⟩
      · clear hrow0 hp0 hlen hT1 hL1
        go_wp2_with fail
        refine (C1.out w1 (Below.refl _ _)).mono ?_
        rintro e w2 ⟨rfl, hb2⟩
        have hz2 := hb2.size
        go_wp2_with fail
        refine (C2.out w2 hb2).mono ?_
        rintro e w3 ⟨rfl, hb3⟩
        have hb13 := hb2.trans (hb3.mono hz2)
        clear hb2 hb3
        go_wp2_with fail
        refine (C3.out w3 hb13).mono ?_
        rintro e w7 ⟨rfl, hb7⟩
        go_wp2_with fail
        go_ret
        exact ⟨rfl, hb1.trans ((hb13.trans (hb7.mono hb13.size)).mono hz1)⟩
end Go.Proofs.Ytlpbmnmhpknppaa
