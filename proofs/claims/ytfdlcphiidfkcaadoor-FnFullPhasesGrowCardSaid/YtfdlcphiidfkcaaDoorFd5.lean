/- The law FullPhasesGrow. -/
import Derived.Test.YtfdlcphiidfkcaaDoorFd1
import Derived.Test.YtfdlcphiidfkcaaDoorFd2
import Derived.Test.YtfdlcphiidfkcaaDoorFc3
import Derived.Test.YtfdlcphiidfkcaaDoorPg
set_option linter.unusedVariables false
set_option linter.unusedSimpArgs false
namespace Go.Proofs.YtfdlcphiidfkcaaDoor
open Go.RowKit

set_option maxRecDepth 4000 in
set_option maxHeartbeats 8000000 in
theorem fullPhasesGrowLaw_walk (A : Option Addr) (n c : Nat) (bs : List Int) (w : World) (hS : Sl w w.heap.size BLit A n c bs) (hbs : ∀ x ∈ bs, 0 ≤ x ∧ x ≤ 255) (hTab : TabB w) :
    Calls Tryd.prog 8 #[.slice A n c] w fun e w' => e = .returned (.bool true) ∧ Below w.heap.size w w' := by
  obtain ⟨hc0, hc1⟩ := hS.cap
  by_cases hn : 1048576 < n
  · go_enter Tryd.func8, Tryd.ntmps8
    go_wp2
    go_ret
    exact ⟨rfl, by (repeat' (first | (with_reducible exact Below.refl _ _) | (with_reducible assumption) | (with_reducible refine Below.alloc ?_ ?_ _) | (with_reducible refine below_plus ?_ ?_ _ _) | (with_reducible refine Below.drew ?_) | (with_reducible refine Below.setCell ?_ ?_ _) | (with_reducible refine below_adv ?_ ?_ _) | go_size | (simp; done) | (simp; omega)))⟩
  · go_enter Tryd.func8, Tryd.ntmps8
    go_wp2_with fail
    refine (drawValidPhase_c A n c bs w _ hS (Nat.le_refl _) hbs).mono ?_
    rintro e w1 ⟨At, m, ct, t, A2, n2, c2, ph, rfl, hT1, hP1, hm8, hn2, hb1⟩
    have hz1 := hb1.size
    have htl := hT1.len
    obtain ⟨hct0, hct1⟩ := hT1.cap
    have HT := Lib.hid hT1
    have HP := Lib.hid hP1
    have HTB := Lib.hid (hTab.below hb1)
    have CI := Lib.hid (fun w' (hw : Below w1.heap.size w1 w') => fullPhases_c At m ct t w' _ (HT.out.below hw) hw.size (HTB.out.below hw))
    have ci := fun w' (hw : Below w1.heap.size w1 w') => validPhase_c At m ct t A2 n2 c2 ph w' _ (HT.out.below hw) (HP.out.below hw) hw.size (by omega)
    have cs := fun w' (hw : Below w1.heap.size w1 w') => sValidPhase_c At m ct t A2 n2 c2 ph w' _ (HT.out.below hw) (HP.out.below hw) hw.size (by omega)
    have HB1 := Lib.hid hb1
    clear hS hbs hT1 hP1 hb1 hTab
    cases hv : phaseF t ph
    · rw [hv] at ci cs
      have CV := Lib.hid ci
      have CS := Lib.hid cs
      clear ci cs hv
      go_wp2_with fail
      refine (CV.out w1 (Below.refl _ _)).mono ?_
      rintro e w2 ⟨rfl, hb2⟩
      have hz2 := hb2.size
      go_wp2_with fail
      refine (CS.out w2 hb2).mono ?_
      rintro e w3 ⟨rfl, hb3⟩
      have hb23 := hb2.trans (hb3.mono hz2)
      go_wp2_with fail
      refine (CS.out w3 hb23).mono ?_
      rintro e w4 ⟨rfl, hb4⟩
      go_wp2_with fail
      go_ret
      exact ⟨rfl, HB1.out.trans ((hb23.trans (hb4.mono hb23.size)).mono HB1.out.size)⟩
    · rw [hv] at ci cs
      have CV := Lib.hid ci
      have CS := Lib.hid cs
      have ht : tOk t = true := by
        cases h : tOk t
        · rw [phaseF_no h] at hv; cases hv
        · rfl
      have HPT := Lib.hid (full_part hv)
      have HLN := Lib.hid (fun p (h : p ∈ fullL t) => full_len ht h)
      clear ci cs hv ht
      go_wp2_with fail
      refine (CV.out w1 (Below.refl _ _)).mono ?_
      rintro e w2 ⟨rfl, hb2⟩
      have hz2 := hb2.size
      go_wp2_with fail
      refine (CS.out w2 hb2).mono ?_
      rintro e w3 ⟨rfl, hb3⟩
      have hb23 := hb2.trans (hb3.mono hz2)
      have hz23 := hb23.size
      go_wp2_with fail
      refine (CI.out w3 hb23).mono ?_
      rintro e w4 ⟨A4, n4, c4, rfl, hO4, hb4⟩
      have hb24 := hb23.trans (hb4.mono hz23)
      have hz4 := hb24.size
      have hl4 := hO4.len
      obtain ⟨hk0, hk1⟩ := hO4.cap
      have HL := Lib.hid hO4.sl2
      have HB24 := Lib.hid hb24
      obtain ⟨L, hL⟩ : ∃ L, fullL t = L := ⟨_, rfl⟩
      rw [hL] at HPT HLN HL hl4
      have HL4 := Lib.hid hl4
      clear hO4 hb2 hb3 hb23 hb4 hb24 CV CS CI hL hl4
      go_wp2_with fail
      go_loopw [7] (fun i wr => ∃ (k : Nat), k ≤ n4 ∧ i = .int .i64 k ∧ Hid (∀ p ∈ L.take k, (ph.all fun x => decide (x ∈ p)) = false) ∧ Below w4.heap.size w4 wr) (fun i _ => n4 - (intOf i).toNat)
      case atStart => exact ⟨0, by omega, rfl, Lib.hid (by simp), Below.refl _ _⟩
      case round =>
        obtain ⟨k, hk, rfl, hall, hb⟩ := hrel
        have hzr := hb.size
        by_cases hlt : k < n4
        · obtain ⟨b, o, p, A5, n5, c5, rfl, hbl, hp, hcp, hrp⟩ := HL.out.at_ hlt
          have r1 := (hb.cell (p := ⟨b, o + k, none⟩) hbl).trans hcp
          have hpl := HLN.out p (List.mem_of_getElem? hp)
          rw [hrp.len, htl] at hpl
          have hbb := HB24.out.trans (hb.mono hz4)
          have cp := isPart_c A2 n2 c2 ph A5 n5 c5 p wr wr.heap.size ((HP.out.below hbb).more hbb.size) ((hrp.below hb).more hzr) (Nat.le_refl _) (by omega) (by omega)
          obtain ⟨u, hu⟩ : ∃ u, (ph.all fun x => decide (x ∈ p)) = u := ⟨_, rfl⟩
          rw [hu] at cp
          have CP := Lib.hid cp
          have HB := Lib.hid hb
          cases u
          · have HN : Hid (∀ q ∈ L.take (k + 1), (ph.all fun x => decide (x ∈ q)) = false) := Lib.hid fun q hq => by
              rw [take_snoc hp] at hq
              rcases List.mem_append.1 hq with h | h
              · exact hall.out q h
              · simp at h; subst h; exact hu
            clear cp hrp hcp hp hu hall hb hbb
            go_wp2_with fail
            clear r1
            refine CP.out.mono ?_
            rintro e wa ⟨rfl, hba⟩
            have hbn := HB.out.trans (hba.mono hzr)
            go_wp2_with fail
            go_roundw
            case rel => exact ⟨k + 1, by omega, by go_num, HN, hbn⟩
            case measure => simp [intOf]; omega
          · clear cp hrp hcp hp hu hall hb hbb
            go_wp2_with fail
            clear r1
            refine CP.out.mono ?_
            rintro e wa ⟨rfl, hba⟩
            have hbn := HB.out.trans (hba.mono hzr)
            go_wp2_with fail
            go_ret
            exact ⟨rfl, HB1.out.trans ((HB24.out.trans (hbn.mono hz4)).mono HB1.out.size)⟩
        · exfalso
          obtain ⟨q, hq, hin⟩ := HPT.out
          have hE := hall.out q (by rw [List.take_of_length_le (by rw [HL4.out]; omega)]; exact hq)
          rw [List.all_eq_false] at hE
          obtain ⟨x, hx, hne⟩ := hE
          exact hne (by simpa using hin x hx)
end Go.Proofs.YtfdlcphiidfkcaaDoor
