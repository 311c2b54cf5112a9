/- The law ValidConflicts. -/
import Derived.Test.YtpngddcdcpepmaaPg3
import Derived.Test.YtpngddcdcpepmaaPa5
set_option linter.unusedVariables false
set_option linter.unusedSimpArgs false
namespace Go.Proofs.Ytpngddcdcpepmaa
open Go.RowKit

theorem phase_two {t : List (List Bool)} (h : tOk t = true) {a b : Nat} (hab : b < a) (ha : a < t.length) : phaseF t [(b : Int), (a : Int)] = !tAt t a b := by
  rw [phaseF_yes h, phOk]
  have e1 : ascB [(b : Int), (a : Int)] 0 ((t.length : Int) - 1) = true := by
    simp [ascB, allB, inB]; omega
  rw [e1]
  cases hx : tAt t a b <;> simp [clearB, hx]
theorem phase_one {t : List (List Bool)} (h : tOk t = true) {a : Nat} (ha : a < t.length) : phaseF t [(a : Int)] = true := by
  rw [phaseF_yes h, phOk]
  have e1 : ascB [(a : Int)] 0 ((t.length : Int) - 1) = true := by
    simp [ascB, allB, inB]; omega
  rw [e1]
  simp [clearB]
theorem phase_nil {t : List (List Bool)} (h : tOk t = true) : phaseF t [] = true := by
  rw [phaseF_yes h, phOk]
  simp [ascB, allB, clearB]

set_option maxHeartbeats 4000000 in
theorem validConflictsLaw_walk (A : Option Addr) (n c : Nat) (bs : List Int) (w : World) (hS : Sl w w.heap.size BLit A n c bs) (hbs : ∀ x ∈ bs, 0 ≤ x ∧ x ≤ 255) :
    Calls Try.prog 4 #[.slice A n c] w fun e w' => e = .returned (.bool true) ∧ Below w.heap.size w w' := by
  obtain ⟨hc0, hc1⟩ := hS.cap
  by_cases hn : 1048576 < n
  · go_enter Try.func4, Try.ntmps4
    go_wp2
    go_ret
    exact ⟨rfl, by (repeat' (first | (with_reducible exact Below.refl _ _) | (with_reducible assumption) | (with_reducible refine Below.alloc ?_ ?_ _) | (with_reducible refine below_plus ?_ ?_ _ _) | (with_reducible refine Below.drew ?_) | (with_reducible refine Below.setCell ?_ ?_ _) | (with_reducible refine below_adv ?_ ?_ _) | go_size | (simp; done) | (simp; omega)))⟩
  · go_enter Try.func4, Try.ntmps4
    go_wp2_with fail
    refine (drawValidConflicts_c A n c bs w _ hS (Nat.le_refl _) hbs).mono ?_
    rintro e w1 ⟨A1, m, c1, t, rfl, hT1, hm8, hb1⟩
    have hz1 := hb1.size
    obtain ⟨hcm0, hcm1⟩ := hT1.cap
    clear hS hbs
    have c1' := fun w' (hw : Below w1.heap.size w1 w') => validConflicts_c A1 m c1 t w' _ (hT1.below hw) hw.size
    have c2' := fun w' (hw : Below w1.heap.size w1 w') => sValidConflicts_c A1 m c1 t w' _ (hT1.below hw) hw.size
    cases hok : tOk t
    · rw [hok] at c1' c2'
      have C1 := Lib.hid c1'
      have C2 := Lib.hid c2'
      clear c1' c2' hok
      go_wp2_with fail
      refine (C1.out w1 (Below.refl _ _)).mono ?_
      rintro e w2 ⟨rfl, hb2⟩
      have hz2 := hb2.size
      go_wp2_with fail
      refine (C2.out w2 hb2).mono ?_
      rintro e w3 ⟨rfl, hb3⟩
      have hb13 := hb2.trans (hb3.mono hz2)
      have hz3 := hb3.size
      go_wp2_with fail
      refine (C2.out w3 hb13).mono ?_
      rintro e w4 ⟨rfl, hb4⟩
      go_wp2_with fail
      go_ret
      exact ⟨rfl, (hb1.trans (hb13.mono hz1)).trans (hb4.mono (by omega))⟩
    · rw [hok] at c1' c2'
      have C1 := Lib.hid c1'
      have C2 := Lib.hid c2'
      have HK := Lib.hid hok
      have HSQ := Lib.hid (tOk_iff.1 hok).2.2.1
      have HL := Lib.hid hT1.len
      clear c1' c2' hok
      go_wp2_with fail
      refine (C1.out w1 (Below.refl _ _)).mono ?_
      rintro e w2 ⟨rfl, hb2⟩
      have hz2 := hb2.size
      go_wp2_with fail
      refine (C2.out w2 hb2).mono ?_
      rintro e w3 ⟨rfl, hb3⟩
      have hz3 := hb3.size
      have hb13 := hb2.trans (hb3.mono hz2)
      have hT3 := (hT1.below hb13).more (B' := w3.heap.size) (by omega)
      have hb03 := hb1.trans (hb13.mono hz1)
      clear hT1 hb13 hb2 hb3 hb1 C1 C2
      go_wp2_with fail
      go_loopw [5] (fun i wr => ∃ (a : Nat), a ≤ m ∧ i = .int .i64 a ∧ Below w3.heap.size w3 wr) (fun i _ => m - (intOf i).toNat)
      case atStart => exact ⟨0, by omega, rfl, Below.refl _ _⟩
      case round =>
        obtain ⟨a, ha, rfl, hb⟩ := hrel
        have hzr := hb.size
        by_cases ham : a < m
        · go_wp2_with fail
          go_loopw [6] (fun i wr => ∃ (b : Nat), b ≤ a ∧ i = .int .i64 b ∧ Below w3.heap.size w3 wr) (fun i _ => a - (intOf i).toNat)
          case atStart => exact ⟨0, by omega, rfl, hb⟩
          case round =>
            clear hb hzr
            obtain ⟨b, hba, rfl, hb⟩ := hrel
            have hzr := hb.size
            have hT4 := (hT3.below hb).more hzr
            by_cases hlt : b < a
            · obtain ⟨bt, ot, b1, o1, ca, ra, rfl, hbt, hb1, hra, hral, hrac, hcella, hrowa⟩ := hT4.entry HSQ.out ham
              obtain ⟨bt', ot', b2, o2, cb, rb, hA, -, hb2, hrb, hrbl, hrbc, hcellb, hrowb⟩ := hT4.entry HSQ.out (a := b) (by omega)
              simp only [Option.some.injEq, Addr.mk.injEq, and_true] at hA
              obtain ⟨rfl, rfl⟩ := hA
              obtain ⟨x, hx⟩ : ∃ x, ra[b]? = some x := ⟨_, List.getElem?_eq_getElem (by rw [hral]; omega)⟩
              obtain ⟨y, hy⟩ : ∃ y, rb[a]? = some y := ⟨_, List.getElem?_eq_getElem (by rw [hrbl]; exact ham)⟩
              have e1 := tAt_of hra hx
              have e2 := tAt_of hrb hy
              have hxy := tOk_sym HK.out (a := a) (b := b) (by rw [HL.out]; exact ham) (by rw [HL.out]; omega)
              rw [e1, e2] at hxy
              subst hxy
              have k1 : wr.cell? ⟨bt, ot + a, none⟩ = some (.slice (some ⟨b1, o1, none⟩) m ca) := hcella
              have k2 : wr.cell? ⟨bt, ot + b, none⟩ = some (.slice (some ⟨b2, o2, none⟩) m cb) := hcellb
              have k3 : wr.cell? ⟨b1, o1 + b, none⟩ = some (.bool x) := hrowa b x hx
              have k4 : wr.cell? ⟨b2, o2 + a, none⟩ = some (.bool x) := hrowb a x hy
              have hph := phase_two HK.out hlt (by rw [HL.out]; exact ham)
              rw [e1] at hph
              have hbw : Below wr.heap.size wr (wr.alloc (.cells #[.int .i64 (b : Int), .int .i64 (a : Int)] 3)).drew := ((Below.refl _ _).alloc (Nat.le_refl _) _).drew
              have hSn := (Sl.new wr ILit [(b : Int), (a : Int)] 3 (by simp)).drew
              have cv := validPhase_c _ m c1 t _ 2 2 [(b : Int), (a : Int)] ((wr.alloc (.cells #[.int .i64 (b : Int), .int .i64 (a : Int)] 3)).drew) (wr.heap.size + 1) ((hT4.below hbw).more (Nat.le_succ _)) hSn (by simp) (by omega)
              rw [hph] at cv
              have CV := Lib.hid cv
              have a0 : (0 : Int) ≤ (a : Int) := by omega
              have a1 : (a : Int) < (m : Int) := by omega
              have b0 : (0 : Int) ≤ (b : Int) := by omega
              have b3 : (b : Int) < (m : Int) := by omega
              have l1 : bt < wr.heap.size := by omega
              have l2 : b1 < wr.heap.size := by omega
              have l3 : b2 < wr.heap.size := by omega
              have HB := Lib.hid hbw
              clear hcella hcellb hrowa hrowb hra hrb hx hy e1 e2 hph hSn cv hral hrbl hbw
              go_wp2_with fail
              cases x
              · go_region_held3 (fun w' => w'.cell? ⟨bt, ot + a, none⟩ = some (.slice (some ⟨b1, o1, none⟩) m ca) ∧ w'.cell? ⟨bt, ot + b, none⟩ = some (.slice (some ⟨b2, o2, none⟩) m cb) ∧ w'.cell? ⟨b1, o1 + b, none⟩ = some (.bool false) ∧ w'.cell? ⟨b2, o2 + a, none⟩ = some (.bool false)) (first | go_keep | (exact ⟨(hbz.cell (p := ⟨bt, ot + a, none⟩) l1).trans k1, (hbz.cell (p := ⟨bt, ot + b, none⟩) l1).trans k2, (hbz.cell (p := ⟨b1, o1 + b, none⟩) l2).trans k3, (hbz.cell (p := ⟨b2, o2 + a, none⟩) l3).trans k4⟩))
                  ((go_at_call 13; refine CV.out.mono ?_; rintro e w5 ⟨rfl, hb5⟩; have hbz := HB.out.trans (hb5.mono HB.out.size)))
                go_wp2_with fail
                go_roundw
                case rel => exact ⟨b + 1, by omega, by go_num, hb.trans (hbz.mono hzr)⟩
                case measure => simp [intOf]; omega
              · go_region_held3 (fun w' => w'.cell? ⟨bt, ot + a, none⟩ = some (.slice (some ⟨b1, o1, none⟩) m ca) ∧ w'.cell? ⟨bt, ot + b, none⟩ = some (.slice (some ⟨b2, o2, none⟩) m cb) ∧ w'.cell? ⟨b1, o1 + b, none⟩ = some (.bool true) ∧ w'.cell? ⟨b2, o2 + a, none⟩ = some (.bool true)) (first | go_keep | (exact ⟨(hbz.cell (p := ⟨bt, ot + a, none⟩) l1).trans k1, (hbz.cell (p := ⟨bt, ot + b, none⟩) l1).trans k2, (hbz.cell (p := ⟨b1, o1 + b, none⟩) l2).trans k3, (hbz.cell (p := ⟨b2, o2 + a, none⟩) l3).trans k4⟩))
                  ((go_at_call 13; refine CV.out.mono ?_; rintro e w5 ⟨rfl, hb5⟩; have hbz := HB.out.trans (hb5.mono HB.out.size)))
                go_wp2_with fail
                go_roundw
                case rel => exact ⟨b + 1, by omega, by go_num, hb.trans (hbz.mono hzr)⟩
                case measure => simp [intOf]; omega
            · obtain rfl : b = a := by omega
              have hph := phase_one HK.out (a := b) (by rw [HL.out]; exact ham)
              have hbw : Below wr.heap.size wr (wr.alloc (.cells #[.int .i64 (b : Int)] 3)) := (Below.refl _ _).alloc (Nat.le_refl _) _
              have hSn := Sl.new wr ILit [(b : Int)] 3 (by simp)
              have cv := validPhase_c _ m c1 t _ 1 1 [(b : Int)] (wr.alloc (.cells #[.int .i64 (b : Int)] 3)) (wr.heap.size + 1) ((hT4.below hbw).more (Nat.le_succ _)) hSn (by simp) (by omega)
              rw [hph] at cv
              have CV := Lib.hid cv
              have HB := Lib.hid hbw
              clear hph hSn cv hbw hT4
              go_wp2_with fail
              refine CV.out.mono ?_
              rintro e w5 ⟨rfl, hb5⟩
              have hbz := HB.out.trans (hb5.mono HB.out.size)
              clear hb5
              go_wp2_with fail
              go_roundw
              case rel => exact ⟨b + 1, by omega, by go_num, hb.trans (hbz.mono hzr)⟩
              case measure => simp [intOf]; omega
        · have cv := validPhase_c _ m c1 t none 0 0 [] wr _ (hT3.below hb) (Sl.nil _ _ _) hzr (by omega)
          rw [phase_nil HK.out] at cv
          have CV := Lib.hid cv
          clear cv
          go_wp2_with fail
          refine CV.out.mono ?_
          rintro e w5 ⟨rfl, hb5⟩
          go_wp2_with fail
          go_ret
          exact ⟨rfl, (hb03.trans (hb.mono (by omega))).trans (hb5.mono (by omega))⟩
end Go.Proofs.Ytpngddcdcpepmaa
