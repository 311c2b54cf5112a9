/- Plans: slices of stages as lists. -/
import Derived.Test.YtckohbjgogbfaaaPd
set_option linter.unusedVariables false
set_option linter.unusedSimpArgs false
namespace Go.Proofs.Ytckohbjgogbfaaa
open Go.RowKit

/-- The slice (A, n, c) of stages (a phase and its green, two cells each) reads as ss. -/
def SlS (w : World) (B : Nat) (A : Option Addr) (n c : Nat) (ss : List (List Int × Int)) : Prop :=
  ss.length = n ∧ n ≤ c ∧ c ≤ 9223372036854775807 ∧
  (0 < n → ∃ b o, A = some ⟨b, o, none⟩ ∧ b < B ∧ ∀ (j : Nat) (s : List Int × Int), ss[j]? = some s → ∃ A' n' c', w.cell? ⟨b, o + j * 2, none⟩ = some (.slice A' n' c') ∧ w.cell? ⟨b, o + j * 2 + 1, none⟩ = some (.int .i64 s.2) ∧ Sl w B ILit A' n' c' s.1)
section
variable {w w' : World} {B B' n c : Nat} {A : Option Addr} {ss : List (List Int × Int)}
theorem SlS.len (h : SlS w B A n c ss) : ss.length = n := h.1
theorem SlS.cap (h : SlS w B A n c ss) : n ≤ c ∧ c ≤ 9223372036854775807 := ⟨h.2.1, h.2.2.1⟩
theorem SlS.at_ (h : SlS w B A n c ss) {k : Nat} (hk : k < n) : ∃ b o ph g A' n' c', A = some ⟨b, o, none⟩ ∧ b < B ∧ ss[k]? = some (ph, g) ∧ w.cell? ⟨b, o + k * 2, none⟩ = some (.slice A' n' c') ∧ w.cell? ⟨b, o + k * 2 + 1, none⟩ = some (.int .i64 g) ∧ Sl w B ILit A' n' c' ph := by
  obtain ⟨h1, _, _, h4⟩ := h
  obtain ⟨b, o, hA, hb, hc⟩ := h4 (by omega)
  have hl : k < ss.length := by omega
  obtain ⟨A', n', c', e1, e2, e3⟩ := hc k _ (List.getElem?_eq_getElem hl)
  exact ⟨b, o, ss[k].1, ss[k].2, A', n', c', hA, hb, List.getElem?_eq_getElem hl, e1, e2, e3⟩
theorem SlS.more (h : SlS w B A n c ss) (hB : B ≤ B') : SlS w B' A n c ss := by
  obtain ⟨h1, h2, h3, h4⟩ := h
  refine ⟨h1, h2, h3, fun hn => ?_⟩
  obtain ⟨b, o, hA, hb, hc⟩ := h4 hn
  refine ⟨b, o, hA, by omega, fun j s hj => ?_⟩
  obtain ⟨A', n', c', e1, e2, e3⟩ := hc j s hj
  exact ⟨A', n', c', e1, e2, e3.more hB⟩
theorem SlS.keep (h : SlS w B A n c ss) (hk : ∀ b o, b < B → w'.cell? ⟨b, o, none⟩ = w.cell? ⟨b, o, none⟩) : SlS w' B A n c ss := by
  obtain ⟨h1, h2, h3, h4⟩ := h
  refine ⟨h1, h2, h3, fun hn => ?_⟩
  obtain ⟨b, o, hA, hb, hc⟩ := h4 hn
  refine ⟨b, o, hA, hb, fun j s hj => ?_⟩
  obtain ⟨A', n', c', e1, e2, e3⟩ := hc j s hj
  exact ⟨A', n', c', (hk _ _ hb).trans e1, (hk _ _ hb).trans e2, e3.keep hk⟩
theorem SlS.below (h : SlS w B A n c ss) (hb : Below B w w') : SlS w' B A n c ss := h.keep fun b i hlt => hb.cell (p := ⟨b, i, none⟩) hlt
theorem SlS.plus (h : SlS w B A n c ss) (hB : B ≤ w.heap.size) (os : Array Obj) (d : Nat) : SlS (plus w os d) B A n c ss := h.keep fun b i hlt => cell?_plus w os d b i (by omega)
theorem SlS.nil (w : World) (B : Nat) : SlS w B none 0 0 ([] : List (List Int × Int)) := ⟨rfl, Nat.le_refl _, by omega, fun h => absurd h (by omega)⟩
theorem SlS.take (h : SlS w B A n c ss) {k : Nat} (hk : k ≤ n) : SlS w B A k c (ss.take k) := by
  obtain ⟨h1, h2, h3, h4⟩ := h
  refine ⟨by rw [List.length_take]; omega, by omega, h3, fun hn => ?_⟩
  obtain ⟨b, o, hA, hb, hc⟩ := h4 (by omega)
  refine ⟨b, o, hA, hb, fun j x hx => hc j x ?_⟩
  rw [List.getElem?_take] at hx
  split at hx
  · exact hx
  · cases hx
end
theorem Sl2.plus {α : Type} {w : World} {B n c : Nat} {f : α → Value} {A : Option Addr} {xss : List (List α)} (h : Sl2 w B f A n c xss) (hB : B ≤ w.heap.size) (os : Array Obj) (d : Nat) : Sl2 (plus w os d) B f A n c xss := h.keep fun b i hlt => cell?_plus w os d b i (by omega)

/-- A valid plan: the table, one to five stages, each with a phase that fits and a green. -/
def stageB (t : List (List Int)) (s : List Int × Int) : Bool := fitsB t s.1 && inB s.2 5 40
def planB (t : List (List Int)) (ss : List (List Int × Int)) : Bool := cOk t && inB ss.length 1 5 && ss.all (stageB t)
theorem planB_table {t : List (List Int)} {ss : List (List Int × Int)} (h : cOk t = false) : planB t ss = false := by simp [planB, h]
theorem planB_len {t : List (List Int)} {ss : List (List Int × Int)} (h : inB ss.length 1 5 = false) : planB t ss = false := by simp [planB, h]
theorem planB_bad {t : List (List Int)} {ss : List (List Int × Int)} {k : Nat} {s : List Int × Int} (hs : ss[k]? = some s) (h : stageB t s = false) : planB t ss = false := by
  have : ss.all (stageB t) = false := by rw [List.all_eq_false]; exact ⟨s, List.mem_of_getElem? hs, by simp [h]⟩
  simp [planB, this]
theorem planB_all {t : List (List Int)} {ss : List (List Int × Int)} (h1 : cOk t = true) (h2 : inB ss.length 1 5 = true) (h3 : ss.all (stageB t) = true) : planB t ss = true := by simp [planB, h1, h2, h3]

set_option maxHeartbeats 4000000 in
theorem sValidPlan_c (At : Option Addr) (m ct : Nat) (t : List (List Int)) (A : Option Addr) (n c : Nat) (ss : List (List Int × Int)) (w : World) (B : Nat) (hT : Sl2 w B ILit At m ct t) (hS : SlS w B A n c ss) (hB : B ≤ w.heap.size) (hpl : ∀ s ∈ ss, s.1.length ≤ 1099511627776) :
    Calls Try.prog 29 #[.agg #[.slice At m ct, .slice A n c]] w fun e w' => e = .returned (.bool (planB t ss)) ∧ Below w.heap.size w w' := by
  obtain ⟨hc0, hc1⟩ := hS.cap
  obtain ⟨W2, hW2⟩ : ∃ W2, w.alloc (.cells #[.slice At m ct, .slice A n c] 26) = W2 := ⟨_, rfl⟩
  have hb0 : Below w.heap.size w W2 := by rw [← hW2]; exact (Below.refl _ _).alloc (Nat.le_refl _) _
  have hh : W2.heap[w.heap.size]? = some (.cells #[.slice At m ct, .slice A n c] 26 (0, 0)) := by rw [← hW2]; exact heap_alloc_new w _
  have k0 : W2.cell? ⟨w.heap.size, 0, none⟩ = some (.slice At m ct) := by rw [cell_of_row _ _ _ _ _ _ hh]; rfl
  have k1 : W2.cell? ⟨w.heap.size, 1, none⟩ = some (.slice A n c) := by rw [cell_of_row _ _ _ _ _ _ hh]; rfl
  have hzl := lt_of_heap hh
  have hln := hS.len
  have hT0 := (hT.more hB).below hb0
  have hS0 := (hS.more hB).below hb0
  have cv := sValidClearance_c At m ct t W2 _ hT0 hb0.size
  cases hok : cOk t
  · have HE := Lib.hid (planB_table (ss := ss) hok)
    rw [hok] at cv
    have CV := Lib.hid cv
    clear cv hok hT hS hT0 hS0 hh hpl
    go_enter Try.func29, Try.ntmps29
    go_wp2_with fail
    clear hW2
    refine CV.out.mono ?_
    rintro e w1 ⟨rfl, hb1⟩
    go_wp2_with fail
    go_ret
    exact ⟨by rw [HE.out]; rfl, hb0.trans (hb1.mono hb0.size)⟩
  · rw [hok] at cv
    have CV := Lib.hid cv
    have HOK := Lib.hid hok
    cases hin5 : inB (n : Int) 1 5
    · have HE : Hid (planB t ss = false) := Lib.hid (planB_len (by rw [hln]; exact hin5))
      have CW := Lib.hid (fun w' => by have := inRange_c (n : Int) 1 5 w'; rw [hin5] at this; exact this)
      clear cv hok hT hS hT0 hS0 hh hpl hin5
      go_enter Try.func29, Try.ntmps29
      go_wp2_with fail
      clear hW2
      refine CV.out.mono ?_
      rintro e w1 ⟨rfl, hb1⟩
      have k11 := (hb1.cell (p := ⟨w.heap.size, 1, none⟩) hzl).trans k1
      go_wp2_with fail
      refine (CW.out w1).mono ?_
      rintro e w2 ⟨rfl, rfl⟩
      go_wp2_with fail
      go_ret
      exact ⟨by rw [HE.out]; rfl, hb0.trans (hb1.mono hb0.size)⟩
    · have CW := Lib.hid (fun w' => by have := inRange_c (n : Int) 1 5 w'; rw [hin5] at this; exact this)
      have HI5 := Lib.hid hin5
      have HPL := Lib.hid hpl
      have HLN := Lib.hid hln
      clear cv hok hT hS hh hpl hin5 hln
      go_enter Try.func29, Try.ntmps29
      go_wp2_with fail
      clear hW2
      refine CV.out.mono ?_
      rintro e w1 ⟨rfl, hb1⟩
      have hz1 := hb1.size
      have k11 := (hb1.cell (p := ⟨w.heap.size, 1, none⟩) hzl).trans k1
      go_wp2_with fail
      refine (CW.out w1).mono ?_
      rintro e w2 ⟨rfl, rfl⟩
      go_wp2_with fail
      go_loopw [3] (fun i wr => ∃ (k : Nat), k ≤ n ∧ i = .int .i64 k ∧ Hid ((ss.take k).all (stageB t) = true) ∧ Below W2.heap.size W2 wr) (fun i _ => n - (intOf i).toNat)
      case atStart => exact ⟨0, by omega, rfl, Lib.hid (by simp), hb1⟩
      case round =>
        clear hb1 hz1 k11
        obtain ⟨k, hk, rfl, hall, hb⟩ := hrel
        have hzr := hb.size
        have k10 := (hb.cell (p := ⟨w.heap.size, 0, none⟩) hzl).trans k0
        have k11 := (hb.cell (p := ⟨w.heap.size, 1, none⟩) hzl).trans k1
        have hbw := hb0.trans (hb.mono hb0.size)
        by_cases hlt : k < n
        · obtain ⟨b, o, ph, g, A1, n1, c1, rfl, hbl, hx, hcell, hcellg, hrow⟩ := (hS0.below (hb.mono hb0.size)).at_ hlt
          have hp1 := HPL.out _ (List.mem_of_getElem? hx)
          have hrl := hrow.len
          simp only at hp1
          rw [hrl] at hp1
          have cf := fun (os : Array Obj) (d : Nat) => fits_c At m ct t A1 n1 c1 ph (plus wr os d) _ (((hT0.below (hb.mono hb0.size)).more (B' := wr.heap.size) hbw.size).plus (Nat.le_refl _) os d) ((hrow.more (B' := wr.heap.size) hbw.size).plus (Nat.le_refl _) os d) (by simp) hp1
          have hts : (ss.take (k + 1)).all (stageB t) = stageB t (ph, g) := by rw [take_snoc hx, List.all_append, hall.out]; simp
          have q1 : b < wr.heap.size := by omega
          have q2 : w.heap.size < wr.heap.size := by omega
          have i0 : (0 : Int) ≤ (k : Int) := by omega
          have i1 : (k : Int) < (n : Int) := by omega
          cases hf : fitsB t ph
          · rw [hf] at cf
            have CF := Lib.hid cf
            have HE := Lib.hid (planB_bad hx (by simp [stageB, hf] : stageB t (ph, g) = false))
            clear cf hx hrow hts hf
            go_wp2_with fail
            refine wp_region_plus (by kernel_rfl) (by kernel_rfl) ?_; (repeat (go_big_quiet_step ((go_at_call 56; with_reducible exact quiet_plus (CF.out _ _))))); refine wpQuiet_nil ?_; intro _ hw'; obtain ⟨⟨osq, dq⟩, hw''⟩ := hw'; subst hw''
            go_wp2_with fail
            go_ret
            exact ⟨by rw [HE.out]; rfl, hbw.trans ((by (repeat' (first | (with_reducible exact Below.refl _ _) | (with_reducible assumption) | (with_reducible refine Below.alloc ?_ ?_ _) | (with_reducible refine below_plus ?_ ?_ _ _) | (with_reducible refine Below.drew ?_) | (with_reducible refine Below.setCell ?_ ?_ _) | (with_reducible refine below_adv ?_ ?_ _) | go_size | (simp; done) | (simp; omega))) : Below wr.heap.size wr _).mono hbw.size)⟩
          · rw [hf] at cf
            have CF := Lib.hid cf
            have cr := fun (os : Array Obj) (d : Nat) => inRange_c g 5 40 (plus wr os d)
            cases hg : inB g 5 40
            · rw [hg] at cr
              have CR := Lib.hid cr
              have HE := Lib.hid (planB_bad hx (by simp [stageB, hf, hg] : stageB t (ph, g) = false))
              clear cf cr hx hrow hts hf hg
              go_wp2_with fail
              refine wp_region_plus (by kernel_rfl) (by kernel_rfl) ?_; (repeat (go_big_quiet_step ((first | (go_at_call 56; with_reducible exact quiet_plus (CF.out _ _)) | (go_at_call 30; exact quiet_same ⟨_, rfl⟩ (CR.out _ _)))))); refine wpQuiet_nil ?_; intro _ hw'; obtain ⟨⟨osq, dq⟩, hw''⟩ := hw'; subst hw''
              go_wp2_with fail
              go_ret
              exact ⟨by rw [HE.out]; rfl, hbw.trans ((by (repeat' (first | (with_reducible exact Below.refl _ _) | (with_reducible assumption) | (with_reducible refine Below.alloc ?_ ?_ _) | (with_reducible refine below_plus ?_ ?_ _ _) | (with_reducible refine Below.drew ?_) | (with_reducible refine Below.setCell ?_ ?_ _) | (with_reducible refine below_adv ?_ ?_ _) | go_size | (simp; done) | (simp; omega))) : Below wr.heap.size wr _).mono hbw.size)⟩
            · rw [hg] at cr
              have CR := Lib.hid cr
              have HE := Lib.hid (hts.trans (show stageB t (ph, g) = true by simp [stageB, hf, hg]))
              have HB := Lib.hid hb
              clear cf cr hx hrow hts hf hg
              go_wp2_with fail
              refine wp_region_plus (by kernel_rfl) (by kernel_rfl) ?_; (repeat (go_big_quiet_step ((first | (go_at_call 56; with_reducible exact quiet_plus (CF.out _ _)) | (go_at_call 30; exact quiet_same ⟨_, rfl⟩ (CR.out _ _)))))); refine wpQuiet_nil ?_; intro _ hw'; obtain ⟨⟨osq, dq⟩, hw''⟩ := hw'; subst hw''
              go_wp2_with fail
              go_roundw
              case rel => exact ⟨k + 1, by omega, by go_num, HE, by have hb := HB.out; (repeat' (first | (with_reducible exact Below.refl _ _) | (with_reducible assumption) | (with_reducible refine Below.alloc ?_ ?_ _) | (with_reducible refine below_plus ?_ ?_ _ _) | (with_reducible refine Below.drew ?_) | (with_reducible refine Below.setCell ?_ ?_ _) | (with_reducible refine below_adv ?_ ?_ _) | go_size | (simp; done) | (simp; omega)))⟩
              case measure => simp [intOf]; omega
        · obtain rfl : k = n := by omega
          have hE := hall.out
          rw [List.take_of_length_le (by rw [HLN.out]; exact Nat.le_refl _)] at hE
          have HE := Lib.hid (planB_all HOK.out (by rw [HLN.out]; exact HI5.out) hE)
          clear hE
          go_wp2_with fail
          go_ret
          exact ⟨by rw [HE.out]; rfl, hbw⟩
end Go.Proofs.Ytckohbjgogbfaaa
