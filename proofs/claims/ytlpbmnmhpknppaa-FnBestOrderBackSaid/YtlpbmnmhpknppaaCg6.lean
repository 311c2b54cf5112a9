/- The generators anyRing, DrawLostTime, DrawBestOrder. -/
import Derived.Test.YtlpbmnmhpknppaaPg
import Derived.Test.YtlpbmnmhpknppaaBc
set_option linter.unusedVariables false
set_option linter.unusedSimpArgs false
namespace Go.Proofs.Ytlpbmnmhpknppaa
open Go.RowKit

def RingOf (w : World) (r p : Nat) (e : Ending) (w' : World) : Prop :=
  ∃ A n c q list, e = .returned (.slice A n c) ∧ Sl2 w' w'.heap.size ILit A n c list ∧ n ≤ 6 ∧ (∀ p ∈ list, p.length ≤ 9) ∧ q ≤ p + 200 ∧ Below w.heap.size (adv w r q) w'

set_option maxHeartbeats 4000000 in
theorem anyRing_c (w : World) (r n c p lo : Nat) (A : Option Addr) (bs : List Int) (hR : Rd w r A n c bs p) (hp : p ≤ 200000) (At : Option Addr) (m ct : Nat) (t : List (List Int)) (hK : Kept2 w lo ILit At m ct t) (hlo : r < lo) :
    Calls Try.prog 64 #[.pointer (some ⟨r, 0, none⟩), .slice At m ct] w (RingOf w r p) := by
  have hlt := hR.lt
  obtain ⟨i0, hi, hi0, hi1, hi2⟩ := info_parts info_rowI
  have HK := Lib.hid (fun (q : Nat) (wr : World) (hb : Below w.heap.size (adv w r q) wr) => (hK wr (fun b h1 h2 => (hb.block b h2).trans (heap_adv _ _ _ _ (by omega)))))
  clear hK
  go_enter Try.func64, Try.ntmps64
  go_wp2_with fail
  refine (one_lit_c _ r n c (p) A bs _ _ _ _ [3, 2, 4, 1, 5, 0, 6] (by rfl) (by rfl) (by decide) (by decide) (by (repeat' (first | (with_reducible exact hR) | (with_reducible exact RdX.of hR) | (with_reducible refine Rd.alloc ?_ _) | (with_reducible refine Rd.plus ?_ _ _) | (with_reducible refine Rd.drew ?_) | (with_reducible refine RdX.to ?_ _) | (with_reducible refine RdX.alloc ?_ _) | (with_reducible refine RdX.plus ?_ _ _) | (with_reducible refine RdX.adv ?_ _)))) (by omega) (by first | rfl | (simp; done) | (simp; omega))).mono ?_; rintro e w1 ⟨x1, hx1, rfl, os1, d1, rfl⟩
  have hx : 0 ≤ x1 ∧ x1 ≤ 6 := by simp at hx1; omega
  clear hx1
  obtain ⟨hx0, hx6⟩ := hx
  obtain ⟨x, rfl⟩ := Int.eq_ofNat_of_zero_le hx0
  obtain ⟨w1, hw1⟩ : ∃ w1, plus (adv ((w.alloc (.cells #[] 35)).alloc (.cells #[.int .i64 3, .int .i64 2, .int .i64 4, .int .i64 1, .int .i64 5, .int .i64 0, .int .i64 6] 3)) r (p + 1)) os1 d1 = w1 := ⟨_, rfl⟩
  have hb1 : Below w.heap.size (adv w r (p + 1)) w1 := by
    rw [← hw1, adv_alloc _ _ _ _ (by simp; omega), adv_alloc _ _ _ _ hlt]
    (repeat' (first | (with_reducible exact Below.refl _ _) | (with_reducible assumption) | (with_reducible refine Below.alloc ?_ ?_ _) | (with_reducible refine below_plus ?_ ?_ _ _) | (with_reducible refine Below.drew ?_) | (with_reducible refine Below.setCell ?_ ?_ _) | (with_reducible refine below_adv ?_ ?_ _) | go_size | (simp; done) | (simp; omega)))
  have hown : w1.ownsRow w.heap.size 35 1 (.slice (some ⟨w.heap.size, 0, none⟩) 0 0) 0 [] := by
    rw [← hw1, adv_alloc _ _ _ _ (by simp; omega), adv_alloc _ _ _ _ hlt]
    refine own_below (w := (adv w r (p + 1)).alloc (.cells #[] 35)) ?_ (by (repeat' (first | (with_reducible exact Below.refl _ _) | (with_reducible assumption) | (with_reducible refine Below.alloc ?_ ?_ _) | (with_reducible refine below_plus ?_ ?_ _ _) | (with_reducible refine Below.drew ?_) | (with_reducible refine Below.setCell ?_ ?_ _) | (with_reducible refine below_adv ?_ ?_ _) | go_size | (simp; done) | (simp; omega))))
    exact own_empty (by rw [← size_adv w r (p + 1)]; exact heap_alloc_new _ _) (Nat.le_refl _)
  rw [hw1]
  clear hw1
  have hM1 : Mix w1 w.heap.size 35 ILit (.slice (some ⟨w.heap.size, 0, none⟩) 0 0) 0 ([] : List (List Int)) := Mix.nil hown
  clear hown
  go_wp2_with fail
  go_loopw [5, 6] (fun v i wr => ∃ (k q : Nat) (list : List (List Int)), k ≤ x ∧ i = .int .i64 ((x - k : Nat) : Int) ∧ q ≤ p + 1 + 15 * k ∧ Mix wr w.heap.size 35 ILit v k list ∧ Hid (∀ p ∈ list, p.length ≤ 9) ∧ Below w.heap.size (adv w r q) wr) (fun _ i _ => (intOf i).toNat)
  case atStart => exact ⟨0, p + 1, [], by omega, by simp, by omega, hM1, Lib.hid (by simp), hb1⟩
  case round =>
    clear hM1 hb1
    obtain ⟨k, q, list, hk, rfl, hq, hM, hPL, hb⟩ := hrel
    have hzr := hb.size
    rw [size_adv] at hzr
    by_cases hlt2 : k < x
    · obtain ⟨y, hy⟩ : ∃ y, x - k = y + 1 := ⟨x - k - 1, by omega⟩
      have hy2 : x - (k + 1) = y := by omega
      have HY2 := Lib.hid hy2
      have hy6 : y ≤ 6 := by omega
      rw [hy]
      clear hy hy2
      have hRr := (hR.adv q).below hb hlt
      have hTr := HK.out q wr hb
      have cv := sValidClearance_c At m ct t wr _ (hTr.more hzr) (Nat.le_refl _)
      -- the arm behind: a phase appended
      cases hok : cOk t
      · rw [hok] at cv
        have CV := Lib.hid cv
        clear cv hok hTr hRr
        go_wp2_with fail
        refine CV.out.mono ?_
        rintro e w2 ⟨rfl, hb2⟩
        have hz2 := hb2.size
        have hb02 := hb.trans (hb2.mono hzr)
        have hM2 := hM.below hb2
        have C3 := Lib.hid (anyPhase_c w2 r n c q A bs ((hR.adv q).below hb02 hlt) (by omega) At m ct t _ (HK.out q w2 hb02) (by omega))
        clear hM hb hb2 CV
        go_wp2_with fail
        refine C3.out.mono ?_
        rintro e w3 ⟨A3, n3, c3, q3, xs, rfl, hS3, hn3, hq3, hb3, hf3⟩
        have hz3 := hb3.size
        rw [size_adv] at hz3
        have hM3 := hM2.go (by omega) hb3
        have hb03 := (below_adv2 hb02 q3).trans (hb3.mono (by omega))
        obtain ⟨vs, hv1, hv2⟩ := hM3
        have HF := Lib.hid (hM2.fresh hf3 (by omega))
        clear hb3 hf3 hb02 C3
        go_wp2_with (at_builtin; refine wpList_app1_at (adv w r q3) w3 rfl _ _ 22 rfl 35 i0 (.slice none 0 0) 24 Try.underlying22 hi hi0 hi1 hi2 rfl (by decide) w.heap.size _ k _ (by rfl) hv1 _ rfl _ (by rfl) rfl (by omega) hb03 (by omega) ?_; intro v8 w8 hO8 hb8 hg8 hv8)
        have hM8 := Mix.app hv1 hv2 hS3 HF.out hO8 hg8 hv8
        have hP8 : Hid (∀ p ∈ list ++ [xs], p.length ≤ 9) := Lib.hid fun p hp => by
          rcases List.mem_append.1 hp with hp | hp
          · exact hPL.out p hp
          · simp at hp; subst hp; rw [hS3.len]; exact hn3
        clear hv1 hv2 hS3 hO8 hg8 hv8
        go_roundw
        case rel => exact ⟨k + 1, q3, _, by omega, by rw [HY2.out], by omega, hM8, hP8, hb8⟩
        case measure => simp [intOf]
      · rw [hok] at cv
        have CV := Lib.hid cv
        have HOK := Lib.hid hok
        clear cv hok hTr hRr
        go_wp2_with fail
        refine CV.out.mono ?_
        rintro e w2 ⟨rfl, hb2⟩
        have hz2 := hb2.size
        have hb02 := hb.trans (hb2.mono hzr)
        have hM2 := hM.below hb2
        clear hM hb hb2 CV
        go_wp2_with fail
        refine (pick_g w w2 r n c p q A bs _ hR hb02 (by omega)).mono ?_
        rintro e w4 ⟨k4, ⟨hk40, hk41, -⟩, rfl, hb4, hg4⟩
        have hz4 := hg4.size
        rw [size_adv] at hz4
        have hM4 := hM2.go (by omega) hg4
        clear hM2 hg4 hb02 hk41
        by_cases hk4 : 0 < k4
        · have C3 := Lib.hid (randomPhase_c w4 r n c (q + 1) A bs ((hR.adv (q + 1)).below hb4 hlt) (by omega) At m ct t _ (HK.out (q + 1) w4 hb4) (by omega) HOK.out)
          go_wp2_with fail
          refine C3.out.mono ?_
          rintro e w3 ⟨A3, n3, c3, q3, xs, rfl, hS3, hn3, hq3, hb3, hf3⟩
          have hz3 := hb3.size
          rw [size_adv] at hz3
          have hM3 := hM4.go (by omega) hb3
          have hb03 := (below_adv2 hb4 q3).trans (hb3.mono (by omega))
          obtain ⟨vs, hv1, hv2⟩ := hM3
          have HF := Lib.hid (hM4.fresh hf3 (by omega))
          clear hb3 hf3 hb4 C3
          go_wp2_with (at_builtin; refine wpList_app1_at (adv w r q3) w3 rfl _ _ 22 rfl 35 i0 (.slice none 0 0) 24 Try.underlying22 hi hi0 hi1 hi2 rfl (by decide) w.heap.size _ k _ (by rfl) hv1 _ rfl _ (by rfl) rfl (by omega) hb03 (by omega) ?_; intro v8 w8 hO8 hb8 hg8 hv8)
          have hM8 := Mix.app hv1 hv2 hS3 HF.out hO8 hg8 hv8
          have hP8 : Hid (∀ p ∈ list ++ [xs], p.length ≤ 9) := Lib.hid fun p hp => by
            rcases List.mem_append.1 hp with hp | hp
            · exact hPL.out p hp
            · simp at hp; subst hp; rw [hS3.len]; omega
          clear hv1 hv2 hS3 hO8 hg8 hv8
          go_roundw
          case rel => exact ⟨k + 1, q3, _, by omega, by rw [HY2.out], by omega, hM8, hP8, hb8⟩
          case measure => simp [intOf]
        · have C3 := Lib.hid (anyPhase_c w4 r n c (q + 1) A bs ((hR.adv (q + 1)).below hb4 hlt) (by omega) At m ct t _ (HK.out (q + 1) w4 hb4) (by omega))
          go_wp2_with fail
          refine C3.out.mono ?_
          rintro e w3 ⟨A3, n3, c3, q3, xs, rfl, hS3, hn3, hq3, hb3, hf3⟩
          have hz3 := hb3.size
          rw [size_adv] at hz3
          have hM3 := hM4.go (by omega) hb3
          have hb03 := (below_adv2 hb4 q3).trans (hb3.mono (by omega))
          obtain ⟨vs, hv1, hv2⟩ := hM3
          have HF := Lib.hid (hM4.fresh hf3 (by omega))
          clear hb3 hf3 hb4 C3
          go_wp2_with (at_builtin; refine wpList_app1_at (adv w r q3) w3 rfl _ _ 22 rfl 35 i0 (.slice none 0 0) 24 Try.underlying22 hi hi0 hi1 hi2 rfl (by decide) w.heap.size _ k _ (by rfl) hv1 _ rfl _ (by rfl) rfl (by omega) hb03 (by omega) ?_; intro v8 w8 hO8 hb8 hg8 hv8)
          have hM8 := Mix.app hv1 hv2 hS3 HF.out hO8 hg8 hv8
          have hP8 : Hid (∀ p ∈ list ++ [xs], p.length ≤ 9) := Lib.hid fun p hp => by
            rcases List.mem_append.1 hp with hp | hp
            · exact hPL.out p hp
            · simp at hp; subst hp; rw [hS3.len]; omega
          clear hv1 hv2 hS3 hO8 hg8 hv8
          go_roundw
          case rel => exact ⟨k + 1, q3, _, by omega, by rw [HY2.out], by omega, hM8, hP8, hb8⟩
          case measure => simp [intOf]
    · obtain rfl : k = x := by omega
      obtain ⟨A5, c5, rfl, hS5⟩ := hM.sl2
      clear hM
      have hkk : k - k = 0 := by omega
      rw [hkk]
      clear hkk
      go_wp2_with fail
      go_ret
      exact ⟨A5, k, c5, q, _, rfl, hS5, by omega, hPL.out, by omega, hb⟩
def LostDrawn (w : World) (e : Ending) (w' : World) : Prop :=
  ∃ A n c t A2 n2 c2 list, e = .returned (.tuple #[.slice A n c, .slice A2 n2 c2]) ∧ Sl2 w' w'.heap.size ILit A n c t ∧ Sl2 w' w'.heap.size ILit A2 n2 c2 list ∧ n ≤ 8 ∧ n2 ≤ 6 ∧ (∀ p ∈ list, p.length ≤ 9) ∧ Below w.heap.size w w'

set_option maxHeartbeats 4000000 in
theorem drawLostTime_c (A : Option Addr) (n c : Nat) (bs : List Int) (w : World) (B : Nat) (hS : Sl w B BLit A n c bs) (hB : B ≤ w.heap.size) (hbs : ∀ x ∈ bs, 0 ≤ x ∧ x ≤ 255) :
    Calls Try.prog 39 #[.slice A n c] w (LostDrawn w) := by
  go_enter Try.func39, Try.ntmps39
  go_wp2_with fail
  refine (newReader_c w A n c _ bs hS hB hbs).mono ?_
  rintro e w1 ⟨r, A1, n1, c1, bs1, rfl, hw1, hR, hr0, hr1⟩
  have hlt := hR.lt
  have hb1 : Below w.heap.size w w1 := by rw [← hw1]; exact (Below.refl _ _).alloc (Nat.le_refl _) _
  have hz1 := hb1.size
  clear hw1 hS hbs
  go_wp2_with fail
  refine (anyClear_c w1 r n1 c1 0 A1 bs1 hR (by omega)).mono ?_
  rintro e w2 ⟨A2, n2, c2, q2, t, rfl, hK2, hn2, hq2, hb2⟩
  have hz2 := hb2.size
  rw [size_adv] at hz2
  have hR2 := (hR.adv q2).below hb2 hlt
  have HK := Lib.hid hK2
  have C3 := Lib.hid (anyRing_c w2 r n1 c1 q2 _ A1 bs1 hR2 (by omega) A2 n2 c2 t hK2 (by omega))
  clear hK2
  go_wp2_with fail
  refine C3.out.mono ?_
  rintro e w3 ⟨A3, n3, c3, q3, list, rfl, hS3, hn3, hpl, hq3, hb3⟩
  have hz3 := hb3.size
  rw [size_adv] at hz3
  have hT3 : Sl2 w3 w3.heap.size ILit A2 n2 c2 t := (HK.out w3 fun b h1 h2 => (hb3.block b h2).trans (heap_adv _ _ _ _ (by omega))).more (by omega)
  have hb13 := (below_adv2 hb2 q3).trans (hb3.mono hz2)
  have hb03 : Below w.heap.size w w3 := (below_adv hb1 hr0 q3).trans (hb13.mono hz1)
  have HPL := Lib.hid hpl
  clear hb3 hb13 hb2 C3 hpl
  go_wp2_with fail
  go_ret2
  exact ⟨_, _, _, _, _, _, _, _, rfl, hT3, hS3, hn2, hn3, HPL.out, hb03⟩
theorem drawBestOrder_c (A : Option Addr) (n c : Nat) (bs : List Int) (w : World) (B : Nat) (hS : Sl w B BLit A n c bs) (hB : B ≤ w.heap.size) (hbs : ∀ x ∈ bs, 0 ≤ x ∧ x ≤ 255) :
    Calls Try.prog 44 #[.slice A n c] w (LostDrawn w) := by
  have C1 := Lib.hid (drawLostTime_c A n c bs w B hS hB hbs)
  clear hS hbs
  go_enter Try.func44, Try.ntmps44
  go_wp2_with fail
  refine C1.out.mono ?_
  rintro e w1 ⟨A1, n1, c1, t, A2, n2, c2, list, rfl, hT, hL, hn1, hn2, hpl, hb⟩
  have HPL := Lib.hid hpl
  clear hpl
  go_wp2_with fail
  go_ret2
  exact ⟨_, _, _, _, _, _, _, _, rfl, hT, hL, hn1, hn2, HPL.out, hb⟩
end Go.Proofs.Ytlpbmnmhpknppaa
