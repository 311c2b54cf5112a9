/- The generators DrawValidConflicts, DrawValidPhase and their like. -/
import Derived.Test.YtpngddcdcpepmaaPg1
import Derived.Test.YtpngddcdcpepmaaPg2
set_option linter.unusedVariables false
set_option linter.unusedSimpArgs false
namespace Go.Proofs.Ytpngddcdcpepmaa
open Go.RowKit

def TabDrawn (w : World) (e : Ending) (w' : World) : Prop :=
  ∃ A n c t, e = .returned (.slice A n c) ∧ Sl2 w' w'.heap.size OLit A n c t ∧ n ≤ 8 ∧ Below w.heap.size w w'

theorem drawValidConflicts_c (A : Option Addr) (n c : Nat) (bs : List Int) (w : World) (B : Nat) (hS : Sl w B BLit A n c bs) (hB : B ≤ w.heap.size) (hbs : ∀ x ∈ bs, 0 ≤ x ∧ x ≤ 255) :
    Calls Try.prog 12 #[.slice A n c] w (TabDrawn w) := by
  go_enter Try.func12, Try.ntmps12
  go_wp2_with fail
  refine (newReader_c w A n c _ bs hS hB hbs).mono ?_
  rintro e w1 ⟨r, A1, n1, c1, bs1, rfl, hw1, hR, hr0, hr1⟩
  have hlt := hR.lt
  have hb1 : Below w.heap.size w w1 := by rw [← hw1]; exact (Below.refl _ _).alloc (Nat.le_refl _) _
  have hz1 := hb1.size
  clear hw1
  go_wp2_with fail
  refine (anyTable_c w1 r n1 c1 0 A1 bs1 hR (by omega)).mono ?_
  rintro e w2 ⟨A2, n2, c2, q, t, rfl, hK2, hn2, -, hb2⟩
  have hT2 := hK2.here
  clear hK2
  go_wp2_with fail
  go_ret
  exact ⟨_, _, _, _, rfl, hT2, hn2, (below_adv hb1 hr0 q).trans (hb2.mono hz1)⟩
def PhaseDrawn (w : World) (e : Ending) (w' : World) : Prop :=
  ∃ A n c t A2 n2 c2 ph, e = .returned (.tuple #[.slice A n c, .slice A2 n2 c2]) ∧ Sl2 w' w'.heap.size OLit A n c t ∧ Sl w' w'.heap.size ILit A2 n2 c2 ph ∧ n ≤ 8 ∧ n2 ≤ 10 ∧ Below w.heap.size w w'

set_option maxHeartbeats 4000000 in
theorem drawValidPhase_c (A : Option Addr) (n c : Nat) (bs : List Int) (w : World) (B : Nat) (hS : Sl w B BLit A n c bs) (hB : B ≤ w.heap.size) (hbs : ∀ x ∈ bs, 0 ≤ x ∧ x ≤ 255) :
    Calls Try.prog 17 #[.slice A n c] w (PhaseDrawn w) := by
  go_enter Try.func17, Try.ntmps17
  go_wp2_with fail
  refine (newReader_c w A n c _ bs hS hB hbs).mono ?_
  rintro e w1 ⟨r, A1, n1, c1, bs1, rfl, hw1, hR, hr0, hr1⟩
  have hlt := hR.lt
  have hb1 : Below w.heap.size w w1 := by rw [← hw1]; exact (Below.refl _ _).alloc (Nat.le_refl _) _
  have hz1 := hb1.size
  clear hw1
  go_wp2_with fail
  refine (anyTable_c w1 r n1 c1 0 A1 bs1 hR (by omega)).mono ?_
  rintro e w2 ⟨A2, n2, c2, q, t, rfl, hK2, hn2, hq, hb2⟩
  have hz2 : w1.heap.size ≤ w2.heap.size := by have := hb2.size; rw [size_adv] at this; exact this
  have HK := Lib.hid hK2
  have HB2 := Lib.hid hb2
  clear hK2 hb2 hS hbs
  go_wp2_with fail
  have hP1 : 1 ≤ 2 ^ n2 := Nat.one_le_two_pow
  have hP2 : 2 ^ n2 ≤ 2 ^ 8 := Nat.pow_le_pow_right (by omega) hn2
  have hpw : (2 : Int) ^ n2 = ((2 ^ n2 : Nat) : Int) := by simp
  obtain ⟨P, hP⟩ : ∃ P, 2 ^ n2 = P := ⟨_, rfl⟩
  rw [hP] at hP1 hP2 hpw
  have hpw2 : IntKind.i64.wrap ((P : Nat) : Int) = P := IntWalk.i64_in _ (by omega)
  have hp0 : ((P : Int) == 0) = false := by simp; omega
  have hp1 : ¬ P = 0 := by omega
  clear hP
  go_region_held3 (fun w' => True) (trivial)
    (first | (go_at_call 29; refine (pick_g w1 _ r n1 c1 0 q A1 bs1 256 hR HB2.out.drew (by omega)).mono ?_; rintro e w3 ⟨k, ⟨hk0, hk1, -⟩, rfl, hb3, hg3⟩; have hk2 := hk1 (by decide); obtain ⟨k, rfl⟩ := Int.eq_ofNat_of_zero_le hk0; have hrm : ((k : Int)).tmod (P : Int) = ((k % P : Nat) : Int) := rfl; have hkl := Nat.mod_lt k (show 0 < P by omega); obtain ⟨k', hk'⟩ : ∃ k', k % P = k' := ⟨_, rfl⟩; rw [hk'] at hrm hkl; have hkw : IntKind.i64.wrap ((k' : Nat) : Int) = k' := IntWalk.i64_in _ (by omega); clear hk'; have hz3 : w1.heap.size ≤ w3.heap.size := (by have := hb3.size; rw [size_adv] at this; exact this)) | (go_at_call 28; refine (inMask_c k' n2 _ (by omega) (by omega)).mono ?_; rintro e w4 ⟨A4, k4, c4, rfl, hW4, hk4, -, hb4⟩; have hz4 := hb4.size; have hb14 := hb3.trans (hb4.mono (by omega)); have hR4 := (hR.adv (q + 1)).below hb14 hlt) | (go_at_call 27; refine (spoil_c _ r n1 c1 (q + 1) A1 bs1 hR4 (by omega) A4 k4 c4 _ _ 8 hW4.sl (Nat.le_refl _) (by omega)).mono ?_; rintro e w5 ⟨A5, n5, c5, q5, ys, rfl, hS5, hn5, hq5, hb5, -⟩))
  have hz3' : w2.heap.size ≤ w3.heap.size := by have := hg3.size; rw [size_adv] at this; exact this
  have hz5 : w4.heap.size ≤ w5.heap.size := by have := hb5.size; rw [size_adv] at this; exact this
  have hK5 : Sl2 w5 w5.heap.size OLit A2 n2 c2 t := (HK.out w5 fun b h1 h2 => by
    have hbr : b ≠ r := by omega
    have e1 := (hb5.block b (by omega)).trans (heap_adv w4 r q5 b hbr)
    have e2 := hb4.block b (by omega)
    have e3 : w3.heap[b]? = w2.heap[b]? := (hg3.block b h2).trans (heap_adv _ r (q + 1) b hbr)
    exact e1.trans (e2.trans e3)).more (by omega)
  have hb05 : Below w.heap.size w w5 := (below_adv hb1 hr0 q5).trans (((below_adv2 hb14 q5).trans (hb5.mono (by omega))).mono (by omega))
  clear hW4 hb14 hR4 hb5 hb4 hb3 hg3 HB2
  go_wp2_with fail
  go_ret2
  exact ⟨_, _, _, _, _, _, _, _, rfl, hK5, hS5, hn2, by omega, hb05⟩
end Go.Proofs.Ytpngddcdcpepmaa
