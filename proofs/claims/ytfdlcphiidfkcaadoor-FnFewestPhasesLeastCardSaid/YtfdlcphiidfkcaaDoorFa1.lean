/- Sets as numbers: math/bits.TrailingZeros over its table, movesOf. -/
import Derived.Test.YtfdlcphiidfkcaaDoorFu1
import Derived.Test.YtfdlcphiidfkcaaDoorBb
import Derived.Test.YtfdlcphiidfkcaaDoorPg
import Derived.Shelf.Spec.TrailingZeros
set_option linter.unusedVariables false
set_option linter.unusedSimpArgs false
namespace Go.Proofs.YtfdlcphiidfkcaaDoor
open Go.RowKit

/-- The library's table lies in its variable. -/
def TabB (w : World) : Prop := TabAt 1 Lib.deBruijn64tab w
theorem TabB.keep {w w' : World} (h : TabB w) (hk : w'.heap[(1 : Nat)]? = w.heap[(1 : Nat)]?) : TabB w' := fun j hj => (World.cell?_of_block (a := ⟨1, j, none⟩) hk).trans (h j hj)
theorem TabB.lt {w : World} (h : TabB w) : 1 < w.heap.size := by
  have h0 := h 0 (by decide)
  rcases Nat.lt_or_ge 1 w.heap.size with hl | hl
  · exact hl
  · simp [World.cell?, Array.getElem?_eq_none hl] at h0
theorem TabB.below {w w' : World} (h : TabB w) (hb : Below w.heap.size w w') : TabB w' := h.keep (hb.block _ h.lt)
theorem TabB.from {w w' : World} {lo : Nat} (h : TabB w) (hl : 1 < lo) (hb : Below lo w w') : TabB w' := h.keep (hb.block _ hl)

set_option maxHeartbeats 1000000 in
theorem tz64_c (x : Nat) (hx : x < 18446744073709551616) (hx0 : x ≠ 0) (w : World) (hT : TabB w) :
    Calls Tryd.prog 73 #[.int .u64 x] w fun e w' => e = .returned (.int .i64 (Lib.ctz 64 x)) ∧ w = w' := by
  obtain ⟨hlow, hk⟩ := Lib.lowest_bit 64 x hx0 hx
  obtain ⟨hi, htab⟩ := Lib.deBruijn64_at _ hk
  have hcell := hT _ hi
  rw [htab] at hcell
  have key := tz64_key x _ hx hx0 hlow
  have hxe : ((x : Int) == 0) = false := by simp; omega
  obtain ⟨idx, hidx⟩ : ∃ idx, 2 ^ Lib.ctz 64 x * 285870213051353865 % 18446744073709551616 / 288230376151711744 = idx := ⟨_, rfl⟩
  rw [hidx] at hcell key hi
  obtain ⟨k, hkk⟩ : ∃ k, Lib.ctz 64 x = k := ⟨_, rfl⟩
  rw [hkk] at hcell hk ⊢
  clear hlow htab hidx hkk hT
  go_enter Tryd.func73, Tryd.ntmps73
  go_wp2_with (simp only [key])
  go_ret
  exact ⟨rfl, rfl⟩
theorem tz_c (x : Nat) (hx : x < 18446744073709551616) (hx0 : x ≠ 0) (w : World) (hT : TabB w) :
    Calls Tryd.prog 64 #[.int .u64 x] w fun e w' => e = .returned (.int .i64 (Lib.ctz 64 x)) ∧ w = w' := by
  have C := Lib.hid (tz64_c x hx hx0 w hT)
  have hw : IntKind.u64.wrap (x : Int) = (x : Int) := by rw [IntKind.wrap_u64]; omega
  clear hT
  go_enter Tryd.func64, Tryd.ntmps64
  go_wp2_with fail
  refine C.out.mono ?_
  rintro e w' ⟨rfl, rfl⟩
  go_wp2_with fail
  go_ret
  exact ⟨rfl, rfl⟩

/-- The lowest digit of a small number. -/
theorem bit_low : ∀ s : Nat, s < 256 → s ≠ 0 → Lib.ctz 64 s < 8 ∧ s.testBit (Lib.ctz 64 s) = true ∧ (∀ i : Nat, i < 8 → i < Lib.ctz 64 s → s.testBit i = false) ∧ (∀ i : Nat, i < 8 → (s &&& (s - 1)).testBit i = (s.testBit i && decide (Lib.ctz 64 s < i))) ∧ s &&& (s - 1) < s := by decide +kernel
theorem movesN_gap {m j : Nat} : ∀ {t : Nat}, j ≤ t → (∀ i, j ≤ i → i < t → m.testBit i = false) → movesN t m = movesN j m
  | 0, h, _ => by
    have : j = 0 := by omega
    subst this; rfl
  | t + 1, h, hg => by
    rcases Nat.lt_or_ge t j with hl | hl
    · have : j = t + 1 := by omega
      subst this; rfl
    · rw [movesN_succ, hg t hl (by omega), if_neg (by decide), List.append_nil]
      exact movesN_gap hl fun i h1 h2 => hg i h1 (by omega)

set_option maxHeartbeats 1000000 in
theorem movesOf_c (m n : Nat) (hm : m < 2 ^ n) (hn : n ≤ 8) (w : World) (hT : TabB w) :
    Calls Tryd.prog 41 #[.int .u64 m] w (MaskOf w n m) := by
  have h256 : m < 256 := Nat.lt_of_lt_of_le hm (show 2 ^ n ≤ 2 ^ 8 from Nat.pow_le_pow_right (by omega) hn)
  have HN : Hid (movesN 8 m = movesN n m) := Lib.hid (movesN_gap hn fun i h1 h2 => Nat.testBit_lt_two_pow (Nat.lt_of_lt_of_le hm (Nat.pow_le_pow_right (by omega) h1)))
  have HLL : Hid ((movesN n m).length ≤ n) := Lib.hid (movesN_len n m)
  obtain ⟨i0, hi, hi0, hi1, hi2⟩ := info_parts info_int
  have hmem : ∀ i : Nat, i < 8 → m.testBit i = (m.testBit i && decide (0 ≤ i)) := fun i _ => by simp
  have HM := Lib.hid hmem
  clear hm hmem
  go_enter Tryd.func41, Tryd.ntmps41
  go_wp2_with fail
  go_loopw [0, 3] (fun sv v wr => ∃ (s j k : Nat), s < 256 ∧ j ≤ 8 ∧ sv = .int .u64 s ∧ Hid (∀ i : Nat, i < 8 → s.testBit i = (m.testBit i && decide (j ≤ i))) ∧ wr.ownsRow w.heap.size 3 1 v k ((movesN j m).map ILit) ∧ k ≤ j ∧ Below w.heap.size w wr) (fun sv _ _ => (intOf sv).toNat)
  case atStart => exact ⟨m, 0, 0, h256, by omega, rfl, HM, World.ownsRow_nil _ _ _ _, by omega, Below.refl _ _⟩
  case round =>
    obtain ⟨s, j, k, hs, hj, rfl, hbit, hO, hkj, hb⟩ := hrel
    have hzr := hb.size
    by_cases hs0 : s = 0
    · subst hs0
      have hE : movesN 8 m = movesN j m := movesN_gap hj fun i h1 h2 => by
        have := hbit.out i h2
        rw [Nat.zero_testBit] at this
        simpa [h1] using this.symm
      rw [← hE, HN.out] at hO
      have hlt5 := hO.lt
      obtain ⟨A5, c5, rfl, hW5⟩ := Ow.of_own hO
      have hk5 := HLL.out
      rw [hW5.len] at hk5
      clear hO
      go_wp2_with fail
      go_ret
      exact ⟨A5, k, c5, rfl, hW5, hk5, hlt5, hb⟩
    · obtain ⟨b1, b2, b3, b4, b5⟩ := bit_low s hs hs0
      have C := Lib.hid (tz_c s (by omega) hs0 wr (hT.below hb))
      have hne : ((s : Int) == 0) = false := by simp; omega
      have hs1 : IntKind.u64.wrap ((s : Int) - 1) = ((s - 1 : Nat) : Int) := by rw [IntKind.wrap_u64]; omega
      have hand : bits BinOp.and IntKind.u64 (s : Int) ((s - 1 : Nat) : Int) = ((s &&& (s - 1) : Nat) : Int) := bits_and_u64_nat s (s - 1) (by omega) (by omega)
      obtain ⟨t, ht⟩ : ∃ t, Lib.ctz 64 s = t := ⟨_, rfl⟩
      rw [ht] at b1 b2 b3 b4 C
      obtain ⟨s2, hs2⟩ : ∃ s2, s &&& (s - 1) = s2 := ⟨_, rfl⟩
      rw [hs2] at b4 b5 hand
      have hjt : j ≤ t := by
        have := hbit.out t b1
        rw [b2] at this
        simpa using (Bool.and_eq_true_iff.1 this.symm).2
      have hmt : m.testBit t = true := by
        have := hbit.out t b1
        rw [b2] at this
        exact (Bool.and_eq_true_iff.1 this.symm).1
      have hE : movesN (t + 1) m = movesN j m ++ [(t : Int)] := by
        rw [movesN_succ, hmt, if_pos rfl, movesN_gap hjt fun i h1 h2 => by
          have e1 := hbit.out i (by omega)
          rw [b3 i (by omega) h2] at e1
          simpa [h1] using e1.symm]
      have HE := Lib.hid hE
      have HB2 : Hid (∀ i : Nat, i < 8 → s2.testBit i = (m.testBit i && decide (t + 1 ≤ i))) := Lib.hid fun i hi => by
        rw [b4 i hi, hbit.out i hi]
        by_cases h1 : t < i
        · have h2 : j ≤ i := by omega
          have h3 : t + 1 ≤ i := h1
          simp [h1, h2, h3]
        · have h3 : ¬ t + 1 ≤ i := h1
          simp [h1, h3]
      clear hE b2 b3 b4 hbit hmt hs2 ht
      go_wp2_with fail
      refine C.out.mono ?_
      rintro e wq ⟨rfl, rfl⟩
      go_wp2_with (at_builtin; refine wpList_app1 w wr rfl _ _ 28 rfl 3 i0 (.int .i64 0) 8 Tryd.underlying28 hi hi0 hi1 hi2 rfl (by decide) w.heap.size _ k _ (by rfl) hO _ rfl _ (by rfl) rfl (by omega) hb hzr ?_; intro v8 w8 hO8 hb8 hg8)
      rw [ints_snoc, ← HE.out] at hO8
      go_roundw
      case rel => exact ⟨s2, t + 1, k + 1, by omega, by omega, by first | rfl | (rw [hs1, hand]), HB2, hO8, by omega, hb8⟩
      case measure => simp [intOf]; omega
end Go.Proofs.YtfdlcphiidfkcaaDoor
