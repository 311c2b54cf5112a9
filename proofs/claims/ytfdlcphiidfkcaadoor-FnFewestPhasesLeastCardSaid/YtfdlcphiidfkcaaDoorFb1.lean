/- The reference's isFull and lessInts, walked. -/
import Derived.Test.YtfdlcphiidfkcaaDoorFu1
import Derived.Test.YtfdlcphiidfkcaaDoorBb
import Derived.Test.YtfdlcphiidfkcaaDoorPp
import Derived.Test.YtfdlcphiidfkcaaDoorBc
set_option linter.unusedVariables false
set_option linter.unusedSimpArgs false
namespace Go.Proofs.YtfdlcphiidfkcaaDoor
open Go.RowKit

/-- No movement can be added. -/
def stuckB (t : List (List Bool)) (ph : List Int) (n : Nat) : Bool := (List.range n).all fun m => decide ((m : Int) ∈ ph) || ph.any fun k => tAt t m k.toNat
theorem fullB_parts (t : List (List Bool)) (ph : List Int) : fullB t ph = (clearB t ph && stuckB t ph t.length) := rfl
theorem stuckB_succ (t : List (List Bool)) (ph : List Int) (n : Nat) : stuckB t ph (n + 1) = (stuckB t ph n && (decide ((n : Int) ∈ ph) || ph.any fun k => tAt t n k.toNat)) := by
  simp [stuckB, List.range_succ, List.all_append]
theorem stuckB_le {t : List (List Bool)} {ph : List Int} {k n : Nat} (hk : k ≤ n) (h : stuckB t ph k = false) : stuckB t ph n = false := by
  induction n with
  | zero => have : k = 0 := by omega
            subst this; exact h
  | succ n ih =>
    rcases Nat.lt_or_ge n k with hl | hl
    · have : k = n + 1 := by omega
      subst this; exact h
    · rw [stuckB_succ, ih hl]; rfl
theorem clearB_snoc {t : List (List Bool)} {ph : List Int} (h : clearB t ph = true) (m : Nat) : clearB t (ph ++ [(m : Int)]) = !(ph.any fun k => tAt t m k.toNat) := by
  rw [clearB, decide_eq_true_eq] at h
  rw [clearB, Bool.eq_iff_iff, decide_eq_true_eq, List.pairwise_append]
  simp only [Bool.not_eq_true', List.any_eq_false, List.mem_singleton, forall_eq, Int.toNat_natCast]
  constructor
  · rintro ⟨-, -, h3⟩ x hx
    rw [h3 x hx]; simp
  · intro h3
    refine ⟨h, List.pairwise_singleton _ _, fun x hx => ?_⟩
    have := h3 x hx
    simpa using this

set_option maxRecDepth 2000 in
set_option maxHeartbeats 2000000 in
theorem isFull_c (At : Option Addr) (m ct : Nat) (t : List (List Bool)) (A : Option Addr) (n c : Nat) (ph : List Int) (w : World) (B : Nat) (hT : Sl2 w B OLit At m ct t) (hS : Sl w B ILit A n c ph) (hB : B ≤ w.heap.size) (hsq : sqB t = true) (hin : ∀ x ∈ ph, 0 ≤ x ∧ x < m) (hm : m ≤ 8) (hn : n ≤ 1048576) (hcl : clearB t ph = true) :
    Calls Tryd.prog 61 #[.slice At m ct, .slice A n c] w fun e w' => e = .returned (.bool (stuckB t ph m)) ∧ Below w.heap.size w w' := by
  obtain ⟨i0, hi, hi0, hi1, hi2⟩ := info_parts info_int
  obtain ⟨hc0, hc1⟩ := hT.cap
  obtain ⟨hd0, hd1⟩ := hS.cap
  have HT := Lib.hid (hT.more hB)
  have HS := Lib.hid (hS.more hB)
  have HSQ := Lib.hid hsq
  have HIN := Lib.hid hin
  have HCL := Lib.hid hcl
  have hln := hS.len
  clear hT hS hsq hin hcl
  go_enter Tryd.func61, Tryd.ntmps61
  go_wp2_with fail
  go_loopw [5] (fun i wr => ∃ (k : Nat), k ≤ m ∧ i = .int .i64 k ∧ Hid (stuckB t ph k = true) ∧ Below w.heap.size w wr) (fun i _ => m - (intOf i).toNat)
  case atStart => exact ⟨0, by omega, rfl, Lib.hid rfl, Below.refl _ _⟩
  case round =>
    obtain ⟨k, hk, rfl, hst, hb⟩ := hrel
    have hzr := hb.size
    by_cases hlt : k < m
    · have ci := isIn_c A n c ph k wr _ (HS.out.below hb) hzr (by omega)
      have hsu := stuckB_succ t ph k
      rw [hst.out, Bool.true_and] at hsu
      have HB := Lib.hid hb
      cases hu : decide ((k : Int) ∈ ph)
      · rw [hu] at ci
        rw [hu, Bool.false_or] at hsu
        have hcs := clearB_snoc HCL.out k
        obtain ⟨z, hz⟩ : ∃ z, (ph.any fun x => tAt t k x.toNat) = z := ⟨_, rfl⟩
        rw [hz] at hsu hcs
        have CI := Lib.hid ci
        have HSU := Lib.hid hsu
        have HCS := Lib.hid hcs
        clear ci hsu hcs hz hu hb hst
        go_wp2_with fail
        refine CI.out.mono ?_
        rintro e wa ⟨rfl, hba⟩
        have hbb := HB.out.trans (hba.mono hzr)
        have hza := hbb.size
        have CO := Lib.hid (copyInts_c A n c ph wa _ (HS.out.below hbb) hza (by omega))
        have HBB := Lib.hid hbb
        clear hbb hba CI
        go_wp2_with fail
        refine CO.out.mono ?_
        rintro e wb ⟨v, rfl, hO, hbo⟩
        have hzb := hbo.size
        go_wp2_with (at_builtin; refine wpList_unguard (by rfl) ?_; refine wpList_app1 wa wb rfl _ _ 28 rfl 3 i0 (.int .i64 0) 8 Tryd.underlying28 hi hi0 hi1 hi2 rfl (by decide) wa.heap.size _ n _ (by rfl) hO _ rfl _ (by rfl) rfl (by omega) hbo hzb ?_; intro v8 w8 hO8 hb8 hg8)
        rw [ints_snoc] at hO8
        obtain ⟨A8, c8, rfl, hW8⟩ := Ow.of_own hO8
        have hb08 := HBB.out.trans (hb8.mono hza)
        have cc := clear_c At m ct t A8 (n + 1) c8 (ph ++ [(k : Int)]) w8 _ ((HT.out.below hb08).more hb08.size) hW8.sl (Nat.le_refl _) HSQ.out (fun x hx => by
          rcases List.mem_append.1 hx with h | h
          · exact HIN.out x h
          · simp at h; omega) (by omega)
        rw [HCS.out] at cc
        have HB8 := Lib.hid hb08
        cases z
        · have CC := Lib.hid cc
          have HE : Hid (stuckB t ph m = false) := Lib.hid (stuckB_le (k := k + 1) hlt HSU.out)
          clear cc hO hbo hO8 hb8 hg8 hW8 hb08 CO
          go_wp2_with fail
          refine CC.out.mono ?_
          rintro e wc ⟨rfl, hbc⟩
          go_wp2_with fail
          go_ret
          exact ⟨by rw [HE.out]; rfl, HB8.out.trans (hbc.mono HB8.out.size)⟩
        · have CC := Lib.hid cc
          clear cc hO hbo hO8 hb8 hg8 hW8 hb08 CO
          go_wp2_with fail
          refine CC.out.mono ?_
          rintro e wc ⟨rfl, hbc⟩
          have hbn := HB8.out.trans (hbc.mono HB8.out.size)
          go_wp2_with fail
          go_roundw
          case rel => exact ⟨k + 1, by omega, by go_num, HSU, hbn⟩
          case measure => simp [intOf]; omega
      · rw [hu] at ci
        rw [hu, Bool.true_or] at hsu
        have CI := Lib.hid ci
        have HSU := Lib.hid hsu
        clear ci hsu hu hb hst
        go_wp2_with fail
        refine CI.out.mono ?_
        rintro e wa ⟨rfl, hba⟩
        have hbb := HB.out.trans (hba.mono hzr)
        go_wp2_with fail
        go_roundw
        case rel => exact ⟨k + 1, by omega, by go_num, HSU, hbb⟩
        case measure => simp [intOf]; omega
    · obtain rfl : k = m := by omega
      go_wp2_with fail
      go_ret
      exact ⟨by rw [hst.out]; rfl, hb⟩

theorem lessL_drop : ∀ {k : Nat} {xs ys : List Int}, xs.take k = ys.take k → k ≤ xs.length → k ≤ ys.length → lessL xs ys = lessL (xs.drop k) (ys.drop k)
  | 0, xs, ys, _, _, _ => rfl
  | k + 1, [], ys, _, h, _ => by simp at h
  | k + 1, x :: r, [], _, _, h => by simp at h
  | k + 1, x :: r, y :: s, h, h1, h2 => by
    simp only [List.take_succ_cons, List.cons.injEq] at h
    obtain ⟨rfl, h⟩ := h
    rw [lessL, if_pos rfl, List.drop_succ_cons, List.drop_succ_cons]
    exact lessL_drop h (by simpa using h1) (by simpa using h2)
theorem lessL_at {k : Nat} {xs ys : List Int} {x y : Int} (h : xs.take k = ys.take k) (hx : xs[k]? = some x) (hy : ys[k]? = some y) (hne : x ≠ y) : lessL xs ys = decide (x < y) := by
  obtain ⟨l1, e1⟩ := List.getElem?_eq_some_iff.1 hx
  obtain ⟨l2, e2⟩ := List.getElem?_eq_some_iff.1 hy
  rw [lessL_drop h (by omega) (by omega), List.drop_eq_getElem_cons l1, List.drop_eq_getElem_cons l2, e1, e2, lessL, if_neg hne]
theorem lessL_end {k : Nat} {xs ys : List Int} (h : xs.take k = ys.take k) (h1 : k ≤ xs.length) (h2 : k ≤ ys.length) (hk : k = xs.length ∨ k = ys.length) : lessL xs ys = decide (xs.length < ys.length) := by
  rw [lessL_drop h h1 h2]
  rcases hk with rfl | rfl
  · rw [List.drop_length]
    rcases Nat.lt_or_ge xs.length ys.length with hl | hl
    · rw [List.drop_eq_getElem_cons hl, decide_eq_true hl]; rfl
    · rw [List.drop_of_length_le hl, decide_eq_false (by omega)]; rfl
  · rw [List.drop_length, decide_eq_false (by omega)]
    rcases Nat.lt_or_ge ys.length xs.length with hl | hl
    · rw [List.drop_eq_getElem_cons hl]; rfl
    · rw [List.drop_of_length_le hl]; rfl

set_option maxHeartbeats 2000000 in
theorem lessInts_c (A : Option Addr) (n c : Nat) (xs : List Int) (A2 : Option Addr) (n2 c2 : Nat) (ys : List Int) (w : World) (B : Nat) (hS : Sl w B ILit A n c xs) (hT : Sl w B ILit A2 n2 c2 ys) (hB : B ≤ w.heap.size) :
    Calls Tryd.prog 38 #[.slice A n c, .slice A2 n2 c2] w fun e w' => e = .returned (.bool (lessL xs ys)) ∧ Below w.heap.size w w' := by
  have hl1 := hS.len
  have hl2 := hT.len
  obtain ⟨hc0, hc1⟩ := hS.cap
  obtain ⟨hd0, hd1⟩ := hT.cap
  have HL := Lib.hid (And.intro hl1 hl2)
  clear hl1 hl2
  go_enter Tryd.func38, Tryd.ntmps38
  go_wp2_with fail
  go_loopw [5] (fun i wr => ∃ k : Nat, k ≤ n ∧ k ≤ n2 ∧ i = .int .i64 k ∧ Hid (xs.take k = ys.take k) ∧ ∃ os d, wr = plus w os d) (fun i _ => n - (intOf i).toNat)
  case atStart => exact ⟨0, Nat.zero_le _, Nat.zero_le _, rfl, rfl, #[], w.drawn, (plus_zero w).symm⟩
  case round =>
    obtain ⟨k, hk, hk2, rfl, htk, os, d, rfl⟩ := hrel
    by_cases hlt : k < n
    · by_cases hlt2 : k < n2
      · obtain ⟨b, o, x, rfl, hb, hx, hcell⟩ := hS.at_ hlt
        obtain ⟨b2, o2, y, rfl, hb2, hy, hcell2⟩ := hT.at_ hlt2
        have hcell' : w.cell? ⟨b, o + k, none⟩ = some (.int .i64 x) := hcell
        have hcell2' : w.cell? ⟨b2, o2 + k, none⟩ = some (.int .i64 y) := hcell2
        have hbw : b < w.heap.size := by omega
        have hbw2 : b2 < w.heap.size := by omega
        have hki : (k : Int) < (n : Int) := by omega
        have hki2 : (k : Int) < (n2 : Int) := by omega
        by_cases hxy : x = y
        · subst hxy
          have HT : Hid (xs.take (k + 1) = ys.take (k + 1)) := by
            show xs.take (k + 1) = ys.take (k + 1)
            rw [take_snoc hx, take_snoc hy, htk.out]
          clear hx hy hS hT hcell hcell2
          go_wp2_with fail
          refine wp_region_plus (by kernel_rfl) (by kernel_rfl) ?_; (repeat (go_big_quiet_step (fail))); refine wpQuiet_nil ?_; intro _ hw'; obtain ⟨⟨osq, dq⟩, hw''⟩ := hw'; subst hw''
          go_wp2_with fail
          go_roundw
          case rel => exact ⟨k + 1, by omega, by omega, by go_num, HT, _, _, rfl⟩
          case measure => simp [intOf]; omega
        · have hne := Lib.hid (lessL_at htk.out hx hy hxy)
          have hxy2 : (x != y) = true := by simpa [bne] using hxy
          clear hx hy hS hT hcell hcell2
          go_wp2_with fail
          refine wp_region_plus (by kernel_rfl) (by kernel_rfl) ?_; (repeat (go_big_quiet_step (fail))); refine wpQuiet_nil ?_; intro _ hw'; obtain ⟨⟨osq, dq⟩, hw''⟩ := hw'; subst hw''
          go_wp2_with fail
          refine wp_region_plus (by kernel_rfl) (by kernel_rfl) ?_; (repeat (go_big_quiet_step (fail))); refine wpQuiet_nil ?_; intro _ hw'; obtain ⟨⟨osq, dq⟩, hw''⟩ := hw'; subst hw''
          go_wp2_with fail
          go_ret
          exact ⟨by rw [hne.out]; rfl, by (repeat' (first | (with_reducible exact Below.refl _ _) | (with_reducible assumption) | (with_reducible refine Below.alloc ?_ ?_ _) | (with_reducible refine below_plus ?_ ?_ _ _) | (with_reducible refine Below.drew ?_) | (with_reducible refine Below.setCell ?_ ?_ _) | (with_reducible refine below_adv ?_ ?_ _) | go_size | (simp; done) | (simp; omega)))⟩
      · obtain rfl : k = n2 := by omega
        have hne := Lib.hid (lessL_end htk.out (by rw [HL.out.1]; exact hk) (by rw [HL.out.2]; exact Nat.le_refl _) (.inr HL.out.2.symm))
        have h1 : ¬ n < k := by omega
        have HN : Hid (lessL xs ys = false) := Lib.hid (by rw [hne.out, HL.out.1, HL.out.2]; simpa using hk)
        clear hS hT hne
        go_wp2_with fail
        go_ret
        exact ⟨by rw [HN.out]; rfl, by (repeat' (first | (with_reducible exact Below.refl _ _) | (with_reducible assumption) | (with_reducible refine Below.alloc ?_ ?_ _) | (with_reducible refine below_plus ?_ ?_ _ _) | (with_reducible refine Below.drew ?_) | (with_reducible refine Below.setCell ?_ ?_ _) | (with_reducible refine below_adv ?_ ?_ _) | go_size | (simp; done) | (simp; omega)))⟩
    · obtain rfl : k = n := by omega
      have hne := Lib.hid (lessL_end htk.out (by rw [HL.out.1]; exact Nat.le_refl _) (by rw [HL.out.2]; exact hk2) (.inl HL.out.1.symm))
      by_cases hlt2 : k < n2
      · have HN : Hid (lessL xs ys = true) := Lib.hid (by rw [hne.out, HL.out.1, HL.out.2]; simpa using hlt2)
        clear hS hT hne
        go_wp2_with fail
        go_ret
        exact ⟨by rw [HN.out]; rfl, by (repeat' (first | (with_reducible exact Below.refl _ _) | (with_reducible assumption) | (with_reducible refine Below.alloc ?_ ?_ _) | (with_reducible refine below_plus ?_ ?_ _ _) | (with_reducible refine Below.drew ?_) | (with_reducible refine Below.setCell ?_ ?_ _) | (with_reducible refine below_adv ?_ ?_ _) | go_size | (simp; done) | (simp; omega)))⟩
      · have HN : Hid (lessL xs ys = false) := Lib.hid (by rw [hne.out, HL.out.1, HL.out.2]; simpa using hlt2)
        clear hS hT hne
        go_wp2_with fail
        go_ret
        exact ⟨by rw [HN.out]; rfl, by (repeat' (first | (with_reducible exact Below.refl _ _) | (with_reducible assumption) | (with_reducible refine Below.alloc ?_ ?_ _) | (with_reducible refine below_plus ?_ ?_ _ _) | (with_reducible refine Below.drew ?_) | (with_reducible refine Below.setCell ?_ ?_ _) | (with_reducible refine below_adv ?_ ?_ _) | go_size | (simp; done) | (simp; omega)))⟩
end Go.Proofs.YtfdlcphiidfkcaaDoor
