/- The law ValidPhase. -/
import Derived.Test.YtpngddcdcpepmaaPg3
import Derived.Test.YtpngddcdcpepmaaPa5
set_option linter.unusedVariables false
set_option linter.unusedSimpArgs false
namespace Go.Proofs.Ytpngddcdcpepmaa
open Go.RowKit

theorem phase_part {t : List (List Bool)} {ph qh : List Int} (h : phaseF t ph = true) (hs : qh.Sublist ph) : phaseF t qh = true := by
  simp only [phaseF, phOk, ascB, clearB, Bool.and_eq_true, decide_eq_true_eq, allB, List.all_eq_true] at h ⊢
  obtain ⟨h1, ⟨h2, h3⟩, h4⟩ := h
  exact ⟨h1, ⟨h2.sublist hs, fun x hx => h3 x (hs.subset hx)⟩, h4.sublist hs⟩
theorem part_sub (ph : List Int) (i : Nat) : (ph.take i ++ ph.drop (i + 1)).Sublist ph := by
  have h1 : (ph.drop (i + 1)).Sublist (ph.drop i) := by
    rw [← List.drop_drop]
    exact List.drop_sublist _ _
  have := List.Sublist.append (List.Sublist.refl (ph.take i)) h1
  rwa [List.take_append_drop] at this

set_option maxHeartbeats 4000000 in
theorem validPhaseLaw_walk (A : Option Addr) (n c : Nat) (bs : List Int) (w : World) (hS : Sl w w.heap.size BLit A n c bs) (hbs : ∀ x ∈ bs, 0 ≤ x ∧ x ≤ 255) :
    Calls Try.prog 6 #[.slice A n c] w fun e w' => e = .returned (.bool true) ∧ Below w.heap.size w w' := by
  obtain ⟨hc0, hc1⟩ := hS.cap
  by_cases hn : 1048576 < n
  · go_enter Try.func6, Try.ntmps6
    go_wp2
    go_ret
    exact ⟨rfl, by (repeat' (first | (with_reducible exact Below.refl _ _) | (with_reducible assumption) | (with_reducible refine Below.alloc ?_ ?_ _) | (with_reducible refine below_plus ?_ ?_ _ _) | (with_reducible refine Below.drew ?_) | (with_reducible refine Below.setCell ?_ ?_ _) | (with_reducible refine below_adv ?_ ?_ _) | go_size | (simp; done) | (simp; omega)))⟩
  · obtain ⟨i0, hi, hi0, hi1, hi2⟩ := info_parts info_int
    go_enter Try.func6, Try.ntmps6
    go_wp2_with fail
    refine (drawValidPhase_c A n c bs w _ hS (Nat.le_refl _) hbs).mono ?_
    rintro e w1 ⟨A1, m, c1, t, A2, m2, c2, ph, rfl, hT1, hS1, hm8, hm10, hb1⟩
    have hz1 := hb1.size
    obtain ⟨hcm0, hcm1⟩ := hT1.cap
    obtain ⟨hcn0, hcn1⟩ := hS1.cap
    clear hS hbs
    have c1' := fun w' (hw : Below w1.heap.size w1 w') => validPhase_c A1 m c1 t A2 m2 c2 ph w' _ (hT1.below hw) (hS1.below hw) hw.size (by omega)
    have c2' := fun w' (hw : Below w1.heap.size w1 w') => sValidPhase_c A1 m c1 t A2 m2 c2 ph w' _ (hT1.below hw) (hS1.below hw) hw.size (by omega)
    have hpart := fun (h : phaseF t ph = true) i => phase_part h (part_sub ph i)
    obtain ⟨R, hR⟩ : ∃ R, phaseF t ph = R := ⟨_, rfl⟩
    rw [hR] at c1' c2' hpart
    have C1 := Lib.hid c1'
    have C2 := Lib.hid c2'
    have HP := Lib.hid hpart
    clear c1' c2' hpart hR
    cases R
    · go_wp2_with fail
      refine (C1.out w1 (Below.refl _ _)).mono ?_
      rintro e w2 ⟨rfl, hb2⟩
      have hz2 := hb2.size
      go_wp2_with fail
      refine (C2.out w2 hb2).mono ?_
      rintro e w3 ⟨rfl, hb3⟩
      have hb13 := hb2.trans (hb3.mono hz2)
      have hz3 := hb3.size
      go_wp2_with fail
      refine wp_loop_rounds 1 ?_
      rw [rounds_succ]
      by_cases h0 : 0 < m2
      all_goals
        go_wp2_with fail
        go_ret
        exact ⟨rfl, hb1.trans (hb13.mono hz1)⟩
    · go_wp2_with fail
      refine (C1.out w1 (Below.refl _ _)).mono ?_
      rintro e w2 ⟨rfl, hb2⟩
      have hz2 := hb2.size
      go_wp2_with fail
      refine (C2.out w2 hb2).mono ?_
      rintro e w3 ⟨rfl, hb3⟩
      have hz3 := hb3.size
      have hb13 := hb2.trans (hb3.mono hz2)
      have hT3 := (hT1.below hb13).more (B' := w3.heap.size) (by omega)
      have hS3 := (hS1.below hb13).more (B' := w3.heap.size) (by omega)
      have hb03 := hb1.trans (hb13.mono hz1)
      clear hT1 hS1 hb13 hb2 hb3 hb1 C1 C2
      go_wp2_with fail
      go_loopw [6] (fun i wr => ∃ (k : Nat), k ≤ m2 ∧ i = .int .i64 k ∧ Below w3.heap.size w3 wr) (fun i _ => m2 - (intOf i).toNat)
      case atStart => exact ⟨0, by omega, rfl, Below.refl _ _⟩
      case round =>
        obtain ⟨k, hk, rfl, hb⟩ := hrel
        have hzr := hb.size
        by_cases hkm : k < m2
        · have hT4 := (hT3.below hb).more hzr
          have hS4 := (hS3.below hb).more hzr
          obtain ⟨b, o, x, rfl, hbl, -, -⟩ := hS4.at_ hkm
          have ht := hS4.take (k := k) (by omega)
          have hd := hS4.drop (k := k + 1) (by omega)
          have HPK := Lib.hid (HP.out (by first | trivial | rfl) k)
          have k0 : (0 : Int) ≤ (k : Int) := by omega
          have k1 : (k : Int) ≤ (c2 : Int) := by omega
          have k2 : (0 : Int) ≤ (k : Int) + 1 := by omega
          have k3 : (k : Int) + 1 ≤ (m2 : Int) := by omega
          have k4 : IntKind.i64.wrap ((k : Int) + 1) = (k : Int) + 1 := IntWalk.i64_in _ (by omega)
          have k5 : ((k : Int) + 1).toNat = k + 1 := by omega
          have k6 : k + 1 ≤ m2 := by omega
          have HT4 := Lib.hid hT4
          have HTK := Lib.hid ht
          clear hT4 hS4 ht
          by_cases hck : c2 = k + 1
          · subst hck
            obtain rfl : m2 = k + 1 := by omega
            rw [if_pos rfl, Nat.sub_self] at hd
            have k7 : (k : Int) ≤ (k : Int) + 1 := by omega
            have HTD := Lib.hid hd
            clear hd
            go_wp2_with fail
            go_region_held3 (fun w' => True) (trivial) (first | (refine step_appS wr _ (by rfl) (.tmp 33) (.tmp 36) 30 (by rfl) 3 i0 (.int .i64 0) 8 Try.underlying30 hi hi0 hi1 hi2 rfl (by decide) wr.heap.size _ 0 [] (by rfl) ?_ _ k (k + 1) wr.heap.size ILit (ph.take k) (by rfl) ?_ (fun _ => rfl) (by omega) (by omega) ?_ ?_ ?_; (focus (exact own_empty (g := wr.heap.size) (heap_alloc_new _ _) (Nat.le_refl _))); (focus (refine HTK.out.below ?_; (repeat' (first | (with_reducible exact Below.refl _ _) | (with_reducible assumption) | (with_reducible refine Below.alloc ?_ ?_ _) | (with_reducible refine below_plus ?_ ?_ _ _) | (with_reducible refine Below.drew ?_) | (with_reducible refine Below.setCell ?_ ?_ _) | (with_reducible refine below_adv ?_ ?_ _) | go_size | (simp; done) | (simp; omega))))); (focus ((repeat' (first | (with_reducible exact Below.refl _ _) | (with_reducible assumption) | (with_reducible refine Below.alloc ?_ ?_ _) | (with_reducible refine below_plus ?_ ?_ _ _) | (with_reducible refine Below.drew ?_) | (with_reducible refine Below.setCell ?_ ?_ _) | (with_reducible refine below_adv ?_ ?_ _) | go_size | (simp; done) | (simp; omega))))); (focus (simp; done)); intro v4 w4 hO4 hb4 hg4; rw [Nat.zero_add, List.nil_append] at hO4; have hz4 := hb4.size) | (refine step_appS wr _ (by rfl) (.tmp 37) (.tmp 41) 30 (by rfl) 3 i0 (.int .i64 0) 8 Try.underlying30 hi hi0 hi1 hi2 rfl (by decide) wr.heap.size v4 k _ (by rfl) hO4 _ 0 0 wr.heap.size ILit (ph.drop (k + 1)) (by rfl) ?_ (fun _ => rfl) (by omega) (by omega) hb4 hz4 ?_; (focus (exact HTD.out.below hb4)); intro v5 w5 hO5 hb5 hg5; rw [← List.map_append] at hO5; have hz5 := hb5.size; obtain ⟨A5, c5, rfl, hW5⟩ := Ow.of_own hO5) | (go_at_call 13; refine (validPhase_c _ m c1 t A5 _ c5 _ w5 w5.heap.size ((HT4.out.below hb5).more hz5) hW5.sl (Nat.le_refl _) (by omega)).mono ?_; rw [HPK.out]; rintro e w6 ⟨rfl, hb6⟩))
            have hbz : Below wr.heap.size wr w6 := hb5.trans (hb6.mono hz5)
            clear hO4 hb4 hg4 hO5 hg5 hW5 hb5 hb6
            go_wp2_with fail
            go_roundw
            case rel => exact ⟨k + 1, by omega, by go_num, hb.trans (hbz.mono hzr)⟩
            case measure => simp [intOf]
          · rw [if_neg hck] at hd
            simp only [Option.map_some, Addr.add_lit] at hd
            have HTD := Lib.hid hd
            clear hd
            go_wp2_with fail
            go_region_held3 (fun w' => True) (trivial) (first | (refine step_appS wr _ (by rfl) (.tmp 33) (.tmp 36) 30 (by rfl) 3 i0 (.int .i64 0) 8 Try.underlying30 hi hi0 hi1 hi2 rfl (by decide) wr.heap.size _ 0 [] (by rfl) ?_ _ k c2 wr.heap.size ILit (ph.take k) (by rfl) ?_ (fun _ => rfl) (by omega) (by omega) ?_ ?_ ?_; (focus (exact own_empty (g := wr.heap.size) (heap_alloc_new _ _) (Nat.le_refl _))); (focus (refine HTK.out.below ?_; (repeat' (first | (with_reducible exact Below.refl _ _) | (with_reducible assumption) | (with_reducible refine Below.alloc ?_ ?_ _) | (with_reducible refine below_plus ?_ ?_ _ _) | (with_reducible refine Below.drew ?_) | (with_reducible refine Below.setCell ?_ ?_ _) | (with_reducible refine below_adv ?_ ?_ _) | go_size | (simp; done) | (simp; omega))))); (focus ((repeat' (first | (with_reducible exact Below.refl _ _) | (with_reducible assumption) | (with_reducible refine Below.alloc ?_ ?_ _) | (with_reducible refine below_plus ?_ ?_ _ _) | (with_reducible refine Below.drew ?_) | (with_reducible refine Below.setCell ?_ ?_ _) | (with_reducible refine below_adv ?_ ?_ _) | go_size | (simp; done) | (simp; omega))))); (focus (simp; done)); intro v4 w4 hO4 hb4 hg4; rw [Nat.zero_add, List.nil_append] at hO4; have hz4 := hb4.size) | (refine step_appS wr _ (by rfl) (.tmp 37) (.tmp 41) 30 (by rfl) 3 i0 (.int .i64 0) 8 Try.underlying30 hi hi0 hi1 hi2 rfl (by decide) wr.heap.size v4 k _ (by rfl) hO4 _ (m2 - (k + 1)) (c2 - (k + 1)) wr.heap.size ILit (ph.drop (k + 1)) (by rfl) ?_ (fun _ => rfl) (by omega) (by omega) hb4 hz4 ?_; (focus (exact HTD.out.below hb4)); intro v5 w5 hO5 hb5 hg5; rw [← List.map_append] at hO5; have hz5 := hb5.size; obtain ⟨A5, c5, rfl, hW5⟩ := Ow.of_own hO5) | (go_at_call 13; refine (validPhase_c _ m c1 t A5 _ c5 _ w5 w5.heap.size ((HT4.out.below hb5).more hz5) hW5.sl (Nat.le_refl _) (by omega)).mono ?_; rw [HPK.out]; rintro e w6 ⟨rfl, hb6⟩))
            have hbz : Below wr.heap.size wr w6 := hb5.trans (hb6.mono hz5)
            clear hO4 hb4 hg4 hO5 hg5 hW5 hb5 hb6
            go_wp2_with fail
            go_roundw
            case rel => exact ⟨k + 1, by omega, by go_num, hb.trans (hbz.mono hzr)⟩
            case measure => simp [intOf]; omega
        · go_wp2_with fail
          go_ret
          exact ⟨rfl, hb03.trans (hb.mono (by omega))⟩
end Go.Proofs.Ytpngddcdcpepmaa
