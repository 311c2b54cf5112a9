/- The closure of BestShare where all calls are shared, walked. -/
import Derived.Test.YtillmnhhkhjpkaaSd1
set_option linter.unusedVariables false
set_option linter.unusedSimpArgs false
namespace Go.Proofs.Ytillmnhhkhjpkaa
open Go.RowKit

set_option maxHeartbeats 4000000 in
theorem search0_c (gC gT gB gM gR gS gE lo : Nat) (hr : Row7 gC gT gB gM gR gS gE lo) (Ac : Option Addr) (nc cc : Nat) (A2 : Option Addr) (n c2 : Nat) (hn : n ≤ 6) (f : Flt) (b : Int) (hf : f.small b) (w : World) (S : Best) (xs : List Nat)
    (hSt : ShSt w gC gT gB gM gR gS gE lo (.slice Ac nc cc) (.slice A2 n c2) n S xs) (hlo : lo ≤ w.heap.size) (kI : Int) (hk : kI = n) :
    Calls Try.prog 12 #[f.v, .int .i64 kI, .pointer (some ⟨gM, 0, none⟩), .pointer (some ⟨gT, 0, none⟩), .pointer (some ⟨gS, 0, none⟩), .pointer (some ⟨gB, 0, none⟩), .pointer (some ⟨gC, 0, none⟩), .pointer (some ⟨gE, 0, none⟩)] w (SrcOf gC gT gB gM gR gS gE lo (.slice Ac nc cc) (.slice A2 n c2) n w n xs (srch nc [] f xs S)) := by
  subst hk
  obtain ⟨i0, hi, hi0, hi1, hi2⟩ := info_parts info_int
  have hb1 : Below w.heap.size w (w.alloc (.cells #[.int .i64 (f.at_ 0), .int .i64 (f.at_ 1), .int .i64 (f.at_ 2), .int .i64 (f.way 0), .int .i64 (f.way 1), .int .i64 (f.way 2)] 37)) := (Below.refl _ _).alloc (Nat.le_refl _) _
  obtain ⟨h1, h2, ⟨Ab, nb, cb, h3, h4⟩, h5, h6, h7, h8, h9⟩ := id hSt
  have cM := cell_of_one h5
  have cT := cell_of_one h2
  have cS := cell_of_one h7
  have cB := cell_of_one h3
  have fM := free_of_one h5
  have fB := free_of_one h3
  have qM := lt_of_heap h5
  have qT := lt_of_heap h2
  have qS := lt_of_heap h7
  have qB := lt_of_heap h3
  have HST := Lib.hid hSt
  have HR := Lib.hid hr
  have hcost := small_cost hf
  have HF := Lib.hid hf
  have e1 : gS ≠ gM := by obtain ⟨r1, r2, r3, r4, r5, r6, r7⟩ := hr; omega
  have e2 : gB ≠ gM := by obtain ⟨r1, r2, r3, r4, r5, r6, r7⟩ := hr; omega
  have e3 : gR ≠ gM := by obtain ⟨r1, r2, r3, r4, r5, r6, r7⟩ := hr; omega
  obtain ⟨X, hX⟩ : ∃ X, X = w.setCell ⟨gM, 0, none⟩ (.int .i64 f.cost) := ⟨_, rfl⟩
  have kX : ∀ g, g ≠ gM → X.heap[g]? = w.heap[g]? := fun g e => by rw [hX]; exact Below.heap_setCell w ⟨gM, 0, none⟩ _ g e
  have zX : X.heap.size = w.heap.size := by rw [hX]; simp [World.setCell]
  have cS1 := cell_of_one ((kX gS e1).trans h7)
  have cB1 := cell_of_one ((kX gB e2).trans h3)
  have fB1 := free_of_one ((kX gB e2).trans h3)
  have hS1 : Sl X w.heap.size NLit (some ⟨gR, 0, none⟩) n n xs := by
    have := (h6.keep (w' := X) fun g hg _ hA => kX g (by injection hA with hA; injection hA with hA; omega)).sl
    rwa [zX] at this
  have HS1 := Lib.hid hS1
  have FB1 := Lib.hid fB1
  have CB1 := Lib.hid cB1
  rw [hX] at cS1
  have HBE := Lib.hid (fun (w2 : World) (hb : Below w.heap.size X w2) (A5 : Option Addr) (n5 c5 : Nat) (hO : Ow w2 lo 3 NLit A5 n5 c5 xs) => hSt.best hr hcost (by rw [← hX]; exact hb) hO)
  have HCH : Hid (Ch gM gB gR w X) := Lib.hid (by rw [hX]; exact Ch.set w gM 0 _ (.inl rfl))
  have ZX := Lib.hid zX
  have HX := Lib.hid hX
  have HXS := Lib.hid h6.len
  clear h1 h2 h3 h4 h5 h6 h7 h8 hSt hr hf kX zX cB1 fB1 hS1 fB cB cS hX e1 e2 e3 hcost
  cases S with
  | none =>
    have cM1 : w.cell? ⟨gM, 0, none⟩ = some (.int .i64 (-1)) := cM
    have HE : Hid (srch nc [] f xs none = some (f.cost, xs)) := Lib.hid rfl
    clear cM h9
    go_enter Try.func12, Try.ntmps12
    go_wp2_with fail
    refine wp_region_plus (by kernel_rfl) (by kernel_rfl) ?_; (repeat (go_big_quiet_step (fail))); refine wpQuiet_nil ?_; intro _ hw'; obtain ⟨⟨osq, dq⟩, hw''⟩ := hw'; subst hw''
    go_wp2_with (first | (go_at_call 13; refine (cost_c f _).mono ?_; rintro e w1 ⟨rfl, hb1⟩; obtain ⟨os1, d1, rfl⟩ := is_plus hb1; clear hb1) | (at_builtin; refine wpList_appS X _ rfl _ _ 23 rfl 3 i0 (.int .i64 0) 8 Try.underlying23 hi hi0 hi1 hi2 rfl (by decide) w.heap.size _ 0 [] (by rfl) (World.ownsRow_nil _ _ _ _) _ n n w.heap.size NLit xs (by rfl) ?_ (fun _ => rfl) (by omega) (by omega) ?_ ?_ ?_; (focus (rw [← HX.out]; refine HS1.out.below ?_; have := ZX.out; (repeat' (first | (with_reducible exact Below.refl _ _) | (with_reducible assumption) | (with_reducible refine Below.alloc ?_ ?_ _) | (with_reducible refine below_plus ?_ ?_ _ _) | (with_reducible refine Below.drew ?_) | (with_reducible refine Below.setCell ?_ ?_ _) | (with_reducible refine below_adv ?_ ?_ _) | go_size | (simp; done) | (simp; omega))))); (focus (rw [← HX.out]; have := ZX.out; (repeat' (first | (with_reducible exact Below.refl _ _) | (with_reducible assumption) | (with_reducible refine Below.alloc ?_ ?_ _) | (with_reducible refine below_plus ?_ ?_ _ _) | (with_reducible refine Below.drew ?_) | (with_reducible refine Below.setCell ?_ ?_ _) | (with_reducible refine below_adv ?_ ?_ _) | go_size | (simp; done) | (simp; omega))))); (focus (have := ZX.out; simp; omega)); intro v2 w2 hO2 hb2 hg2; rw [Nat.zero_add, List.nil_append] at hO2; obtain ⟨A5, c5, rfl, hW2⟩ := Ow.of_own hO2; have fB2 := (hb2.frozen (p := ⟨gB, 0, none⟩) qB).trans FB1.out; have cB2 := (hb2.cell (p := ⟨gB, 0, none⟩) qB).trans CB1.out; clear hO2 hg2))
    go_end0
    exact ⟨rfl, (HCH.out.trans (Ch.of (hb2.mono (Nat.le_of_eq ZX.out)))).trans (Ch.set _ gB 0 _ (.inr (.inl rfl))), xs, List.take_of_length_le (by rw [HXS.out]; exact Nat.le_refl _), by rw [HE.out]; exact HBE.out w2 hb2 A5 n c5 (hW2.mono hlo)⟩
  | some s =>
    have cM1 : w.cell? ⟨gM, 0, none⟩ = some (.int .i64 s.1) := cM
    have h0 := h9 s rfl
    clear cM h9
    obtain ⟨s1, s2⟩ := s
    dsimp only at cM1 h0
    by_cases hp : s1 ≤ f.cost
    · have HE : Hid (srch nc [] f xs (some (s1, s2)) = some (s1, s2)) := Lib.hid (by simp [srch, prn, hp])
      go_enter Try.func12, Try.ntmps12
      go_wp2_with fail
      refine wp_region_plus (by kernel_rfl) (by kernel_rfl) ?_; (repeat (go_big_quiet_step ((go_at_call 13; exact quiet_plus (cost_c f _))))); refine wpQuiet_nil ?_; intro _ hw'; obtain ⟨⟨osq, dq⟩, hw''⟩ := hw'; subst hw''
      go_wp2_with fail
      go_end0
      exact ⟨rfl, Ch.of (by (repeat' (first | (with_reducible exact Below.refl _ _) | (with_reducible assumption) | (with_reducible refine Below.alloc ?_ ?_ _) | (with_reducible refine below_plus ?_ ?_ _ _) | (with_reducible refine Below.drew ?_) | (with_reducible refine Below.setCell ?_ ?_ _) | (with_reducible refine below_adv ?_ ?_ _) | go_size | (simp; done) | (simp; omega)))), xs, List.take_of_length_le (by rw [HXS.out]; exact Nat.le_refl _), by rw [HE.out]; exact HST.out.below (by (repeat' (first | (with_reducible exact Below.refl _ _) | (with_reducible assumption) | (with_reducible refine Below.alloc ?_ ?_ _) | (with_reducible refine below_plus ?_ ?_ _ _) | (with_reducible refine Below.drew ?_) | (with_reducible refine Below.setCell ?_ ?_ _) | (with_reducible refine below_adv ?_ ?_ _) | go_size | (simp; done) | (simp; omega))))⟩
    · have HE : Hid (srch nc [] f xs (some (s1, s2)) = some (f.cost, xs)) := Lib.hid (by simp [srch, prn, hp])
      go_enter Try.func12, Try.ntmps12
      go_wp2_with fail
      refine wp_region_plus (by kernel_rfl) (by kernel_rfl) ?_; (repeat (go_big_quiet_step ((go_at_call 13; exact quiet_plus (cost_c f _))))); refine wpQuiet_nil ?_; intro _ hw'; obtain ⟨⟨osq, dq⟩, hw''⟩ := hw'; subst hw''
      go_wp2_with (first | (go_at_call 13; refine (cost_c f _).mono ?_; rintro e w1 ⟨rfl, hb1⟩; obtain ⟨os1, d1, rfl⟩ := is_plus hb1; clear hb1) | (at_builtin; refine wpList_appS X _ rfl _ _ 23 rfl 3 i0 (.int .i64 0) 8 Try.underlying23 hi hi0 hi1 hi2 rfl (by decide) w.heap.size _ 0 [] (by rfl) (World.ownsRow_nil _ _ _ _) _ n n w.heap.size NLit xs (by rfl) ?_ (fun _ => rfl) (by omega) (by omega) ?_ ?_ ?_; (focus (rw [← HX.out]; refine HS1.out.below ?_; have := ZX.out; (repeat' (first | (with_reducible exact Below.refl _ _) | (with_reducible assumption) | (with_reducible refine Below.alloc ?_ ?_ _) | (with_reducible refine below_plus ?_ ?_ _ _) | (with_reducible refine Below.drew ?_) | (with_reducible refine Below.setCell ?_ ?_ _) | (with_reducible refine below_adv ?_ ?_ _) | go_size | (simp; done) | (simp; omega))))); (focus (rw [← HX.out]; have := ZX.out; (repeat' (first | (with_reducible exact Below.refl _ _) | (with_reducible assumption) | (with_reducible refine Below.alloc ?_ ?_ _) | (with_reducible refine below_plus ?_ ?_ _ _) | (with_reducible refine Below.drew ?_) | (with_reducible refine Below.setCell ?_ ?_ _) | (with_reducible refine below_adv ?_ ?_ _) | go_size | (simp; done) | (simp; omega))))); (focus (have := ZX.out; simp; omega)); intro v2 w2 hO2 hb2 hg2; rw [Nat.zero_add, List.nil_append] at hO2; obtain ⟨A5, c5, rfl, hW2⟩ := Ow.of_own hO2; have fB2 := (hb2.frozen (p := ⟨gB, 0, none⟩) qB).trans FB1.out; have cB2 := (hb2.cell (p := ⟨gB, 0, none⟩) qB).trans CB1.out; clear hO2 hg2))
      go_end0
      exact ⟨rfl, (HCH.out.trans (Ch.of (hb2.mono (Nat.le_of_eq ZX.out)))).trans (Ch.set _ gB 0 _ (.inr (.inl rfl))), xs, List.take_of_length_le (by rw [HXS.out]; exact Nat.le_refl _), by rw [HE.out]; exact HBE.out w2 hb2 A5 n c5 (hW2.mono hlo)⟩
end Go.Proofs.Ytillmnhhkhjpkaa
