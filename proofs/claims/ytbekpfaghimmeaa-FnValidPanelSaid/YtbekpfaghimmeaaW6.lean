/- The generators of panels: whatever the code, a panel comes out, and only new memory is touched. -/
import Derived.Test.YtbekpfaghimmeaaRdb
set_option linter.unusedVariables false
set_option linter.unusedSimpArgs false
namespace Go.Proofs.Ytbekpfaghimmeaa
open Go.RowKit

/-- Some panel, the reader gone on to at most p + K. -/
def PanelOf (w : World) (r p K : Nat) (e : Ending) (w' : World) : Prop :=
  ∃ (m f : Int) (mv op : Bool), e = .returned (.agg #[.int .i64 m, .int .i64 f, .bool mv, .bool op]) ∧ ∃ q os d, q ≤ p + K ∧ plus (adv w r q) os d = w'

theorem panelOf_mk {w w' : World} {r p K q : Nat} (m f : Int) (mv op : Bool) (hq : q ≤ p + K) (h : Below (adv w r q).heap.size (adv w r q) w') :
    PanelOf w r p K (.returned (.agg #[.int .i64 m, .int .i64 f, .bool mv, .bool op])) w' := by
  obtain ⟨os, d, rfl⟩ := is_plus h
  exact ⟨m, f, mv, op, rfl, q, os, d, hq, rfl⟩

set_option maxHeartbeats 1000000 in
theorem randomPanel_c (w : World) (r n c p : Nat) (A : Option Addr) (bs : List Int) (hR : Rd w r A n c bs p) (hp : p ≤ 900000) :
    Calls Try.prog 32 #[.pointer (some ⟨r, 0, none⟩)] w (PanelOf w r p 3) := by
  have hlt := hR.lt
  go_enter Try.func32, Try.ntmps32
  go_wp2_with fail
  refine (pick_c _ r n c (p) A bs _ (by (repeat' (first | (with_reducible exact hR) | (with_reducible exact RdX.of hR) | (with_reducible refine Rd.alloc ?_ _) | (with_reducible refine Rd.plus ?_ _ _) | (with_reducible refine Rd.drew ?_) | (with_reducible refine RdX.to ?_ _) | (with_reducible refine RdX.alloc ?_ _) | (with_reducible refine RdX.plus ?_ _ _) | (with_reducible refine RdX.adv ?_ _)))) (by omega)).mono ?_; rintro e w1 ⟨k1, hk1, rfl, os1, d1, rfl⟩
  go_wp2_with fail
  refine (pick_c _ r n c (p + 1) A bs _ (by (repeat' (first | (with_reducible exact hR) | (with_reducible exact RdX.of hR) | (with_reducible refine Rd.alloc ?_ _) | (with_reducible refine Rd.plus ?_ _ _) | (with_reducible refine Rd.drew ?_) | (with_reducible refine RdX.to ?_ _) | (with_reducible refine RdX.alloc ?_ _) | (with_reducible refine RdX.plus ?_ _ _) | (with_reducible refine RdX.adv ?_ _)))) (by omega)).mono ?_; rintro e w1 ⟨k2, hk2, rfl, os1, d1, rfl⟩
  go_wp2_with fail
  refine (pick_c _ r n c (p + 1 + 1) A bs _ (by (repeat' (first | (with_reducible exact hR) | (with_reducible exact RdX.of hR) | (with_reducible refine Rd.alloc ?_ _) | (with_reducible refine Rd.plus ?_ _ _) | (with_reducible refine Rd.drew ?_) | (with_reducible refine RdX.to ?_ _) | (with_reducible refine RdX.alloc ?_ _) | (with_reducible refine RdX.plus ?_ _ _) | (with_reducible refine RdX.adv ?_ _)))) (by omega)).mono ?_; rintro e w1 ⟨k3, hk3, rfl, os1, d1, rfl⟩
  by_cases c0 : k3 = 0
  · subst c0
    go_wp2_with fail
    go_returns
    exact panelOf_mk _ _ _ _ (q := p + 1 + 1 + 1) (by omega) (by (repeat' (first | (with_reducible exact Below.refl _ _) | (with_reducible assumption) | (with_reducible refine Below.alloc ?_ ?_ _) | (with_reducible refine below_plus ?_ ?_ _ _) | (with_reducible refine Below.drew ?_) | (with_reducible refine Below.setCell ?_ ?_ _) | (with_reducible refine below_adv ?_ ?_ _) | go_size | (simp; omega))))
  by_cases c1 : k3 = 1
  · subst c1
    go_wp2_with fail
    go_returns
    exact panelOf_mk _ _ _ _ (q := p + 1 + 1 + 1) (by omega) (by (repeat' (first | (with_reducible exact Below.refl _ _) | (with_reducible assumption) | (with_reducible refine Below.alloc ?_ ?_ _) | (with_reducible refine below_plus ?_ ?_ _ _) | (with_reducible refine Below.drew ?_) | (with_reducible refine Below.setCell ?_ ?_ _) | (with_reducible refine below_adv ?_ ?_ _) | go_size | (simp; omega))))
  · go_wp2_with fail
    go_returns
    exact panelOf_mk _ _ _ _ (q := p + 1 + 1 + 1) (by omega) (by (repeat' (first | (with_reducible exact Below.refl _ _) | (with_reducible assumption) | (with_reducible refine Below.alloc ?_ ?_ _) | (with_reducible refine below_plus ?_ ?_ _ _) | (with_reducible refine Below.drew ?_) | (with_reducible refine Below.setCell ?_ ?_ _) | (with_reducible refine below_adv ?_ ?_ _) | go_size | (simp; omega))))

set_option maxHeartbeats 1000000 in
theorem anyPanel_c (w : World) (r n c p : Nat) (A : Option Addr) (bs : List Int) (hR : Rd w r A n c bs p) (hp : p ≤ 800000) :
    Calls Try.prog 26 #[.pointer (some ⟨r, 0, none⟩)] w (PanelOf w r p 5) := by
  have hlt := hR.lt
  go_enter Try.func26, Try.ntmps26
  go_wp2_with fail
  refine (randomPanel_c _ r n c p A bs (by (repeat' (first | (with_reducible exact hR) | (with_reducible exact RdX.of hR) | (with_reducible refine Rd.alloc ?_ _) | (with_reducible refine Rd.plus ?_ _ _) | (with_reducible refine Rd.drew ?_) | (with_reducible refine RdX.to ?_ _) | (with_reducible refine RdX.alloc ?_ _) | (with_reducible refine RdX.plus ?_ _ _) | (with_reducible refine RdX.adv ?_ _)))) (by omega)).mono ?_
  rintro e w1 ⟨m, f, mv, op, rfl, q, os1, d1, hq, rfl⟩
  go_wp2_with fail
  refine (pick_c _ r n c (q) A bs _ (by (repeat' (first | (with_reducible exact hR) | (with_reducible exact RdX.of hR) | (with_reducible refine Rd.alloc ?_ _) | (with_reducible refine Rd.plus ?_ _ _) | (with_reducible refine Rd.drew ?_) | (with_reducible refine RdX.to ?_ _) | (with_reducible refine RdX.alloc ?_ _) | (with_reducible refine RdX.plus ?_ _ _) | (with_reducible refine RdX.adv ?_ _)))) (by omega)).mono ?_; rintro e w1 ⟨k1, hk1, rfl, os1, d1, rfl⟩
  by_cases c0 : k1 = 0
  · subst c0
    go_wp2_with fail
    refine (one_lit_c _ r n c (q + 1) A bs _ _ _ _ [-1, 3] (by rfl) (by rfl) (by decide) (by decide) (by (repeat' (first | (with_reducible exact hR) | (with_reducible exact RdX.of hR) | (with_reducible refine Rd.alloc ?_ _) | (with_reducible refine Rd.plus ?_ _ _) | (with_reducible refine Rd.drew ?_) | (with_reducible refine RdX.to ?_ _) | (with_reducible refine RdX.alloc ?_ _) | (with_reducible refine RdX.plus ?_ _ _) | (with_reducible refine RdX.adv ?_ _)))) (by omega) (by first | rfl | (simp; done) | (simp; omega))).mono ?_; rintro e w1 ⟨x1, hx1, rfl, os1, d1, rfl⟩
    go_wp2_with fail
    go_returns
    exact panelOf_mk _ _ _ _ (q := q + 1 + 1) (by omega) (by (repeat' (first | (with_reducible exact Below.refl _ _) | (with_reducible assumption) | (with_reducible refine Below.alloc ?_ ?_ _) | (with_reducible refine below_plus ?_ ?_ _ _) | (with_reducible refine Below.drew ?_) | (with_reducible refine Below.setCell ?_ ?_ _) | (with_reducible refine below_adv ?_ ?_ _) | go_size | (simp; omega))))
  by_cases c1 : k1 = 1
  · subst c1
    go_wp2_with fail
    refine (one_lit_c _ r n c (q + 1) A bs _ _ _ _ [-1, 16] (by rfl) (by rfl) (by decide) (by decide) (by (repeat' (first | (with_reducible exact hR) | (with_reducible exact RdX.of hR) | (with_reducible refine Rd.alloc ?_ _) | (with_reducible refine Rd.plus ?_ _ _) | (with_reducible refine Rd.drew ?_) | (with_reducible refine RdX.to ?_ _) | (with_reducible refine RdX.alloc ?_ _) | (with_reducible refine RdX.plus ?_ _ _) | (with_reducible refine RdX.adv ?_ _)))) (by omega) (by first | rfl | (simp; done) | (simp; omega))).mono ?_; rintro e w1 ⟨x1, hx1, rfl, os1, d1, rfl⟩
    go_wp2_with fail
    go_returns
    exact panelOf_mk _ _ _ _ (q := q + 1 + 1) (by omega) (by (repeat' (first | (with_reducible exact Below.refl _ _) | (with_reducible assumption) | (with_reducible refine Below.alloc ?_ ?_ _) | (with_reducible refine below_plus ?_ ?_ _ _) | (with_reducible refine Below.drew ?_) | (with_reducible refine Below.setCell ?_ ?_ _) | (with_reducible refine below_adv ?_ ?_ _) | go_size | (simp; omega))))
  by_cases c2 : k1 = 2
  · subst c2
    go_wp2_with fail
    go_returns
    exact panelOf_mk _ _ _ _ (q := q + 1) (by omega) (by (repeat' (first | (with_reducible exact Below.refl _ _) | (with_reducible assumption) | (with_reducible refine Below.alloc ?_ ?_ _) | (with_reducible refine below_plus ?_ ?_ _ _) | (with_reducible refine Below.drew ?_) | (with_reducible refine Below.setCell ?_ ?_ _) | (with_reducible refine below_adv ?_ ?_ _) | go_size | (simp; omega))))
  · go_wp2_with fail
    go_returns
    exact panelOf_mk _ _ _ _ (q := q + 1) (by omega) (by (repeat' (first | (with_reducible exact Below.refl _ _) | (with_reducible assumption) | (with_reducible refine Below.alloc ?_ ?_ _) | (with_reducible refine below_plus ?_ ?_ _ _) | (with_reducible refine Below.drew ?_) | (with_reducible refine Below.setCell ?_ ?_ _) | (with_reducible refine below_adv ?_ ?_ _) | go_size | (simp; omega))))
end Go.Proofs.Ytbekpfaghimmeaa
