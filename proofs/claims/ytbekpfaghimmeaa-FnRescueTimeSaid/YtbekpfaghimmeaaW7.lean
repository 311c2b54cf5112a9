/- Drawn panels; the laws ValidPanel, PressPanelDoor, PressPanelFire, walked. -/
import Derived.Test.YtbekpfaghimmeaaW4
import Derived.Test.YtbekpfaghimmeaaW6
import Derived.Deep.RegionWith
set_option linter.unusedVariables false
set_option linter.unusedSimpArgs false
namespace Go.Proofs.Ytbekpfaghimmeaa
open Go.RowKit

def PanelNew (w : World) (e : Ending) (w' : World) : Prop :=
  ∃ (m f : Int) (mv op : Bool), e = .returned (.agg #[.int .i64 m, .int .i64 f, .bool mv, .bool op]) ∧ Below w.heap.size w w'
def PanelEvNew (w : World) (e : Ending) (w' : World) : Prop :=
  ∃ (m f : Int) (mv op : Bool) (ev : Int), e = .returned (.tuple #[.agg #[.int .i64 m, .int .i64 f, .bool mv, .bool op], .int .i64 ev]) ∧ Below w.heap.size w w'

theorem below_adv_new {w : World} (o : Obj) (q : Nat) (os : Array Obj) (d : Nat) : Below w.heap.size w (plus (adv (w.alloc o) w.heap.size q) os d) := by (repeat' (first | (with_reducible exact Below.refl _ _) | (with_reducible assumption) | (with_reducible refine Below.alloc ?_ ?_ _) | (with_reducible refine below_plus ?_ ?_ _ _) | (with_reducible refine Below.drew ?_) | (with_reducible refine Below.setCell ?_ ?_ _) | (with_reducible refine below_adv ?_ ?_ _) | go_size | (simp; omega)))

theorem drawValidPanel_c (w : World) (A : Option Addr) (n c : Nat) (bs : List Int) (h : Sl w w.heap.size BLit A n c bs) (hb : ∀ x ∈ bs, 0 ≤ x ∧ x ≤ 255) :
    Calls Try.prog 15 #[.slice A n c] w (PanelNew w) := by
  go_enter Try.func15, Try.ntmps15
  go_wp2_with fail
  refine (newReader_c _ _ _ _ w.heap.size bs (h.alloc (Nat.le_refl _) _) (by simp) hb).mono ?_
  rintro e w1 ⟨r, A', n', c', bs', rfl, rfl, hR, hr0, hr1⟩
  simp at hr0 hr1
  have hr2 : w.heap.size < r := by omega
  go_wp2_with fail
  refine (anyPanel_c _ _ _ _ _ _ _ hR (by omega)).mono ?_
  rintro e w1 ⟨m, f, mv, op, rfl, q, os1, d1, hq, rfl⟩
  go_wp2_with fail
  refine bodyPost_ret (v := .agg #[.int .i64 m, .int .i64 f, .bool mv, .bool op]) (by simp [results, Try.results15, go_sem, hr2]; try rfl) rfl ?_
  exact ⟨m, f, mv, op, rfl, by (repeat' (first | (with_reducible exact Below.refl _ _) | (with_reducible assumption) | (with_reducible refine Below.alloc ?_ ?_ _) | (with_reducible refine below_plus ?_ ?_ _ _) | (with_reducible refine Below.drew ?_) | (with_reducible refine Below.setCell ?_ ?_ _) | (with_reducible refine below_adv ?_ ?_ _) | go_size | (simp; omega)))⟩

theorem drawRescueTime_c (w : World) (A : Option Addr) (n c : Nat) (bs : List Int) (h : Sl w w.heap.size BLit A n c bs) (hb : ∀ x ∈ bs, 0 ≤ x ∧ x ≤ 255) :
    Calls Try.prog 22 #[.slice A n c] w (PanelNew w) := by
  go_enter Try.func22, Try.ntmps22
  go_wp2_with fail
  refine (newReader_c _ _ _ _ w.heap.size bs (h.alloc (Nat.le_refl _) _) (by simp) hb).mono ?_
  rintro e w1 ⟨r, A', n', c', bs', rfl, rfl, hR, hr0, hr1⟩
  simp at hr0 hr1
  have hr2 : w.heap.size < r := by omega
  go_wp2_with fail
  refine (anyPanel_c _ _ _ _ _ _ _ hR (by omega)).mono ?_
  rintro e w1 ⟨m, f, mv, op, rfl, q, os1, d1, hq, rfl⟩
  go_wp2_with fail
  refine bodyPost_ret (v := .agg #[.int .i64 m, .int .i64 f, .bool mv, .bool op]) (by simp [results, Try.results22, go_sem, hr2]; try rfl) rfl ?_
  exact ⟨m, f, mv, op, rfl, by (repeat' (first | (with_reducible exact Below.refl _ _) | (with_reducible assumption) | (with_reducible refine Below.alloc ?_ ?_ _) | (with_reducible refine below_plus ?_ ?_ _ _) | (with_reducible refine Below.drew ?_) | (with_reducible refine Below.setCell ?_ ?_ _) | (with_reducible refine below_adv ?_ ?_ _) | go_size | (simp; omega)))⟩

theorem drawPressPanel_c (w : World) (A0 : Option Addr) (n0 c0 : Nat) (bs0 : List Int) (h : Sl w w.heap.size BLit A0 n0 c0 bs0) (hb : ∀ x ∈ bs0, 0 ≤ x ∧ x ≤ 255) :
    Calls Try.prog 21 #[.slice A0 n0 c0] w (PanelEvNew w) := by
  go_enter Try.func21, Try.ntmps21
  go_wp2_with fail
  refine (newReader_c _ _ _ _ w.heap.size bs0 (h.alloc (Nat.le_refl _) _) (by simp) hb).mono ?_
  rintro e w1 ⟨r, A, n, c, bs, rfl, rfl, hR, hr0, hr1⟩
  simp at hr0 hr1
  have hr2 : w.heap.size < r := by omega
  go_wp2_with fail
  refine (anyPanel_c _ _ _ _ _ _ _ hR (by omega)).mono ?_
  rintro e w1 ⟨m, f, mv, op, rfl, q, os1, d1, hq, rfl⟩
  go_wp2_with fail
  go_region_with (first | (go_at_call 30; refine (pick_c _ r n c (q) A bs _ (by (repeat' (first | (with_reducible exact hR) | (with_reducible exact RdX.of hR) | (with_reducible refine Rd.alloc ?_ _) | (with_reducible refine Rd.plus ?_ _ _) | (with_reducible refine Rd.drew ?_) | (with_reducible refine RdX.to ?_ _) | (with_reducible refine RdX.alloc ?_ _) | (with_reducible refine RdX.plus ?_ _ _) | (with_reducible refine RdX.adv ?_ _)))) (by omega)).mono ?_; rintro e w1 ⟨k1, hk1, rfl, os1, d1, rfl⟩))
  all_goals
    go_wp2_with fail
    refine bodyPost_ret (v := .tuple #[.agg #[.int .i64 m, .int .i64 f, .bool mv, .bool op], .int .i64 k1]) (by simp [results, Try.results21, go_sem, hr2]; try rfl) rfl ?_
    exact ⟨m, f, mv, op, k1, rfl, by (repeat' (first | (with_reducible exact Below.refl _ _) | (with_reducible assumption) | (with_reducible refine Below.alloc ?_ ?_ _) | (with_reducible refine below_plus ?_ ?_ _ _) | (with_reducible refine Below.drew ?_) | (with_reducible refine Below.setCell ?_ ?_ _) | (with_reducible refine below_adv ?_ ?_ _) | go_size | (simp; omega)))⟩
end Go.Proofs.Ytbekpfaghimmeaa
