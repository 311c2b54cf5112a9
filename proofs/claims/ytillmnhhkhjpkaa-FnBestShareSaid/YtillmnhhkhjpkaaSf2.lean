/- The generator randomCall, walked. -/
import Derived.Test.YtillmnhhkhjpkaaSf1
set_option linter.unusedVariables false
set_option linter.unusedSimpArgs false
namespace Go.Proofs.Ytillmnhhkhjpkaa
open Go.RowKit

/-- A call of small numbers; the reader has moved by three. -/
def CallOf (w : World) (r p : Nat) (e : Ending) (w' : World) : Prop :=
  ∃ x y z : Int, e = .returned (CLit (x, y, z)) ∧ Below w.heap.size (adv w r (p + 3)) w'
theorem call_cells {w : World} {g : Nat} {x y z : Value} {t : TypeId} (h : w.heap[g]? = some (.cells #[x, y, z] t (0, 0))) :
    w.cell? ⟨g, 0, none⟩ = some x ∧ w.cell? ⟨g, 1, none⟩ = some y ∧ w.cell? ⟨g, 2, none⟩ = some z ∧ ∀ i, w.frozen? ⟨g, i, none⟩ = false := by
  refine ⟨?_, ?_, ?_, fun i => by simp [World.frozen?, h]⟩ <;> rw [cell_of_row _ _ _ _ _ _ h] <;> rfl
set_option maxHeartbeats 1000000 in
theorem randomCall_c (w wr : World) (r n c p q : Nat) (A : Option Addr) (bs : List Int) (hR : Rd w r A n c bs p) (hb : Below w.heap.size (adv w r q) wr) (hq : q ≤ 400000) :
    Calls Try.prog 35 #[.pointer (some ⟨r, 0, none⟩)] wr fun e w' => ∃ x y z : Int, e = .returned (.agg #[.int .i64 x, .int .i64 y, .int .i64 z]) ∧ Below w.heap.size (adv w r (q + 3)) w' ∧ Below wr.heap.size (adv wr r (q + 3)) w' := by
  have hlt := hR.lt
  have hzr := hb.size
  rw [size_adv] at hzr
  have hRr := (hR.adv q).below hb hlt
  obtain ⟨wA, hwA⟩ : ∃ wA, wr.alloc (.cells #[.int .i64 0, .int .i64 0, .int .i64 0] 41) = wA := ⟨_, rfl⟩
  have hbA : Below wr.heap.size (adv wr r q) wA := by rw [adv_self hRr, ← hwA]; (repeat' (first | (with_reducible exact Below.refl _ _) | (with_reducible assumption) | (with_reducible refine Below.alloc ?_ ?_ _) | (with_reducible refine below_plus ?_ ?_ _ _) | (with_reducible refine Below.drew ?_) | (with_reducible refine Below.setCell ?_ ?_ _) | (with_reducible refine below_adv ?_ ?_ _) | go_size | (simp; done) | (simp; omega)))
  have hA : wA.heap[wr.heap.size]? = some (.cells #[.int .i64 0, .int .i64 0, .int .i64 0] 41 (0, 0)) := by rw [← hwA]; exact heap_alloc_new wr _
  obtain ⟨g, hg⟩ : ∃ g, wr.heap.size = g := ⟨_, rfl⟩
  rw [hg] at hA
  have hgl : r < g := by omega
  have PK := Lib.hid (fun (wx : World) (q' : Nat) (hbx : Below wr.heap.size (adv wr r q') wx) (m : Int) (h : q' ≤ 1000000) => pick_g wr wx r n c q q' A bs m hRr hbx h)
  have HBA := Lib.hid hbA
  have HA := Lib.hid hA
  have HB := Lib.hid hb
  have HG := Lib.hid hg
  clear hR hRr hbA hA hb
  go_enter Try.func35, Try.ntmps35
  go_wp2_with fail
  try rw [hwA]
  try simp only [hg]
  clear hwA hg
  refine (PK.out wA q HBA.out 9 (by omega)).mono ?_
  rintro e w1 ⟨k1, ⟨hk1, hk1', -⟩, rfl, hb1, hg1⟩
  have hk1b := hk1' (by omega)
  have h1 := (hg1.block g (lt_of_heap HA.out)).trans ((heap_adv _ _ _ _ (by omega)).trans HA.out)
  have H1 := Lib.hid h1
  have HB1 := Lib.hid hb1
  clear h1 hb1 hg1 hk1'
  go_wp2_with fail
  refine (PK.out w1 (q + 1) HB1.out 8 (by omega)).mono ?_
  rintro e w2 ⟨k2, ⟨hk2, hk2', -⟩, rfl, hb2, hg2⟩
  have hk2b := hk2' (by omega)
  have h2 := (hg2.block g (lt_of_heap H1.out)).trans ((heap_adv _ _ _ _ (by omega)).trans H1.out)
  have H2 := Lib.hid h2
  have HB2 := Lib.hid hb2
  clear h2 hb2 hg2 hk2'
  go_wp2_with fail
  refine (PK.out w2 (q + 1 + 1) HB2.out 30 (by omega)).mono ?_
  rintro e w3 ⟨k3, ⟨hk3, hk3', -⟩, rfl, hb3, hg3⟩
  have hk3b := hk3' (by omega)
  have h3 := (hg3.block g (lt_of_heap H2.out)).trans ((heap_adv _ _ _ _ (by omega)).trans H2.out)
  obtain ⟨c0, c1, c2, cf⟩ := call_cells h3
  have h4 := heap_setCell_same _ g 2 _ _ (.int .i64 k3) (heap_setCell_same _ g 1 _ _ (.int .i64 ((k1 + 1 + k2) % 9)) (heap_setCell_same _ g 0 _ _ (.int .i64 k1) h3))
  have hb4 := ((hb3.setCell (p := ⟨g, 0, none⟩) (Nat.le_of_eq HG.out) (.int .i64 k1)).setCell (p := ⟨g, 1, none⟩) (Nat.le_of_eq HG.out) (.int .i64 ((k1 + 1 + k2) % 9))).setCell (p := ⟨g, 2, none⟩) (Nat.le_of_eq HG.out) (.int .i64 k3)
  have H4 := Lib.hid h4
  have HB4 := Lib.hid hb4
  clear h3 hb3 hg3 hk3' h4 hb4
  go_wp2_with fail
  obtain ⟨w4, hw4⟩ : ∃ w4, ((w3.setCell ⟨g, 0, none⟩ (.int .i64 k1)).setCell ⟨g, 1, none⟩ (.int .i64 ((k1 + 1 + k2) % 9))).setCell ⟨g, 2, none⟩ (.int .i64 k3) = w4 := ⟨_, rfl⟩
  rw [hw4] at H4 HB4 ⊢
  clear c0 c1 c2 cf hw4
  obtain ⟨c0, c1, c2, cf⟩ := call_cells H4.out
  refine bodyPost_ret (v := .agg #[.int .i64 k1, .int .i64 ((k1 + 1 + k2) % 9), .int .i64 k3]) (by simp [results, Try.results35, go_sem, c0, c1, c2]; try rfl) rfl ?_
  have hbf : Below w.heap.size (adv w r (q + 3)) w4 := (below_adv2 HB.out (q + 3)).trans (HB4.out.mono hzr)
  exact ⟨k1, _, k3, rfl, hbf, HB4.out⟩
end Go.Proofs.Ytillmnhhkhjpkaa
