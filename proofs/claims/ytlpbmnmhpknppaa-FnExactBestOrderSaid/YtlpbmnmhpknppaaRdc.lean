/- The reader across a loop: the world of the loop is 'Below' the first world with the reader gone on. -/
import Derived.Test.YtlpbmnmhpknppaaRdb
import Derived.Test.YtlpbmnmhpknppaaOw
set_option linter.unusedVariables false
set_option linter.unusedSimpArgs false
namespace Go.Proofs.Ytlpbmnmhpknppaa
open Go.RowKit

theorem Rd.below {w w' : World} {r n c p B : Nat} {A : Option Addr} {bs : List Int} (h : Rd w r A n c bs p) (hb : Below B w w') (hB : r < B) : Rd w' r A n c bs p :=
  ⟨(hb.block r hB).trans h.1, h.2.1.below (hb.mono (Nat.le_of_lt hB)), h.2.2⟩

theorem below_setCell2 {B : Nat} {a b : World} (h : Below B a b) (x : Addr) (v : Value) : Below B (a.setCell x v) (b.setCell x v) := by
  obtain ⟨h1, h2, h3, h4, h5⟩ := h
  refine ⟨h1, h2, h3, by simpa [World.setCell] using h4, fun k hk => ?_⟩
  have := h5 k hk
  simp only [World.setCell, Array.getElem?_modify]
  rw [this]

theorem below_adv2 {B : Nat} {w wr : World} {r q : Nat} (h : Below B (adv w r q) wr) (q' : Nat) : Below B (adv w r q') (adv wr r q') := by
  have := below_setCell2 h ⟨r, 1, none⟩ (.int .i64 q')
  rw [show (adv w r q).setCell ⟨r, 1, none⟩ (.int .i64 q') = adv w r q' from adv_adv w r q q'] at this
  exact this

theorem grown_adv {w w1 : World} {r q : Nat} (h : Below w.heap.size (adv w r q) w1) : w.grownBy w1 (some r) := by
  have hs := h.size
  obtain ⟨h1, h2, h3, h4, h5⟩ := h
  refine ⟨h1, h2, h3, by simpa using hs, fun k hk hne => (h5 k hk).trans (heap_adv w r q k fun e => hne (by rw [e]))⟩

theorem own_go {w w1 : World} {r q base e k n : Nat} {v : Value} {xs : List Value} (h : w.ownsRow base e k v n xs) (hr : r < base) (hb : Below w.heap.size (adv w r q) w1) : w1.ownsRow base e k v n xs := by
  refine h.kept (grown_adv hb) (.inr fun hv => ?_)
  have := h.lt r hv
  omega

def PickedG (w wr : World) (r q : Nat) (m : Int) (e : Ending) (w1 : World) : Prop :=
  ∃ k, PickOk m k ∧ e = .returned (.int .i64 k) ∧ Below w.heap.size (adv w r (q + 1)) w1 ∧ Below wr.heap.size (adv wr r (q + 1)) w1

theorem pick_g (w wr : World) (r n c p q : Nat) (A : Option Addr) (bs : List Int) (m : Int) (hR : Rd w r A n c bs p) (hb : Below w.heap.size (adv w r q) wr) (hq : q ≤ 1000000) :
    Calls Try.prog 75 #[.pointer (some ⟨r, 0, none⟩), .int .i64 m] wr (PickedG w wr r q m) := by
  have hl := hR.lt
  refine (pick_c wr r n c q A bs m ((hR.adv q).below hb hl) hq).mono ?_
  rintro e w1 ⟨k, hk, rfl, os, d, rfl⟩
  have hs := hb.size
  simp only [size_adv] at hs
  have h2 := below_adv2 hb (q + 1)
  refine ⟨k, hk, rfl, below_plus h2 (by simpa using hs) _ _, below_plus (Below.refl _ _) (by simp) _ _⟩
end Go.Proofs.Ytlpbmnmhpknppaa
