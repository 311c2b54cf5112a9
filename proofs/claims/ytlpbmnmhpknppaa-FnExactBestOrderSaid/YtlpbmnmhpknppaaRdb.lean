/- The reader's one, and newReader. -/
import Derived.Test.YtlpbmnmhpknppaaRd
import Derived.Test.YtlpbmnmhpknppaaOpen
set_option linter.unusedVariables false
set_option linter.unusedSimpArgs false
namespace Go.Proofs.Ytlpbmnmhpknppaa
open Go.RowKit



theorem Sl.new {α : Type} (w : World) (f : α → Value) (xs : List α) (t : TypeId) (hx : xs.length ≤ 9223372036854775807) :
    Sl (w.alloc (.cells (xs.map f).toArray t)) (w.heap.size + 1) f (some ⟨w.heap.size, 0, none⟩) xs.length xs.length xs := by
  refine ⟨rfl, Nat.le_refl _, hx, fun _ => ⟨w.heap.size, 0, rfl, by omega, fun j x hj => ?_⟩⟩
  rw [Nat.zero_add, World.cell?_alloc_new]
  simp [hj]

def PickedOne (w : World) (r p : Nat) (xs : List Int) (e : Ending) (w' : World) : Prop :=
  ∃ x, x ∈ xs ∧ e = .returned (.int .i64 x) ∧ ∃ os d, plus (adv w r (p + 1)) os d = w'

theorem one_c (w : World) (r n c p : Nat) (A : Option Addr) (bs : List Int) (hR : Rd w r A n c bs p) (hp : p ≤ 1000000)
    (G : Option Addr) (m c' B : Nat) (xs : List Int) (hS : Sl w B ILit G m c' xs) (hm : 0 < m) (hm2 : m ≤ 1000000) (hg : ∀ b o, G = some ⟨b, o, none⟩ → b ≠ r) :
    Calls Try.prog 74 #[.pointer (some ⟨r, 0, none⟩), .slice G m c'] w (PickedOne w r p xs) := by
  go_enter Try.func74, Try.ntmps74
  go_wp2_with fail
  refine (pick_c w r n c p A bs _ hR hp).mono ?_
  rintro e w1 ⟨k, ⟨hk0, hk1, -⟩, rfl, os1, d1, rfl⟩
  have hk2 := hk1 (by omega)
  clear hk1
  obtain ⟨k, rfl⟩ := Int.eq_ofNat_of_zero_le hk0
  obtain ⟨b, o, x, rfl, hb, hx, hc⟩ := hS.at_ (k := k) (by omega)
  have hlt := World.block_lt_of_cell? w _ hc
  have hne := hg b o rfl
  have hc2 : (plus (adv w r (p + 1)) os1 d1).cell? ⟨b, o + k, none⟩ = some (.int .i64 x) := by
    rw [cell?_plus _ _ _ _ _ (by simpa using hlt), cell?_adv _ _ _ _ _ hne]
    exact hc
  have hmem := List.mem_of_getElem? hx
  clear hx hS hg hc
  go_wp2
  go_ret
  exact ⟨x, hmem, rfl, os1, d1, rfl⟩

/-- 'one' over a list literal that was just built: the list lies in the last block. -/
theorem one_lit_c (X : World) (r n c p : Nat) (A : Option Addr) (bs : List Int) (cs : Array Value) (t : TypeId) (g m : Nat) (xs : List Int)
    (hcs : cs = (xs.map ILit).toArray) (hm : xs.length = m) (hm0 : 0 < m) (hm1 : m ≤ 1000000) (hR : Rd X r A n c bs p) (hp : p ≤ 1000000) (hg : g = X.heap.size) :
    Calls Try.prog 74 #[.pointer (some ⟨r, 0, none⟩), .slice (some ⟨g, 0, none⟩) m m] (X.alloc (.cells cs t)) (PickedOne (X.alloc (.cells cs t)) r p xs) := by
  subst hcs hg
  have hS := Sl.new X ILit xs t (by omega)
  rw [hm] at hS
  have hlt := hR.lt
  exact one_c _ r n c p A bs (hR.alloc _) hp _ _ _ _ xs hS hm0 hm1 (fun b o hb => by
    simp only [Option.some.injEq, Addr.mk.injEq] at hb
    omega)

/-- What newReader leaves: a new block with the reader at 0. -/
def NewR (w : World) (e : Ending) (w' : World) : Prop :=
  ∃ r A n c bs, e = .returned (.pointer (some ⟨r, 0, none⟩)) ∧ w.alloc (.cells #[.slice A n c, .int .i64 0] 66) = w' ∧ Rd w' r A n c bs 0 ∧ w.heap.size ≤ r ∧ r < w.heap.size + 1

theorem newR_mk {w : World} {A : Option Addr} {n c : Nat} {bs : List Int} (h : Sl w w.heap.size BLit A n c bs) (hn : n ≤ 2000) (hb : ∀ x ∈ bs, 0 ≤ x ∧ x ≤ 255) :
    NewR w (.returned (.pointer (some ⟨w.heap.size, 0, none⟩))) (w.alloc (.cells #[.slice A n c, .int .i64 0] 66)) :=
  ⟨w.heap.size, A, n, c, bs, rfl, rfl, ⟨heap_alloc_new w _, h.alloc (Nat.le_refl _) _, hn, hb⟩, Nat.le_refl _, by omega⟩

theorem newReader_c (w : World) (A : Option Addr) (n c B : Nat) (bs : List Int) (h0 : Sl w B BLit A n c bs) (hB : B ≤ w.heap.size) (hb : ∀ x ∈ bs, 0 ≤ x ∧ x ≤ 255) :
    Calls Try.prog 51 #[.slice A n c] w (NewR w) := by
  have h := h0.more hB
  have hcap := h.cap
  by_cases hn : 2000 < n
  · have h2 := h.take (k := 2000) (by omega)
    have hb2 : ∀ x ∈ bs.take 2000, 0 ≤ x ∧ x ≤ 255 := fun x hx => hb x (List.mem_of_mem_take hx)
    obtain ⟨hca, hcb⟩ := hcap
    obtain ⟨b, o, x, rfl, -⟩ := h.at_ (k := 0) (by omega)
    clear h hb h0
    go_enter Try.func51, Try.ntmps51
    go_wp2
    go_ret
    exact newR_mk h2 (by omega) hb2
  · obtain ⟨hca, hcb⟩ := hcap
    go_enter Try.func51, Try.ntmps51
    go_wp2
    go_ret
    exact newR_mk h (by omega) hb
end Go.Proofs.Ytlpbmnmhpknppaa
