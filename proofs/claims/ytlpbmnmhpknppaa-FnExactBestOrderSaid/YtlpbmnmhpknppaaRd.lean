/- The reader of the generators: its state in memory, and pick, one, newReader. -/
import Derived.Test.YtlpbmnmhpknppaaRows
import Derived.Test.YtlpbmnmhpknppaaData
import Derived.Handy
import Derived.Outline
import Derived.Lib.Hide
import Derived.BigQuiet
import Derived.Deep.QuietTactic
import Derived.Laws.BitsAllLaws
set_option linter.unusedVariables false
set_option linter.unusedSimpArgs false
namespace Go.Proofs.Ytlpbmnmhpknppaa
open Go.RowKit

def BLit (x : Int) : Value := .int .u8 x

/-- The reader in block r: the bytes bs, and p numbers picked. -/
def Rd (w : World) (r : Nat) (A : Option Addr) (n c : Nat) (bs : List Int) (p : Nat) : Prop :=
  w.heap[r]? = some (.cells #[.slice A n c, .int .i64 p] 66 (0, 0)) ∧ Sl w r BLit A n c bs ∧ n ≤ 2000 ∧ ∀ x ∈ bs, 0 ≤ x ∧ x ≤ 255

section
variable {w : World} {r n c p : Nat} {A : Option Addr} {bs : List Int}
theorem Rd.lt (h : Rd w r A n c bs p) : r < w.heap.size := by
  rcases Nat.lt_or_ge r w.heap.size with hl | hl
  · exact hl
  · have := h.1
    rw [Array.getElem?_eq_none hl] at this
    cases this
theorem Rd.cell0 (h : Rd w r A n c bs p) : w.cell? ⟨r, 0, none⟩ = some (.slice A n c) := by simp [World.cell?, h.1]
theorem Rd.cell1 (h : Rd w r A n c bs p) : w.cell? ⟨r, 1, none⟩ = some (.int .i64 p) := by simp [World.cell?, h.1]
theorem Rd.free (h : Rd w r A n c bs p) (i : Nat) : w.frozen? ⟨r, i, none⟩ = false := by simp [World.frozen?, h.1]
theorem Rd.alloc (h : Rd w r A n c bs p) (o : Obj) : Rd (w.alloc o) r A n c bs p :=
  ⟨(Below.heap_alloc w o r h.lt).trans h.1, h.2.1.alloc (Nat.le_of_lt h.lt) o, h.2.2⟩
theorem Rd.plus (h : Rd w r A n c bs p) (os : Array Obj) (d : Nat) : Rd (plus w os d) r A n c bs p :=
  ⟨(heap_plus w os d r h.lt).trans h.1, h.2.1.plus (Nat.le_of_lt h.lt) os d, h.2.2⟩
theorem Rd.drew (h : Rd w r A n c bs p) : Rd w.drew r A n c bs p := h
theorem Rd.drewN (h : Rd w r A n c bs p) (k : Nat) : Rd (w.drewN k) r A n c bs p := h
theorem Rd.setCell (h : Rd w r A n c bs p) {b i : Nat} (hb : r < b) (u : Value) : Rd (w.setCell ⟨b, i, none⟩ u) r A n c bs p :=
  ⟨(Below.heap_setCell w _ u r (by simp; omega)).trans h.1, h.2.1.setCell (by simp; omega) u, h.2.2⟩
theorem Rd.adv (h : Rd w r A n c bs p) (q : Nat) : Rd (adv w r q) r A n c bs q := by
  refine ⟨?_, h.2.1.keep fun b i hb => cell?_adv w r q b i (by omega), h.2.2⟩
  exact (heap_setCell_same w r 1 _ _ _ h.1).trans (by simp)
end

/-- The reader, wherever it has come to. -/
def RdX (w : World) (r : Nat) (A : Option Addr) (n c : Nat) (bs : List Int) : Prop := ∃ p, Rd w r A n c bs p
theorem RdX.of {w : World} {r n c p : Nat} {A : Option Addr} {bs : List Int} (h : Rd w r A n c bs p) : RdX w r A n c bs := ⟨p, h⟩
theorem RdX.to {w : World} {r n c : Nat} {A : Option Addr} {bs : List Int} (h : RdX w r A n c bs) (q : Nat) : Rd (adv w r q) r A n c bs q := by
  obtain ⟨p, h⟩ := h
  exact h.adv q
theorem RdX.adv {w : World} {r n c : Nat} {A : Option Addr} {bs : List Int} (h : RdX w r A n c bs) (q : Nat) : RdX (adv w r q) r A n c bs := ⟨q, h.to q⟩
theorem RdX.alloc {w : World} {r n c : Nat} {A : Option Addr} {bs : List Int} (h : RdX w r A n c bs) (o : Obj) : RdX (w.alloc o) r A n c bs := by
  obtain ⟨p, h⟩ := h
  exact ⟨p, h.alloc o⟩
theorem RdX.plus {w : World} {r n c : Nat} {A : Option Addr} {bs : List Int} (h : RdX w r A n c bs) (os : Array Obj) (d : Nat) : RdX (plus w os d) r A n c bs := by
  obtain ⟨p, h⟩ := h
  exact ⟨p, h.plus os d⟩

theorem adv_self {w : World} {r n c p : Nat} {A : Option Addr} {bs : List Int} (h : Rd w r A n c bs p) : adv w r p = w := by
  obtain ⟨h1, -⟩ := h
  unfold adv World.setCell
  cases w with
  | mk heap tape drawn os output =>
    simp only at h1
    congr 1
    apply Array.ext_getElem?
    intro k
    simp only [Array.getElem?_modify]
    split
    · subst_vars
      simp [h1]
    · rfl

/-- What pick gives: a number in 0..m-1, or 0. -/
def PickOk (m k : Int) : Prop := 0 ≤ k ∧ (1 ≤ m → k < m) ∧ (m < 1 → k = 0)

theorem ofInt_i64' (a : Nat) (ha : a < 9223372036854775808) : (BitVec.ofInt 64 (a : Int)).toNat = a := by
  rw [BitVec.ofInt_natCast, BitVec.toNat_ofNat]; exact Nat.mod_eq_of_lt (by omega)
theorem xor_i64 (a b : Int) (ha : 0 ≤ a) (hb : 0 ≤ b) (ha' : a < 1099511627776) (hb' : b < 1099511627776) :
    ∃ x : Int, bits .xor .i64 a b = x ∧ 0 ≤ x ∧ x < 1099511627776 := by
  obtain ⟨m, rfl⟩ := Int.eq_ofNat_of_zero_le ha
  obtain ⟨n, rfl⟩ := Int.eq_ofNat_of_zero_le hb
  have hx : m ^^^ n < 2 ^ 40 := Nat.xor_lt_two_pow (by omega) (by omega)
  have e : bits .xor .i64 (m : Int) (n : Int) = ((m ^^^ n : Nat) : Int) := by
    show IntKind.i64.wrap ((BitVec.ofInt 64 (m : Int) ^^^ BitVec.ofInt 64 (n : Int)).toNat : Int) = _
    rw [BitVec.toNat_xor, ofInt_i64' m (by omega), ofInt_i64' n (by omega), IntKind.wrap_i64]
    omega
  exact ⟨_, e, by omega, by omega⟩

theorem Sl.byte {w : World} {B n c : Nat} {A : Option Addr} {bs : List Int} (h : Sl w B BLit A n c bs) (hb : ∀ x ∈ bs, 0 ≤ x ∧ x ≤ 255) {k : Nat} (hk : k < n) :
    ∃ b o x, A = some ⟨b, o, none⟩ ∧ b < B ∧ 0 ≤ x ∧ x ≤ 255 ∧ w.cell? ⟨b, o + k, none⟩ = some (.int .u8 x) := by
  obtain ⟨b, o, x, h1, h2, h3, h4⟩ := h.at_ hk
  have := hb x (List.mem_of_getElem? h3)
  exact ⟨b, o, x, h1, h2, this.1, this.2, h4⟩

def Picked (w : World) (r p : Nat) (m : Int) (e : Ending) (w' : World) : Prop :=
  ∃ k, PickOk m k ∧ e = .returned (.int .i64 k) ∧ ∃ os d, plus (adv w r (p + 1)) os d = w'

theorem picked_mk {w : World} {r p : Nat} {m k : Int} {q : Int} (hk : PickOk m k) (hq : q = (p : Int) + 1) (d : Nat) :
    Picked w r p m (.returned (.int .i64 k)) ((w.setCell ⟨r, 1, none⟩ (.int .i64 q)).drewN d) := by
  refine ⟨k, hk, rfl, #[], w.drawn + d, ?_⟩
  subst hq
  simp [plus, adv, World.drewN, World.setCell]

theorem pickOk_mod (x : Int) {m : Int} (hm : ¬ m < 1) : PickOk m (x % m) :=
  ⟨Int.emod_nonneg _ (by omega), fun _ => Int.emod_lt_of_pos _ (by omega), fun h => absurd h hm⟩

set_option maxHeartbeats 2000000 in
theorem pick_c (w : World) (r n c p : Nat) (A : Option Addr) (bs : List Int) (m : Int) (hR : Rd w r A n c bs p) (hp : p ≤ 1000000) :
    Calls Try.prog 75 #[.pointer (some ⟨r, 0, none⟩), .int .i64 m] w (Picked w r p m) := by
  have h0 := hR.cell0
  have h1 := hR.cell1
  have hf := hR.free 1
  have hs := hR.2.1
  have hbs := hR.2.2.2
  have hn2 := hR.2.2.1
  clear hR
  by_cases hm : m < 1
  · go_enter Try.func75, Try.ntmps75
    go_wp2
    go_ret
    exact picked_mk ⟨by omega, by omega, by omega⟩ rfl 0
  by_cases hn : n = 0
  · subst hn
    go_enter Try.func75, Try.ntmps75
    go_wp2
    go_ret
    exact picked_mk ⟨by omega, by omega, by omega⟩ rfl 0
  have hnz : ((n : Int) == 0) = false := by simp; omega
  have hb : ∀ q : Int, w.cell? ⟨r, 0, none⟩ = some (.slice A n c) → (w.setCell ⟨r, 1, none⟩ (.int .i64 q)).cell? ⟨r, 0, none⟩ = some (.slice A n c) := fun q h => by
    rw [World.cell?_setCell_other w _ _ _ (by simp)]; exact h
  by_cases hk : p < n
  · obtain ⟨b, o, x, rfl, hbr, hx0, hx1, hc⟩ := hs.byte hbs hk
    have hc2 : (w.setCell ⟨r, 1, none⟩ (.int .i64 ((p : Int) + 1))).cell? ⟨b, o + p, none⟩ = some (.int .u8 x) := by
      rw [World.cell?_setCell_other w _ _ _ (fun e => by simp at e)]; exact hc
    clear hs hbs hc
    go_enter Try.func75, Try.ntmps75
    go_wp2
    go_ret
    exact picked_mk (pickOk_mod x (by omega)) rfl 0
  · obtain ⟨b, o, x1, rfl, hbr, hx0, hx1, hc1⟩ := hs.byte hbs (k := p % n) (Nat.mod_lt _ (by omega))
    obtain ⟨b', o', x2, hA, hbr', hy0, hy1, hc2⟩ := hs.byte hbs (k := (p * 7 + 3) % n) (Nat.mod_lt _ (by omega))
    simp only [Option.some.injEq, Addr.mk.injEq, and_true] at hA
    obtain ⟨rfl, rfl⟩ := hA
    have hd1 : (w.setCell ⟨r, 1, none⟩ (.int .i64 ((p : Int) + 1))).cell? ⟨b, o + p % n, none⟩ = some (.int .u8 x1) := by
      rw [World.cell?_setCell_other w _ _ _ (fun e => by simp at e)]; exact hc1
    have hd2 : (w.setCell ⟨r, 1, none⟩ (.int .i64 ((p : Int) + 1))).cell? ⟨b, o + (p * 7 + 3) % n, none⟩ = some (.int .u8 x2) := by
      rw [World.cell?_setCell_other w _ _ _ (fun e => by simp at e)]; exact hc2
    clear hs hbs hc1 hc2
    have l1 : p % n < n := Nat.mod_lt _ (by omega)
    have l2 : (p * 7 + 3) % n < n := Nat.mod_lt _ (by omega)
    have l3 : p / n ≤ p := Nat.div_le_self _ _
    have t1 : ((p : Int)).tmod (n : Int) = ((p % n : Nat) : Int) := rfl
    have t2 : ((p : Int) * 7 + 3).tmod (n : Int) = (((p * 7 + 3) % n : Nat) : Int) := rfl
    have t3 : ((p : Int)).tdiv (n : Int) = ((p / n : Nat) : Int) := rfl
    obtain ⟨i1, hi1⟩ : ∃ i1, i1 = p % n := ⟨_, rfl⟩
    obtain ⟨i2, hi2⟩ : ∃ i2, i2 = (p * 7 + 3) % n := ⟨_, rfl⟩
    obtain ⟨i3, hi3⟩ : ∃ i3, i3 = p / n := ⟨_, rfl⟩
    rw [← hi1] at l1 t1 hd1
    rw [← hi2] at l2 t2 hd2
    rw [← hi3] at l3 t3
    clear hi1 hi2 hi3
    have z1 : (i1 : Int) < (n : Int) := by omega
    have z2 : (i2 : Int) < (n : Int) := by omega
    have u1 : IntKind.i64.wrap ((i1 : Nat) : Int) = i1 := IntWalk.i64_in _ (by omega)
    have u2 : IntKind.i64.wrap ((i2 : Nat) : Int) = i2 := IntWalk.i64_in _ (by omega)
    have u3 : IntKind.i64.wrap ((i3 : Nat) : Int) = i3 := IntWalk.i64_in _ (by omega)
    have u4 : IntKind.i64.wrap ((p : Int) * 7) = (p : Int) * 7 := IntWalk.i64_in _ (by omega)
    have u5 : IntKind.i64.wrap ((p : Int) * 7 + 3) = (p : Int) * 7 + 3 := IntWalk.i64_in _ (by omega)
    have u6 : IntKind.i64.wrap x1 = x1 := IntWalk.i64_in _ (by omega)
    have u7 : IntKind.i64.wrap x2 = x2 := IntWalk.i64_in _ (by omega)
    have u8 : IntKind.i64.wrap (x1 * 131) = x1 * 131 := IntWalk.i64_in _ (by omega)
    have u9 : IntKind.i64.wrap (x2 * 1117) = x2 * 1117 := IntWalk.i64_in _ (by omega)
    have ua : IntKind.i64.wrap (x1 * 131 + x2 * 1117) = x1 * 131 + x2 * 1117 := IntWalk.i64_in _ (by omega)
    have ub : IntKind.i64.wrap ((p : Int) * 29) = (p : Int) * 29 := IntWalk.i64_in _ (by omega)
    have uc : IntKind.i64.wrap (x1 * 131 + x2 * 1117 + (p : Int) * 29) = x1 * 131 + x2 * 1117 + (p : Int) * 29 := IntWalk.i64_in _ (by omega)
    have ud : IntKind.i64.wrap ((i3 : Int) * 53) = (i3 : Int) * 53 := IntWalk.i64_in _ (by omega)
    have ue : IntKind.i64.wrap (x1 * 131 + x2 * 1117 + (p : Int) * 29 + (i3 : Int) * 53) = x1 * 131 + x2 * 1117 + (p : Int) * 29 + (i3 : Int) * 53 := IntWalk.i64_in _ (by omega)
    go_enter Try.func75, Try.ntmps75
    go_wp2
    go_quiet (fail)
    clear t1 t2 t3 u1 u2 u3 u4 u5 u6 u7 u8 u9 ua ub uc ud ue
    obtain ⟨X, hX⟩ : ∃ X, X = x1 * 131 + x2 * 1117 + (p : Int) * 29 + (i3 : Int) * 53 := ⟨_, rfl⟩
    have hX0 : 0 ≤ X := by omega
    have hX1 : X < 1099511627776 := by omega
    rw [← hX]
    clear hX
    obtain ⟨y, hy, hy0, hy1⟩ := xor_i64 X (X / 64) hX0 (by omega) hX1 (by omega)
    go_wp2
    go_ret
    exact picked_mk (pickOk_mod y (by omega)) rfl _
end Go.Proofs.Ytlpbmnmhpknppaa
