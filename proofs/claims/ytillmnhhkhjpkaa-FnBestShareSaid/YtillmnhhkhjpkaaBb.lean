/- My words and contracts, laid together: Hb, Hi, In, Il, App, Apa, Stp, Ins, Fr, Frb. -/
import Derived.Test.YtillmnhhkhjpkaaRows
import Derived.Test.YtillmnhhkhjpkaaBa
import Derived.Handy
import Derived.Lib.Hide
import Derived.Laws.OwnMore
import Derived.Laws.AppendOwn
import Derived.Maps.AppendAt
import Derived.Deep.RegionHeld3
import Derived.Deep.AppendLies
import Derived.Deep.DrawnRows
set_option linter.unusedVariables false
set_option linter.unusedSimpArgs false
/- The laws' helpers on []bool: toBoolS, eqBoolS, markBoolS, heldBoolS. -/
namespace Go.Proofs.Ytillmnhhkhjpkaa
open Go.RowKit

theorem info_bool : (Try.prog.info? 4).map (fun i => (i.zero, i.size, i.bytes)) = some (some (.bool false), 1, 1) := by kernel_rfl




end Go.Proofs.Ytillmnhhkhjpkaa

/- The laws' helpers on []int: toIntS, eqIntS, markIntS, heldIntS. -/
namespace Go.Proofs.Ytillmnhhkhjpkaa
open Go.RowKit

theorem info_int : (Try.prog.info? 3).map (fun i => (i.zero, i.size, i.bytes)) = some (some (.int .i64 0), 1, 8) := by kernel_rfl




end Go.Proofs.Ytillmnhhkhjpkaa

/- Ranges and lists: within, allWithin, inRange, allIn, isIn. -/
namespace Go.Proofs.Ytillmnhhkhjpkaa
open Go.RowKit

def inB (x lo hi : Int) : Bool := decide (lo ≤ x) && decide (x ≤ hi)
def allB (xs : List Int) (lo hi : Int) : Bool := xs.all fun x => inB x lo hi
theorem allB_bad {xs : List Int} {k : Nat} {x lo hi : Int} (h : xs[k]? = some x) (hx : inB x lo hi = false) : allB xs lo hi = false := by
  rw [allB, List.all_eq_false]
  exact ⟨x, List.mem_of_getElem? h, by simp [hx]⟩
theorem allB_snoc {xs : List Int} {k : Nat} {x lo hi : Int} (h : xs[k]? = some x) (hx : inB x lo hi = true) (h0 : allB (xs.take k) lo hi = true) : allB (xs.take (k + 1)) lo hi = true := by
  rw [allB] at h0 ⊢
  rw [take_snoc h, List.all_append, h0]
  simp [hx]
theorem allB_all {xs : List Int} {lo hi : Int} (h : allB xs lo hi = true) : ∀ x ∈ xs, lo ≤ x ∧ x ≤ hi := fun x hx => by
  have := List.all_eq_true.1 h x hx
  simp only [inB, Bool.and_eq_true, decide_eq_true_eq] at this
  exact this

theorem within_c (x lo hi : Int) (w : World) :
    Calls Try.prog 33 #[.int .i64 x, .int .i64 lo, .int .i64 hi] w fun e w' => e = .returned (.bool (inB x lo hi)) ∧ w = w' := by
  by_cases h : lo ≤ x
  · go_enter Try.func33, Try.ntmps33
    go_wp2
    go_ret
    exact ⟨by simp [inB, h], rfl⟩
  · have h2 : decide (lo ≤ x) = false := by simpa using h
    go_enter Try.func33, Try.ntmps33
    go_wp2
    go_ret
    exact ⟨by simp [inB, h2], rfl⟩
theorem inRange_c (x lo hi : Int) (w : World) :
    Calls Try.prog 39 #[.int .i64 x, .int .i64 lo, .int .i64 hi] w fun e w' => e = .returned (.bool (inB x lo hi)) ∧ w = w' := by
  by_cases h : lo ≤ x
  · go_enter Try.func39, Try.ntmps39
    go_wp2
    go_ret
    exact ⟨by simp [inB, h], rfl⟩
  · have h2 : decide (lo ≤ x) = false := by simpa using h
    go_enter Try.func39, Try.ntmps39
    go_wp2
    go_ret
    exact ⟨by simp [inB, h2], rfl⟩
theorem allWithin_c (A : Option Addr) (n c : Nat) (xs : List Int) (lo hi : Int) (w : World) (B : Nat) (hS : Sl w B ILit A n c xs) (hB : B ≤ w.heap.size) (hn : n ≤ 1099511627776) :
    Calls Try.prog 20 #[.slice A n c, .int .i64 lo, .int .i64 hi] w fun e w' => e = .returned (.bool (allB xs lo hi)) ∧ Below w.heap.size w w' := by
  obtain ⟨hc0, hc1⟩ := hS.cap
  have HL := Lib.hid hS.len
  have hS1 := hS.more hB
  clear hS
  go_enter Try.func20, Try.ntmps20
  go_wp2_with fail
  go_loopw [11] (fun i wr => ∃ (k : Nat), k ≤ n ∧ i = .int .i64 k ∧ Hid (allB (xs.take k) lo hi = true) ∧ Below w.heap.size w wr) (fun i _ => n - (intOf i).toNat)
  case atStart => exact ⟨0, by omega, rfl, Lib.hid rfl, by (repeat' (first | (with_reducible exact Below.refl _ _) | (with_reducible assumption) | (with_reducible refine Below.alloc ?_ ?_ _) | (with_reducible refine below_plus ?_ ?_ _ _) | (with_reducible refine Below.drew ?_) | (with_reducible refine Below.setCell ?_ ?_ _) | (with_reducible refine below_adv ?_ ?_ _) | go_size | (simp; done) | (simp; omega)))⟩
  case round =>
    obtain ⟨k, hk, rfl, hall, hb⟩ := hrel
    have hS2 := hS1.below hb
    by_cases hlt : k < n
    · obtain ⟨b, o, x, rfl, hbl, hx, hcell⟩ := hS2.at_ hlt
      have hcell' : wr.cell? ⟨b, o + k, none⟩ = some (.int .i64 x) := hcell
      have cw := fun w => within_c x lo hi w
      clear hcell hS2 hS1
      cases hp : inB x lo hi
      · rw [hp] at cw
        have CW := Lib.hid cw
        have CA := Lib.hid (allB_bad hx hp)
        clear cw hx hp
        go_wp2_with (go_at_call 33; refine (CW.out _).mono ?_; rintro e w' ⟨rfl, rfl⟩)
        go_ret
        exact ⟨by rw [CA.out]; rfl, by (repeat' (first | (with_reducible exact Below.refl _ _) | (with_reducible assumption) | (with_reducible refine Below.alloc ?_ ?_ _) | (with_reducible refine below_plus ?_ ?_ _ _) | (with_reducible refine Below.drew ?_) | (with_reducible refine Below.setCell ?_ ?_ _) | (with_reducible refine below_adv ?_ ?_ _) | go_size | (simp; done) | (simp; omega)))⟩
      · rw [hp] at cw
        have CW := Lib.hid cw
        have CA := Lib.hid (allB_snoc hx hp hall.out)
        clear cw hx hp
        go_wp2_with (go_at_call 33; refine (CW.out _).mono ?_; rintro e w' ⟨rfl, rfl⟩)
        go_roundw
        case rel => exact ⟨k + 1, by omega, by go_num, CA, by (repeat' (first | (with_reducible exact Below.refl _ _) | (with_reducible assumption) | (with_reducible refine Below.alloc ?_ ?_ _) | (with_reducible refine below_plus ?_ ?_ _ _) | (with_reducible refine Below.drew ?_) | (with_reducible refine Below.setCell ?_ ?_ _) | (with_reducible refine below_adv ?_ ?_ _) | go_size | (simp; done) | (simp; omega)))⟩
        case measure => simp [intOf]; omega
    · obtain rfl : k = n := by omega
      have e : allB xs lo hi = true := by
        have := hall.out
        rwa [List.take_of_length_le (by rw [HL.out]; omega)] at this
      have CE := Lib.hid e
      clear e
      go_wp2_with fail
      go_ret
      exact ⟨by rw [CE.out]; rfl, by (repeat' (first | (with_reducible exact Below.refl _ _) | (with_reducible assumption) | (with_reducible refine Below.alloc ?_ ?_ _) | (with_reducible refine below_plus ?_ ?_ _ _) | (with_reducible refine Below.drew ?_) | (with_reducible refine Below.setCell ?_ ?_ _) | (with_reducible refine below_adv ?_ ?_ _) | go_size | (simp; done) | (simp; omega)))⟩
theorem allIn_c (A : Option Addr) (n c : Nat) (xs : List Int) (lo hi : Int) (w : World) (B : Nat) (hS : Sl w B ILit A n c xs) (hB : B ≤ w.heap.size) (hn : n ≤ 1099511627776) :
    Calls Try.prog 31 #[.slice A n c, .int .i64 lo, .int .i64 hi] w fun e w' => e = .returned (.bool (allB xs lo hi)) ∧ Below w.heap.size w w' := by
  obtain ⟨hc0, hc1⟩ := hS.cap
  have HL := Lib.hid hS.len
  have hS1 := hS.more hB
  clear hS
  go_enter Try.func31, Try.ntmps31
  go_wp2_with fail
  go_loopw [7] (fun i wr => ∃ (k : Nat), k ≤ n ∧ i = .int .i64 k ∧ Hid (allB (xs.take k) lo hi = true) ∧ Below w.heap.size w wr) (fun i _ => n - (intOf i).toNat)
  case atStart => exact ⟨0, by omega, rfl, Lib.hid rfl, by (repeat' (first | (with_reducible exact Below.refl _ _) | (with_reducible assumption) | (with_reducible refine Below.alloc ?_ ?_ _) | (with_reducible refine below_plus ?_ ?_ _ _) | (with_reducible refine Below.drew ?_) | (with_reducible refine Below.setCell ?_ ?_ _) | (with_reducible refine below_adv ?_ ?_ _) | go_size | (simp; done) | (simp; omega)))⟩
  case round =>
    obtain ⟨k, hk, rfl, hall, hb⟩ := hrel
    have hS2 := hS1.below hb
    by_cases hlt : k < n
    · obtain ⟨b, o, x, rfl, hbl, hx, hcell⟩ := hS2.at_ hlt
      have hcell' : wr.cell? ⟨b, o + k, none⟩ = some (.int .i64 x) := hcell
      have cw := fun w => inRange_c x lo hi w
      clear hcell hS2 hS1
      cases hp : inB x lo hi
      · rw [hp] at cw
        have CW := Lib.hid cw
        have CA := Lib.hid (allB_bad hx hp)
        clear cw hx hp
        go_wp2_with (go_at_call 39; refine (CW.out _).mono ?_; rintro e w' ⟨rfl, rfl⟩)
        go_ret
        exact ⟨by rw [CA.out]; rfl, by (repeat' (first | (with_reducible exact Below.refl _ _) | (with_reducible assumption) | (with_reducible refine Below.alloc ?_ ?_ _) | (with_reducible refine below_plus ?_ ?_ _ _) | (with_reducible refine Below.drew ?_) | (with_reducible refine Below.setCell ?_ ?_ _) | (with_reducible refine below_adv ?_ ?_ _) | go_size | (simp; done) | (simp; omega)))⟩
      · rw [hp] at cw
        have CW := Lib.hid cw
        have CA := Lib.hid (allB_snoc hx hp hall.out)
        clear cw hx hp
        go_wp2_with (go_at_call 39; refine (CW.out _).mono ?_; rintro e w' ⟨rfl, rfl⟩)
        go_roundw
        case rel => exact ⟨k + 1, by omega, by go_num, CA, by (repeat' (first | (with_reducible exact Below.refl _ _) | (with_reducible assumption) | (with_reducible refine Below.alloc ?_ ?_ _) | (with_reducible refine below_plus ?_ ?_ _ _) | (with_reducible refine Below.drew ?_) | (with_reducible refine Below.setCell ?_ ?_ _) | (with_reducible refine below_adv ?_ ?_ _) | go_size | (simp; done) | (simp; omega)))⟩
        case measure => simp [intOf]; omega
    · obtain rfl : k = n := by omega
      have e : allB xs lo hi = true := by
        have := hall.out
        rwa [List.take_of_length_le (by rw [HL.out]; omega)] at this
      have CE := Lib.hid e
      clear e
      go_wp2_with fail
      go_ret
      exact ⟨by rw [CE.out]; rfl, by (repeat' (first | (with_reducible exact Below.refl _ _) | (with_reducible assumption) | (with_reducible refine Below.alloc ?_ ?_ _) | (with_reducible refine below_plus ?_ ?_ _ _) | (with_reducible refine Below.drew ?_) | (with_reducible refine Below.setCell ?_ ?_ _) | (with_reducible refine below_adv ?_ ?_ _) | go_size | (simp; done) | (simp; omega)))⟩
end Go.Proofs.Ytillmnhhkhjpkaa

/- laws.isIn, walked. -/
namespace Go.Proofs.Ytillmnhhkhjpkaa
open Go.RowKit

end Go.Proofs.Ytillmnhhkhjpkaa

/- A slice appended to the call's own row; copyInts; spoil. -/
namespace Go.Proofs.Ytillmnhhkhjpkaa
open Go.RowKit

/-- Sl across the reader's step: its block is another one. -/
theorem Sl.adv {α : Type} {w : World} {B n c r q : Nat} {f : α → Value} {A : Option Addr} {xs : List α} (h : Sl w B f A n c xs) (hne : 0 < n → ∀ b o, A = some ⟨b, o, none⟩ → b ≠ r) : Sl (adv w r q) B f A n c xs := by
  obtain ⟨h1, h2, h3, h4⟩ := h
  refine ⟨h1, h2, h3, fun hn => ?_⟩
  obtain ⟨b, o, hA, hb, hc⟩ := h4 hn
  exact ⟨b, o, hA, hb, fun j x hx => (cell?_adv w r q b (o + j) (hne hn b o hA)).trans (hc j x hx)⟩

theorem run_append_none_c {P : Program} {w : World} (base : Nat) (t ty e : TypeId) (i : TypeInfo) (size : Nat) (ht : P.underlying t = some (.slice e)) (hi : P.info? e = some i)
    (v : Value) (n c : Nat) (xs : List Value) (hown : w.ownsRow base e size v n xs) :
    (Builtin.append_ #[t, t] ty #[v, .slice none 0 c]).run P w = .ok v w := by
  rcases hown.2 with ⟨rfl, rfl⟩ | ⟨g, cap, cur, rfl, _, _, hnc, _⟩
  · simp [Builtin.append_, run_underlying ht, sizeOf, typeInfo, hi, Builtin.lenOf, Builtin.firstCells]
  · simp [Builtin.append_, run_underlying ht, sizeOf, typeInfo, hi, Builtin.lenOf, Builtin.firstCells, hnc, storeCells]

theorem wpList_appS {P : Program} {α : Type} (w0 w : World) {ops : Array Oper} {rest : List Oper} {o : Oper} {a : Act} {Q : Exit → Act → World → Prop} (hgd : o.guard = none) (s x : Operand) (t : TypeId)
    (ho : o.op = .call { callee := .builtin .append, args := #[s, x], argTypes := #[t, t] })
    (e : TypeId) (i : TypeInfo) (z : Value) (bytes : Nat) (ht : P.underlying t = some (.slice e)) (hi : P.info? e = some i) (hz : i.zero = some z) (hsize : i.size = 1) (hby : i.bytes = bytes) (hzs : z.cells.size = 1) (hbb : bytes ≤ 64)
    (base : Nat) (v : Value) (n : Nat) (xs : List Value) (hs : a.eval s = v) (hown : w.ownsRow base e 1 v n xs)
    (A : Option Addr) (m c B : Nat) (f : α → Value) (ys : List α) (hx : a.eval x = .slice A m c) (hSl : Sl w B f A m c ys) (h1 : ∀ y, (f y).oneCell' = true)
    (hn : n ≤ 1099511627776) (hm : m ≤ 1099511627776) (hb : Below base w0 w) (hB : base ≤ w.heap.size)
    (h : ∀ v' w1, w1.ownsRow base e 1 v' (n + m) (xs ++ ys.map f) → Below base w0 w1 → w.grownBy w1 v.ownBlock → wpList P ops Q rest (a.put o.dst v') w1) : wpList P ops Q (o :: rest) a w := by
  have hlen := hSl.len
  have hbyt : (n + m) * bytes ≤ 140737488355328 := by
    have : (n + m) * bytes ≤ (1099511627776 + 1099511627776) * 64 := Nat.mul_le_mul (by omega) hbb
    omega
  have h63 : n + m ≤ maxLen := by unfold maxLen; omega
  cases A with
  | none =>
    have hm0 : m = 0 := by
      rcases Nat.eq_zero_or_pos m with h0 | h0
      · exact h0
      · obtain ⟨b, o, hA, -⟩ := hSl.2.2.2 h0
        cases hA
    subst hm0
    have hys : ys = [] := List.eq_nil_of_length_eq_zero hlen
    subst hys
    refine wpList_plain hgd fun K hK => ?_
    have hrun := run_append_none_c (P := P) (w := w) base t o.type e i 1 ht hi v n c xs hown
    unfold Oper.wp
    simp [execOp, ho, resolve, invoke, builtin, hs, hx, hrun, Result.andThen]
    refine hK _ _ (h v w (by simpa using hown) hb ⟨rfl, rfl, rfl, Nat.le_refl _, fun _ _ _ => rfl⟩)
  | some ad =>
    refine wpList_append_own w hgd s x t ho base e i z 1 bytes ht hi hz hsize hby hzs (by decide) v n xs hs hown ad m c (ys.map f) hx (by simpa using hlen) ?_ ?_ h63 hbyt hB ?_
    · intro j y hj
      rw [List.getElem?_map] at hj
      cases hyj : ys[j]? with
      | none => rw [hyj] at hj; cases hj
      | some y0 =>
        rw [hyj] at hj
        injection hj with hj
        have hjl : j < ys.length := (List.getElem?_eq_some_iff.1 hyj).1
        obtain ⟨b, o2, hA, hlt, hc⟩ := hSl.2.2.2 (by omega)
        injection hA with hA
        subst hA
        have := hc j y0 hyj
        rw [← hj, ← this]
        simp only [Addr.add]
        try split
        all_goals first | rfl | (subst_vars; rfl)
    · intro u hu
      obtain ⟨y0, -, rfl⟩ := List.mem_map.1 hu
      exact h1 y0
    · intro v' w1 k1 k2 _
      exact h v' w1 k1 (hb.grown k2 hB fun k hk => (hown.lt k hk).1) k2

theorem ints_snoc (l : List Int) (g : Int) : l.map ILit ++ [.int .i64 g] = (l ++ [g]).map ILit := by simp [ILit]

/-- A row of ints of the call's own. -/
def OwnInts (w : World) (n : Nat) (xs : List Int) (e : Ending) (w' : World) : Prop :=
  ∃ v, e = .returned v ∧ w'.ownsRow w.heap.size 3 1 v n (xs.map ILit) ∧ Below w.heap.size w w'

theorem copyInts_c (A : Option Addr) (n c : Nat) (xs : List Int) (w : World) (B : Nat) (hS : Sl w B ILit A n c xs) (hB : B ≤ w.heap.size) (hn : n ≤ 1099511627776) :
    Calls Try.prog 36 #[.slice A n c] w (OwnInts w n xs) := by
  obtain ⟨i0, hi, hi0, hi1, hi2⟩ := info_parts info_int
  have h0 := World.ownsRow_made (base := w.heap.size) (e := 3) (size := 1) w #[] 0 (Nat.le_refl _) (by decide) rfl
  have hS1 := hS.alloc hB (.cells #[] 3)
  have hb1 : Below w.heap.size w (w.alloc (.cells #[] 3)) := (Below.refl _ _).alloc (Nat.le_refl _) _
  clear hS
  go_enter Try.func36, Try.ntmps36
  go_wp2_with (at_builtin; refine wpList_appS w _ rfl _ _ 23 rfl 3 i0 (.int .i64 0) 8 Try.underlying23 hi hi0 hi1 hi2 rfl (by decide) w.heap.size _ 0 [] (by rfl) h0 A n c B ILit xs (by rfl) hS1 (fun _ => rfl) (by omega) (by omega) hb1 (by simp) ?_; intro v2 w2 hB2 hb2 hg2)
  rw [Nat.zero_add, List.nil_append] at hB2
  go_ret
  exact ⟨_, rfl, hB2, hb2⟩

theorem Ow.set {w : World} {base E n c g j : Nat} {xs : List Int} {x : Int} (h : Ow w base E ILit (some ⟨g, 0, none⟩) n c xs) (hj : j < n) : Ow (w.setCell ⟨g, j, none⟩ (.int .i64 x)) base E ILit (some ⟨g, 0, none⟩) n c (xs.set j x) := by
  obtain ⟨h1, h2, h3, h4⟩ := h
  refine ⟨by simpa using h1, h2, h3, fun hn => ?_⟩
  obtain ⟨g', cs, hA, hb, hh, hc⟩ := h4 hn
  injection hA with hA
  injection hA with hA
  subst hA
  refine ⟨g, _, rfl, hb, heap_setCell_same w g j cs _ _ hh, fun k y hy => ?_⟩
  rw [Array.getElem?_setIfInBounds]
  have hjx : j < xs.length := by omega
  have hjc : j < cs.size := by
    have := hc j xs[j] (List.getElem?_eq_getElem hjx)
    exact (Array.getElem?_eq_some_iff.1 this).1
  rw [List.getElem?_set] at hy
  by_cases hk : j = k
  · subst hk
    rw [if_pos rfl, if_pos hjx] at hy
    injection hy with hy
    subst hy
    rw [if_pos rfl, if_pos hjc]; rfl
  · rw [if_neg hk] at hy ⊢
    exact hc k y hy

/-- Some list of at most m numbers, the reader gone on to at most p + K. -/
def IntsOf (w : World) (r p m K : Nat) (e : Ending) (w' : World) : Prop :=
  ∃ A n c q xs, e = .returned (.slice A n c) ∧ Sl w' w'.heap.size ILit A n c xs ∧ n ≤ m ∧ q ≤ p + K ∧ Below w.heap.size (adv w r q) w' ∧ (0 < n → ∀ b o, A = some ⟨b, o, none⟩ → w.heap.size ≤ b)
theorem Ow.lo {α : Type} {w : World} {base E n c : Nat} {f : α → Value} {A : Option Addr} {xs : List α} (h : Ow w base E f A n c xs) : 0 < n → ∀ b o, A = some ⟨b, o, none⟩ → base ≤ b := fun hn b o hA => by
  obtain ⟨g, cs, hg, hb, -⟩ := h.2.2.2 hn
  rw [hg] at hA
  injection hA with hA
  injection hA with hA
  omega
theorem lo_map {A : Option Addr} {n base k : Nat} (h : 0 < n → ∀ b o, A = some ⟨b, o, none⟩ → base ≤ b) (hsome : 0 < n → ∃ b o, A = some ⟨b, o, none⟩) : 0 < n → ∀ b o, (A.map (·.add k)) = some ⟨b, o, none⟩ → base ≤ b := fun hn b o hA => by
  obtain ⟨b', o', rfl⟩ := hsome hn
  simp only [Option.map_some, Addr.add_lit, Option.some.injEq, Addr.mk.injEq, and_true] at hA
  exact hA.1 ▸ h hn b' o' rfl

set_option maxHeartbeats 2000000 in
theorem spoil_c (w : World) (r n c p : Nat) (A : Option Addr) (bs : List Int) (hR : Rd w r A n c bs p) (hp : p ≤ 500000)
    (A2 : Option Addr) (m c2 B : Nat) (xs : List Int) (z : Int) (hS : Sl w B ILit A2 m c2 xs) (hB : B ≤ w.heap.size) (hm : m ≤ 1000000) :
    Calls Try.prog 25 #[.pointer (some ⟨r, 0, none⟩), .slice A2 m c2, .int .i64 z] w (IntsOf w r p (m + 1) 3) := by
  have hlt := hR.lt
  obtain ⟨i0, hi, hi0, hi1, hi2⟩ := info_parts info_int
  go_enter Try.func25, Try.ntmps25
  go_wp2_with fail
  refine (copyInts_c A2 m c2 xs w B hS hB (by omega)).mono ?_
  rintro e w1 ⟨v, rfl, hO1, hb1⟩
  have hb1' : Below w.heap.size (adv w r p) w1 := by rw [adv_self hR]; exact hb1
  go_wp2_with fail
  refine (pick_g w w1 r n c p p A bs _ hR hb1' (by omega)).mono ?_
  rintro e w2 ⟨k, -, rfl, hb2, hg2⟩
  have hO2 := own_go hO1 hlt hg2
  have hsz2 := hb2.size
  rw [size_adv] at hsz2
  clear hO1 hb1 hb1' hg2 hS
  by_cases k0 : k = 0
  · subst k0
    go_wp2_with (at_builtin; refine wpList_app1 (adv w r (p + 1)) w2 rfl _ _ 23 rfl 3 i0 (.int .i64 0) 8 Try.underlying23 hi hi0 hi1 hi2 rfl (by decide) w.heap.size _ m _ (by rfl) hO2 _ rfl _ (by rfl) rfl (by omega) hb2 hsz2 ?_; intro v3 w3 hO3 hb3 hg3)
    rw [ints_snoc] at hO3
    obtain ⟨A3, c3, rfl, hW⟩ := Ow.of_own hO3
    go_ret
    exact ⟨_, _, _, p + 1, _, rfl, hW.sl, Nat.le_refl _, by omega, hb3, hW.lo⟩
  · obtain ⟨A3, c3, rfl, hW⟩ := Ow.of_own hO2
    have hsl := hW.sl
    have HLO := Lib.hid hW.lo
    obtain ⟨hcc0, hcc1⟩ := hsl.cap
    clear hO2
    by_cases k1 : k = 1
    · subst k1
      by_cases hm0 : m = 0
      · subst hm0
        go_wp2_with fail
        go_ret
        exact ⟨_, _, _, p + 1, _, rfl, hsl, by omega, by omega, hb2, HLO.out⟩
      · have hd := hsl.drop (k := 1) (by omega)
        by_cases hc1 : c3 = 1
        · rw [if_pos hc1, show c3 - 1 = 0 by omega] at hd
          go_wp2_with fail
          go_ret
          exact ⟨_, _, _, p + 1, _, rfl, hd, by omega, by omega, hb2, fun h => absurd h (by omega)⟩
        · rw [if_neg hc1] at hd
          have HL2 := Lib.hid (fun (hn : 0 < m - 1) => lo_map (n := m) (k := 1) HLO.out (fun h => by
            obtain ⟨b, o, x, hA, -⟩ := hsl.at_ (k := 0) h
            exact ⟨b, o, hA⟩) (by omega))
          go_wp2_with fail
          go_ret
          exact ⟨_, _, _, p + 1, _, rfl, hd, by omega, by omega, hb2, HL2.out⟩
    · by_cases k2 : k = 2
      · subst k2
        by_cases hm0 : m = 0
        · subst hm0
          go_wp2_with fail
          go_ret
          exact ⟨_, _, _, p + 1, _, rfl, hsl, by omega, by omega, hb2, HLO.out⟩
        · go_wp2_with fail
          refine (pick_g w w2 r n c p (p + 1) A bs _ hR hb2 (by omega)).mono ?_
          rintro e w3 ⟨j, ⟨hj0, hj1, -⟩, rfl, hb3, hg3⟩
          have hj2 := hj1 (by omega)
          obtain ⟨j, rfl⟩ := Int.eq_ofNat_of_zero_le hj0
          have hW3 : Ow w3 w.heap.size 3 ILit A3 m c3 xs := hW.keep fun g hb hg _ => (hg3.block g hg).trans (heap_adv _ _ _ _ (by omega))
          have hsz3 := hb3.size
          rw [size_adv] at hsz3
          have hR3 := (hR.adv (p + 1 + 1)).below hb3 hlt
          clear hW hsl hb2 hg3 hj1
          go_wp2_with fail
          refine (one_lit_c w3 r n c (p + 1 + 1) A bs _ _ _ _ [-1, z, 0, 1] (by rfl) (by rfl) (by decide) (by decide) hR3 (by omega) (by first | rfl | (simp; done) | (simp; omega))).mono ?_
          rintro e w4 ⟨x, -, rfl, os4, d4, hw4⟩
          have hb4 : Below w3.heap.size (adv w3 r (p + 1 + 1 + 1)) w4 := by
            rw [← hw4, adv_alloc _ _ _ _ (by omega)]
            (repeat' (first | (with_reducible exact Below.refl _ _) | (with_reducible assumption) | (with_reducible refine Below.alloc ?_ ?_ _) | (with_reducible refine below_plus ?_ ?_ _ _) | (with_reducible refine Below.drew ?_) | (with_reducible refine Below.setCell ?_ ?_ _) | (with_reducible refine below_adv ?_ ?_ _) | go_size | (simp; done) | (simp; omega)))
          have hW4 : Ow w4 w.heap.size 3 ILit A3 m c3 xs := hW3.keep fun g hb hg _ => (hb4.block g hg).trans (heap_adv _ _ _ _ (by omega))
          have hb04 : Below w.heap.size (adv w r (p + 1 + 1 + 1)) w4 := (below_adv2 hb3 (p + 1 + 1 + 1)).trans (hb4.mono hsz3)
          clear hw4 hW3 hb3 hR3 hb4
          obtain ⟨g, cs, rfl, hgb, hgh, hgc⟩ := hW4.2.2.2 (by omega)
          have hset := hW4.set (j := j) (x := x) (by omega)
          have HLS := Lib.hid hset.lo
          have hfr : w4.frozen? ⟨g, j, none⟩ = false := by simp [World.frozen?, hgh]
          have hcl : w4.cell? ⟨g, j, none⟩ = some (.int .i64 (xs[j]?.getD 0)) := by
            have hjx : j < xs.length := by rw [hW4.len]; omega
            rw [cell_of_row w4 g j cs _ _ hgh, hgc j xs[j] (List.getElem?_eq_getElem hjx), List.getElem?_eq_getElem hjx]; rfl
          have hgl := lt_of_heap hgh
          clear hgh hgc hW4
          go_wp2_with fail
          go_ret
          exact ⟨_, _, _, p + 1 + 1 + 1, _, rfl, hset.sl, by omega, by omega, hb04.setCell hgb _, HLS.out⟩
      · go_wp2_with fail
        go_ret
        exact ⟨_, _, _, p + 1, _, rfl, hsl, by omega, by omega, hb2, HLO.out⟩
end Go.Proofs.Ytillmnhhkhjpkaa

/- A whole slice appended to the call's own row, and where the new row lies. -/
namespace Go.Proofs.Ytillmnhhkhjpkaa
open Go.RowKit

theorem wpList_appS_at {P : Program} {α : Type} (w0 w : World) {ops : Array Oper} {rest : List Oper} {o : Oper} {a : Act} {Q : Exit → Act → World → Prop} (hgd : o.guard = none) (s x : Operand) (t : TypeId)
    (ho : o.op = .call { callee := .builtin .append, args := #[s, x], argTypes := #[t, t] })
    (e : TypeId) (i : TypeInfo) (z : Value) (bytes : Nat) (ht : P.underlying t = some (.slice e)) (hi : P.info? e = some i) (hz : i.zero = some z) (hsize : i.size = 1) (hby : i.bytes = bytes) (hzs : z.cells.size = 1) (hbb : bytes ≤ 64)
    (base : Nat) (v : Value) (n : Nat) (xs : List Value) (hs : a.eval s = v) (hown : w.ownsRow base e 1 v n xs)
    (A : Option Addr) (m c B : Nat) (f : α → Value) (ys : List α) (hx : a.eval x = .slice A m c) (hSl : Sl w B f A m c ys) (h1 : ∀ y, (f y).oneCell' = true)
    (hn : n ≤ 1099511627776) (hm : m ≤ 1099511627776) (hb : Below base w0 w) (hB : base ≤ w.heap.size)
    (h : ∀ v' w1, w1.ownsRow base e 1 v' (n + m) (xs ++ ys.map f) → Below base w0 w1 → w.grownBy w1 v.ownBlock → (∀ b, v'.ownBlock = some b → v.ownBlock = some b ∨ w.heap.size ≤ b) → wpList P ops Q rest (a.put o.dst v') w1) : wpList P ops Q (o :: rest) a w := by
  have hlen := hSl.len
  have hbyt : (n + m) * bytes ≤ 140737488355328 := by
    have : (n + m) * bytes ≤ (1099511627776 + 1099511627776) * 64 := Nat.mul_le_mul (by omega) hbb
    omega
  have h63 : n + m ≤ maxLen := by unfold maxLen; omega
  cases A with
  | none =>
    have hm0 : m = 0 := by
      rcases Nat.eq_zero_or_pos m with h0 | h0
      · exact h0
      · obtain ⟨b, o, hA, -⟩ := hSl.2.2.2 h0
        cases hA
    subst hm0
    have hys : ys = [] := List.eq_nil_of_length_eq_zero hlen
    subst hys
    refine wpList_plain hgd fun K hK => ?_
    have hrun := run_append_none_c (P := P) (w := w) base t o.type e i 1 ht hi v n c xs hown
    unfold Oper.wp
    simp [execOp, ho, resolve, invoke, builtin, hs, hx, hrun, Result.andThen]
    refine hK _ _ (h v w (by simpa using hown) hb ⟨rfl, rfl, rfl, Nat.le_refl _, fun _ _ _ => rfl⟩ fun b hb => .inl hb)
  | some ad =>
    refine wpList_append_own_at w hgd s x t ho base e i z 1 bytes ht hi hz hsize hby hzs (by decide) v n xs hs hown ad m c (ys.map f) hx (by simpa using hlen) ?_ ?_ h63 hbyt hB ?_
    · intro j y hj
      rw [List.getElem?_map] at hj
      cases hyj : ys[j]? with
      | none => rw [hyj] at hj; cases hj
      | some y0 =>
        rw [hyj] at hj
        injection hj with hj
        have hjl : j < ys.length := (List.getElem?_eq_some_iff.1 hyj).1
        obtain ⟨b, o2, hA, hlt, hc⟩ := hSl.2.2.2 (by omega)
        injection hA with hA
        subst hA
        have := hc j y0 hyj
        rw [← hj, ← this]
        simp only [Addr.add]
        try split
        all_goals first | rfl | (subst_vars; rfl)
    · intro u hu
      obtain ⟨y0, -, rfl⟩ := List.mem_map.1 hu
      exact h1 y0
    · intro v' w1 k1 k2 _ k3
      refine h v' w1 k1 (hb.grown k2 hB fun k hk => (hown.lt k hk).1) k2 fun b hb => ?_
      rcases k3 with e | e
      · exact .inl (e ▸ hb)
      · rw [e] at hb; injection hb with hb; right; omega

end Go.Proofs.Ytillmnhhkhjpkaa

/- Appends inside a region that draws its order: the step forms. -/
namespace Go.Proofs.Ytillmnhhkhjpkaa
open Go.RowKit

theorem run_appS {P : Program} {α : Type} (w0 w : World) {o : Oper} {a : Act} {K : Act → World → Prop} {Q : Exit → Act → World → Prop} (s x : Operand) (t : TypeId)
    (ho : o.op = .call { callee := .builtin .append, args := #[s, x], argTypes := #[t, t] })
    (e : TypeId) (i : TypeInfo) (z : Value) (bytes : Nat) (ht : P.underlying t = some (.slice e)) (hi : P.info? e = some i) (hz : i.zero = some z) (hsize : i.size = 1) (hby : i.bytes = bytes) (hzs : z.cells.size = 1) (hbb : bytes ≤ 64)
    (base : Nat) (v : Value) (n : Nat) (xs : List Value) (hs : a.eval s = v) (hown : w.ownsRow base e 1 v n xs)
    (A : Option Addr) (m c B : Nat) (f : α → Value) (ys : List α) (hx : a.eval x = .slice A m c) (hSl : Sl w B f A m c ys) (h1 : ∀ y, (f y).oneCell' = true)
    (hn : n ≤ 1099511627776) (hm : m ≤ 1099511627776) (hb : Below base w0 w) (hB : base ≤ w.heap.size)
    (h : ∀ v' w1, w1.ownsRow base e 1 v' (n + m) (xs ++ ys.map f) → Below base w0 w1 → w.grownBy w1 v.ownBlock → K (a.put o.dst v') w1) : o.wp P a w K Q := by
  have hlen := hSl.len
  have hbyt : (n + m) * bytes ≤ 140737488355328 := by
    have : (n + m) * bytes ≤ (1099511627776 + 1099511627776) * 64 := Nat.mul_le_mul (by omega) hbb
    omega
  have h63 : n + m ≤ maxLen := by unfold maxLen; omega
  cases A with
  | none =>
    have hm0 : m = 0 := by
      rcases Nat.eq_zero_or_pos m with h0 | h0
      · exact h0
      · obtain ⟨b, o, hA, -⟩ := hSl.2.2.2 h0
        cases hA
    subst hm0
    have hys : ys = [] := List.eq_nil_of_length_eq_zero hlen
    subst hys
    have hrun := run_append_none_c (P := P) (w := w) base t o.type e i 1 ht hi v n c xs hown
    unfold Oper.wp
    simp [execOp, ho, resolve, invoke, builtin, hs, hx, hrun, Result.andThen]
    exact h v w (by simpa using hown) hb ⟨rfl, rfl, rfl, Nat.le_refl _, fun _ _ _ => rfl⟩
  | some ad =>
    refine wp_append_own w s x t ho base e i z 1 bytes ht hi hz hsize hby hzs (by decide) v n xs hs hown ad m c (ys.map f) hx (by simpa using hlen) ?_ ?_ h63 hbyt hB ?_
    · intro j y hj
      rw [List.getElem?_map] at hj
      cases hyj : ys[j]? with
      | none => rw [hyj] at hj; cases hj
      | some y0 =>
        rw [hyj] at hj
        injection hj with hj
        have hjl : j < ys.length := (List.getElem?_eq_some_iff.1 hyj).1
        obtain ⟨b, o2, hA, hlt, hc⟩ := hSl.2.2.2 (by omega)
        injection hA with hA
        subst hA
        have := hc j y0 hyj
        rw [← hj, ← this]
        simp only [Addr.add]
        try split
        all_goals first | rfl | (subst_vars; rfl)
    · intro u hu
      obtain ⟨y0, -, rfl⟩ := List.mem_map.1 hu
      exact h1 y0
    · intro v' w1 k1 k2 _
      exact h v' w1 k1 (hb.grown k2 hB fun k hk => (hown.lt k hk).1) k2

theorem heap_two1 (w : World) (o1 o2 : Obj) : ((w.alloc o1).alloc o2).heap[w.heap.size + 1]? = some o2 := by
  have := heap_alloc_new (w.alloc o1) o2
  simpa using this
theorem heap_two0 (w : World) (o1 o2 : Obj) : ((w.alloc o1).alloc o2).heap[w.heap.size]? = some o1 := by
  have := heap_alloc_old (w.alloc o1) o2 (r := w.heap.size) (by simp)
  rw [this]; exact heap_alloc_new w o1
theorem cell_two1 (w : World) (o1 : Obj) (u : Value) (E : TypeId) : ((w.alloc o1).alloc (.cells #[u] E)).cell? ⟨w.heap.size + 1, 0, none⟩ = some u := by
  rw [cell_of_row _ _ 0 #[u] E (0, 0) (heap_two1 w o1 _)]; rfl
theorem cell_two0 (w : World) (o2 : Obj) (u : Value) (E : TypeId) : ((w.alloc (.cells #[u] E)).alloc o2).cell? ⟨w.heap.size, 0, none⟩ = some u := by
  rw [cell_of_row _ _ 0 #[u] E (0, 0) (heap_two0 w _ o2)]; rfl
/-- A row of no element in a block that is known. -/
theorem own_empty {w : World} {base g E : Nat} (h : w.heap[g]? = some (.cells #[] E (0, 0))) (hb : base ≤ g) : w.ownsRow base E 1 (.slice (some ⟨g, 0, none⟩) 0 0) 0 [] :=
  ⟨rfl, .inr ⟨g, 0, #[], rfl, hb, h, Nat.le_refl _, by unfold maxLen; omega, rfl, rfl⟩⟩

/-- A list appended. -/
theorem step_appS {P : Program} {α : Type} (w0 w : World) {ops : Array Oper} {o : Oper} {a : Act} {K : Act → World → Prop} {Q : Exit → Act → World → Prop} {E : Prop} (hgd : o.guard = none) (s x : Operand) (t : TypeId)
    (ho : o.op = .call { callee := .builtin .append, args := #[s, x], argTypes := #[t, t] })
    (e : TypeId) (i : TypeInfo) (z : Value) (bytes : Nat) (ht : P.underlying t = some (.slice e)) (hi : P.info? e = some i) (hz : i.zero = some z) (hsize : i.size = 1) (hby : i.bytes = bytes) (hzs : z.cells.size = 1) (hbb : bytes ≤ 64)
    (base : Nat) (v : Value) (n : Nat) (xs : List Value) (hs : a.eval s = v) (hown : w.ownsRow base e 1 v n xs)
    (A : Option Addr) (m c B : Nat) (f : α → Value) (ys : List α) (hx : a.eval x = .slice A m c) (hSl : Sl w B f A m c ys) (h1 : ∀ y, (f y).oneCell' = true)
    (hn : n ≤ 1099511627776) (hm : m ≤ 1099511627776) (hb : Below base w0 w) (hB : base ≤ w.heap.size)
    (h : ∀ v' w1, w1.ownsRow base e 1 v' (n + m) (xs ++ ys.map f) → Below base w0 w1 → w.grownBy w1 v.ownBlock → K (a.put o.dst v') w1) :
    if Region.wanted o (yielded ops a.tmps) = true then Oper.wp P o a w K Q else E := by
  rw [if_pos (by simp [Region.wanted, hgd])]
  exact run_appS w0 w s x t ho e i z bytes ht hi hz hsize hby hzs hbb base v n xs hs hown A m c B f ys hx hSl h1 hn hm hb hB h

/-- One element appended, which lies in a block that is known. -/
theorem step_app1 {P : Program} (w0 w : World) {ops : Array Oper} {o : Oper} {a : Act} {K : Act → World → Prop} {Q : Exit → Act → World → Prop} {E : Prop} (hgd : o.guard = none) (s x : Operand) (t : TypeId)
    (ho : o.op = .call { callee := .builtin .append, args := #[s, x], argTypes := #[t, t] })
    (e : TypeId) (i : TypeInfo) (z : Value) (bytes : Nat) (ht : P.underlying t = some (.slice e)) (hi : P.info? e = some i) (hz : i.zero = some z) (hsize : i.size = 1) (hby : i.bytes = bytes) (hzs : z.cells.size = 1) (hbb : bytes ≤ 64)
    (base : Nat) (v : Value) (n : Nat) (xs : List Value) (hs : a.eval s = v) (hown : w.ownsRow base e 1 v n xs) (u : Value) (hu : u.oneCell' = true) (g : Nat) (hx : a.eval x = .slice (some ⟨g, 0, none⟩) 1 1) (hg : w.cell? ⟨g, 0, none⟩ = some u)
    (hn : n ≤ 1099511627776) (hb : Below base w0 w) (hB : base ≤ w.heap.size)
    (h : ∀ v' w1, w1.ownsRow base e 1 v' (n + 1) (xs ++ [u]) → Below base w0 w1 → w.grownBy w1 v.ownBlock → K (a.put o.dst v') w1) :
    if Region.wanted o (yielded ops a.tmps) = true then Oper.wp P o a w K Q else E := by
  have hS : Sl w w.heap.size id (some ⟨g, 0, none⟩) 1 1 [u] := ⟨rfl, Nat.le_refl _, by omega, fun _ => ⟨g, 0, rfl, World.block_lt_of_cell? w _ hg, fun j y hj => by
    match j, hj with
    | 0, hj => simp at hj; subst hj; exact hg⟩⟩
  rw [if_pos (by simp [Region.wanted, hgd])]
  refine wp_append_own w s x t ho base e i z 1 bytes ht hi hz hsize hby hzs (by decide) v n xs hs hown ⟨g, 0, none⟩ 1 1 [u] hx rfl ?_ ?_ (by unfold maxLen; omega) ?_ hB ?_
  · intro j y hj
    match j, hj with
    | 0, hj => simp at hj; subst hj; simpa [Addr.add] using hg
  · intro y hy
    simp at hy; subst hy; exact hu
  · have : (n + 1) * bytes ≤ (1099511627776 + 1) * 64 := Nat.mul_le_mul (by omega) hbb
    omega
  · intro v' w1 k1 k2 _
    exact h v' w1 k1 (hb.grown k2 hB fun k hk => (hown.lt k hk).1) k2
end Go.Proofs.Ytillmnhhkhjpkaa

/- Plain words on sorting: insertion into a sorted row by exchanges; a sorted row is known by its members. -/
namespace Go.Proofs.Ytillmnhhkhjpkaa
open Go.RowKit

section
variable {α : Type} {R : α → α → Prop}

/-- Two rows sorted by an antisymmetric order, with the same members: the same row. -/
theorem sorted_unique (anti : ∀ a b, R a b → R b a → a = b) {xs ys : List α} (hp : xs.Perm ys) (h1 : xs.Pairwise R) (h2 : ys.Pairwise R) : xs = ys := by
  induction xs generalizing ys with
  | nil => exact (List.nil_perm.1 hp).symm
  | cons x xs ih =>
    cases ys with
    | nil => exact absurd hp.symm.nil_eq (by simp)
    | cons y ys =>
      have hxy : x = y := by
        have hx : x ∈ y :: ys := hp.subset List.mem_cons_self
        have hy : y ∈ x :: xs := hp.symm.subset List.mem_cons_self
        rcases List.mem_cons.1 hx with h | h
        · exact h
        · rcases List.mem_cons.1 hy with h' | h'
          · exact h'.symm
          · exact anti x y ((List.pairwise_cons.1 h1).1 y h') ((List.pairwise_cons.1 h2).1 x h)
      subst hxy
      rw [ih (List.perm_cons x |>.1 hp) (List.pairwise_cons.1 h1).2 (List.pairwise_cons.1 h2).2]

/-- The row while x is on its way down: a ++ x :: b ++ rest, a of length k, a ++ b sorted, x below all of b; i of them are sorted. -/
def Sinks (R : α → α → Prop) (i k : Nat) (zs : List α) : Prop :=
  ∃ a x b rest, zs = a ++ x :: (b ++ rest) ∧ a.length = k ∧ a.length + b.length = i ∧ (a ++ b).Pairwise R ∧ ∀ y ∈ b, R x y

theorem Sinks.start {i : Nat} {zs : List α} (h : (zs.take i).Pairwise R) (hi : i < zs.length) : Sinks R i i zs := by
  refine ⟨zs.take i, zs[i], [], zs.drop (i + 1), ?_, by rw [List.length_take]; omega, by simp; omega, by simpa using h, fun y hy => by cases hy⟩
  rw [List.nil_append, ← List.drop_eq_getElem_cons hi, List.take_append_drop]

/-- It stops: at the foot, or the one ahead is below it. -/
theorem Sinks.stop {i k : Nat} {zs : List α} (tr : ∀ a b c, R a b → R b c → R a c) (h : Sinks R i k zs) (hk : k = 0 ∨ ∃ u v, zs[k - 1]? = some u ∧ zs[k]? = some v ∧ R u v) : (zs.take (i + 1)).Pairwise R := by
  obtain ⟨a, x, b, rest, rfl, rfl, hl, hp, hb⟩ := h
  have ht : (a ++ x :: (b ++ rest)).take (i + 1) = a ++ x :: b := by
    rw [show a ++ x :: (b ++ rest) = (a ++ x :: b) ++ rest by simp, List.take_append_of_le_length (by simp; omega), List.take_of_length_le (by simp; omega)]
  rw [ht]
  have hax : ∀ u ∈ a, R u x := by
    rcases hk with h0 | ⟨u, v, hu, hv, huv⟩
    · have : a = [] := List.eq_nil_of_length_eq_zero h0
      subst this
      intro u hu; cases hu
    · intro c hc
      rcases List.eq_nil_or_concat a with rfl | ⟨a', y, rfl⟩
      · cases hc
      · have e1 : u = y := by
          rw [List.concat_eq_append] at hu
          simp at hu
          exact hu.symm
        have e2 : v = x := by
          rw [List.getElem?_append_right (Nat.le_refl _), Nat.sub_self] at hv
          simpa using hv.symm
        subst e1 e2
        rw [List.concat_eq_append] at hc hp
        rcases List.mem_append.1 hc with h' | h'
        · refine tr _ _ _ ?_ huv
          rw [List.append_assoc, List.pairwise_append] at hp
          exact hp.2.2 c h' u (by simp)
        · simp at h'; subst h'; exact huv
  rw [List.pairwise_append] at hp ⊢
  refine ⟨hp.1, List.pairwise_cons.2 ⟨hb, hp.2.1⟩, fun u hu v hv => ?_⟩
  rcases List.mem_cons.1 hv with rfl | hv
  · exact hax u hu
  · exact hp.2.2 u hu v hv

/-- One exchange. -/
theorem Sinks.swap {i k : Nat} {zs : List α} {u v : α} (h : Sinks R i (k + 1) zs) (hu : zs[k]? = some u) (hv : zs[k + 1]? = some v) (hvu : R v u) :
    Sinks R i k ((zs.set (k + 1) u).set k v) := by
  obtain ⟨a, x, b, rest, rfl, ha, hl, hp, hb⟩ := h
  rcases List.eq_nil_or_concat a with rfl | ⟨a', y, rfl⟩
  · cases ha
  · rw [List.concat_eq_append] at *
    have ha' : a'.length = k := by simpa using ha
    subst ha'
    have e1 : u = y := by
      rw [List.append_assoc, List.getElem?_append_right (Nat.le_refl _), Nat.sub_self] at hu
      simpa using hu.symm
    have e2 : v = x := by
      rw [List.getElem?_append_right (by simp), show a'.length + 1 - (a' ++ [y]).length = 0 by simp] at hv
      simpa using hv.symm
    subst e1 e2
    refine ⟨a', v, u :: b, rest, ?_, rfl, by simp at hl ⊢; omega, by simpa using hp, ?_⟩
    · have e : a' ++ [u] ++ v :: (b ++ rest) = a' ++ u :: v :: (b ++ rest) := by simp
      rw [e]
      apply List.ext_getElem?
      intro j
      simp only [List.getElem?_set, List.length_set]
      by_cases h1 : a'.length = j
      · subst h1
        simp
      · rw [if_neg h1]
        by_cases h2 : a'.length + 1 = j
        · subst h2
          simp
        · rw [if_neg h2]
          rcases Nat.lt_or_ge j a'.length with hlt | hge
          · rw [List.getElem?_append_left hlt, List.getElem?_append_left hlt]
          · obtain ⟨m, hm⟩ : ∃ m, j = a'.length + (m + 2) := ⟨j - a'.length - 2, by omega⟩
            subst hm
            rw [List.getElem?_append_right (by omega), List.getElem?_append_right (by omega)]
            simp
    · intro z hz
      rcases List.mem_cons.1 hz with rfl | hz
      · exact hvu
      · exact hb z hz

theorem perm_swap {zs : List α} {k : Nat} {u v : α} (hu : zs[k]? = some u) (hv : zs[k + 1]? = some v) : ((zs.set (k + 1) u).set k v).Perm zs := by
  obtain ⟨h1, rfl⟩ := List.getElem?_eq_some_iff.1 hu
  obtain ⟨h2, rfl⟩ := List.getElem?_eq_some_iff.1 hv
  have e : zs = zs.take k ++ zs[k] :: zs[k + 1] :: zs.drop (k + 2) := by
    rw [← List.drop_eq_getElem_cons h2, ← List.drop_eq_getElem_cons h1, List.take_append_drop]
  have hlen : (zs.take k).length = k := by rw [List.length_take]; omega
  have e2 : (zs.set (k + 1) zs[k]).set k zs[k + 1] = zs.take k ++ zs[k + 1] :: zs[k] :: zs.drop (k + 2) := by
    apply List.ext_getElem?
    intro j
    simp only [List.getElem?_set, List.length_set]
    rcases Nat.lt_or_ge j k with hlt | hge
    · rw [if_neg (by omega), if_neg (by omega), List.getElem?_append_left (by omega), List.getElem?_take, if_pos hlt]
    · rw [List.getElem?_append_right (by omega), hlen]
      by_cases ha : k = j
      · subst ha; simp; omega
      · rw [if_neg ha]
        by_cases hb : k + 1 = j
        · subst hb
          rw [if_pos rfl, if_pos h2, show k + 1 - k = 1 by omega]; rfl
        · rw [if_neg hb]
          obtain ⟨m, hm⟩ : ∃ m, j = k + (m + 2) := ⟨j - k - 2, by omega⟩
          subst hm
          rw [show k + (m + 2) - k = m + 2 by omega]
          simp [List.getElem?_drop]
          congr 1; omega
  rw [e2]
  conv => rhs; rw [e]
  exact List.Perm.append_left _ (List.Perm.swap _ _ _)
end
end Go.Proofs.Ytillmnhhkhjpkaa

/- The exact laws' helpers on []int once more, in the words of straight walks (wip/steps.py). -/
namespace Go.Proofs.Ytillmnhhkhjpkaa
open Go.RowKit

theorem Ow.past {α : Type} {w w' : World} {base E n c hi : Nat} {f : α → Value} {A : Option Addr} {xs : List α} (h : Ow w base E f A n c xs) (hk : ∀ b, hi ≤ b → b < w.heap.size → w'.heap[b]? = w.heap[b]?) (hb : hi ≤ base) : Ow w' base E f A n c xs :=
  h.keep fun g hg hlt _ => hk g (by omega) hlt

/-- A slice of ints of the call's own. -/
def OwInts2 (w : World) (xs : List Int) (e : Ending) (w' : World) : Prop :=
  ∃ A n c, e = .returned (.slice A n c) ∧ Ow w' w.heap.size 3 ILit A n c xs ∧ Below w.heap.size w w'

end Go.Proofs.Ytillmnhhkhjpkaa

/- The exact laws' helpers on []bool once more, in the words of straight walks (wip/steps.py). -/
namespace Go.Proofs.Ytillmnhhkhjpkaa
open Go.RowKit

end Go.Proofs.Ytillmnhhkhjpkaa
