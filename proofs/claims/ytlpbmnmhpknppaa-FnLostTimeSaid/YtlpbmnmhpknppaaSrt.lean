/- The reference's sorted: insertion by exchanges. -/
import Derived.Test.YtlpbmnmhpknppaaIns
import Derived.Test.YtlpbmnmhpknppaaFr
import Derived.Test.YtlpbmnmhpknppaaApp
import Derived.Test.YtlpbmnmhpknppaaEq
set_option linter.unusedVariables false
set_option linter.unusedSimpArgs false
namespace Go.Proofs.Ytlpbmnmhpknppaa
open Go.RowKit

def sortI (xs : List Int) : List Int := xs.mergeSort (fun a b => decide (a ≤ b))
theorem sortI_perm (xs : List Int) : (sortI xs).Perm xs := List.mergeSort_perm xs _
theorem sortI_sorted (xs : List Int) : (sortI xs).Pairwise (fun a b => a ≤ b) := by
  have := List.pairwise_mergeSort (le := fun a b : Int => decide (a ≤ b)) (fun a b c h1 h2 => by simp at *; omega) (fun a b => by simp; omega) xs
  exact this.imp fun h => by simpa using h
theorem sortI_of {xs ys : List Int} (hp : ys.Perm xs) (hs : ys.Pairwise (fun a b => a ≤ b)) : ys = sortI xs :=
  sorted_unique (fun a b h1 h2 => by omega) (hp.trans (sortI_perm xs).symm) hs (sortI_sorted xs)
theorem sortI_len (xs : List Int) : (sortI xs).length = xs.length := (sortI_perm xs).length_eq
theorem Ow.plus {α : Type} {w : World} {base E n c : Nat} {f : α → Value} {A : Option Addr} {xs : List α} (h : Ow w base E f A n c xs) (os : Array Obj) (d : Nat) : Ow (plus w os d) base E f A n c xs :=
  h.keep fun g _ hg _ => heap_plus w os d g hg

/-- A slice of ints of the call's own. -/
def OwIntsN (w : World) (n : Nat) (xs : List Int) (e : Ending) (w' : World) : Prop :=
  ∃ A c, e = .returned (.slice A n c) ∧ Ow w' w.heap.size 3 ILit A n c xs ∧ Below w.heap.size w w'

set_option maxHeartbeats 2000000 in
theorem sorted_c (A : Option Addr) (n c : Nat) (xs : List Int) (w : World) (B : Nat) (hS : Sl w B ILit A n c xs) (hB : B ≤ w.heap.size) (hn : n ≤ 1099511627776) :
    Calls Try.prog 85 #[.slice A n c] w (OwIntsN w n (sortI xs)) := by
  have HL := Lib.hid hS.len
  go_enter Try.func85, Try.ntmps85
  go_wp2_with fail
  refine (copyInts_c A n c xs w B hS hB hn).mono ?_
  rintro e w1 ⟨v, rfl, hO1, hb1⟩
  obtain ⟨A1, c1, rfl, hW1⟩ := Ow.of_own hO1
  have hz1 := hb1.size
  obtain ⟨hk0, hk1⟩ := hW1.sl.cap
  clear hO1 hS
  go_wp2_with fail
  go_loopw [4] (fun i wr => ∃ (k : Nat) (zs : List Int), 1 ≤ k ∧ (k ≤ n ∨ k = 1) ∧ i = .int .i64 k ∧ Below w.heap.size w wr ∧ Ow wr w.heap.size 3 ILit A1 n c1 zs ∧ Hid (zs.Perm xs ∧ (zs.take k).Pairwise (fun a b => a ≤ b))) (fun i _ => n - (intOf i).toNat)
  case atStart =>
    refine ⟨1, xs, by omega, .inr rfl, rfl, hb1, hW1, Lib.hid ⟨List.Perm.refl _, ?_⟩⟩
    cases xs with
    | nil => exact List.Pairwise.nil
    | cons x r => exact List.pairwise_singleton _ _
  case round =>
    obtain ⟨i, zs, hi1, hin, rfl, hb, hW, hP⟩ := hrel
    have hzr := hb.size
    by_cases hlt : i < n
    · have hlz : zs.length = n := hW.len
      have hsk := Lib.hid (Sinks.start hP.out.2 (by rw [hlz]; exact hlt))
      have hpm := Lib.hid hP.out.1
      clear hlz hP hW1 hb1
      go_wp2_with fail
      obtain ⟨wo, rfl⟩ : ∃ wo : World, wo = wr := ⟨_, rfl⟩
      go_loopw [5] (fun kk wr => ∃ (k : Nat) (zs : List Int), k ≤ i ∧ kk = .int .i64 k ∧ Below w.heap.size w wr ∧ Ow wr w.heap.size 3 ILit A1 n c1 zs ∧ Hid (zs.Perm xs ∧ Sinks (fun a b => a ≤ b) i k zs)) (fun kk _ => (intOf kk).toNat)
      case atStart => exact ⟨i, zs, Nat.le_refl _, rfl, hb, hW, Lib.hid ⟨hpm.out, hsk.out⟩⟩
      case round =>
        clear hb hW hpm hsk hzr
        obtain ⟨k, zs, hki, rfl, hb, hW, hP⟩ := hrel
        have hzr := hb.size
        by_cases hk : k = 0
        · subst hk
          have hd : Hid ((zs.take (i + 1)).Pairwise (fun a b => a ≤ b)) := Lib.hid (hP.out.2.stop (fun a b c h1 h2 => by omega) (.inl rfl))
          have hpm := Lib.hid hP.out.1
          clear hP
          go_wp2_with fail
          refine wp_region_plus (by kernel_rfl) (by kernel_rfl) ?_; (repeat (go_big_quiet_step (fail))); refine wpQuiet_nil ?_; intro _ hw'; obtain ⟨⟨osq, dq⟩, hw''⟩ := hw'; subst hw''
          go_wp2_with fail
          go_roundw
          case rel => exact ⟨i + 1, zs, by omega, by omega, by go_num, by (repeat' (first | (with_reducible exact Below.refl _ _) | (with_reducible assumption) | (with_reducible refine Below.alloc ?_ ?_ _) | (with_reducible refine below_plus ?_ ?_ _ _) | (with_reducible refine Below.drew ?_) | (with_reducible refine Below.setCell ?_ ?_ _) | (with_reducible refine below_adv ?_ ?_ _) | go_size | (simp; done) | (simp; omega))), hW.plus _ _, Lib.hid ⟨hpm.out, hd.out⟩⟩
          case measure => simp [intOf]; omega
        · obtain ⟨k, rfl⟩ : ∃ k', k = k' + 1 := ⟨k - 1, by omega⟩
          have hlz : zs.length = n := hW.len
          obtain ⟨g, cs, rfl, hgb, hgh, hgc⟩ := hW.2.2.2 (by omega)
          have hgl := lt_of_heap hgh
          obtain ⟨u, hu⟩ : ∃ u, zs[k]? = some u := ⟨_, List.getElem?_eq_getElem (by omega)⟩
          obtain ⟨v, hv⟩ : ∃ v, zs[k + 1]? = some v := ⟨_, List.getElem?_eq_getElem (by omega)⟩
          have cu : wr.cell? ⟨g, k, none⟩ = some (.int .i64 u) := by rw [cell_of_row wr g k cs _ _ hgh]; exact hgc k u hu
          have cv : wr.cell? ⟨g, k + 1, none⟩ = some (.int .i64 v) := by rw [cell_of_row wr g (k + 1) cs _ _ hgh]; exact hgc (k + 1) v hv
          have fu : wr.frozen? ⟨g, k, none⟩ = false := by simp [World.frozen?, hgh]
          have fv : wr.frozen? ⟨g, k + 1, none⟩ = false := by simp [World.frozen?, hgh]
          by_cases hvu : v < u
          · have hn1 : Hid (((zs.set (k + 1) u).set k v).Perm xs ∧ Sinks (fun a b => a ≤ b) i k ((zs.set (k + 1) u).set k v)) := Lib.hid ⟨(perm_swap hu hv).trans hP.out.1, hP.out.2.swap hu hv (by omega)⟩
            have hW2 := (hW.set (j := k + 1) (x := u) (by omega)).set (j := k) (x := v) (by omega)
            have i1 : (k : Int) + 1 < (n : Int) := by omega
            clear hW hP hgh hgc hu hv hlz
            go_wp2_with fail
            refine wp_region_plus (by kernel_rfl) (by kernel_rfl) ?_; (repeat (go_big_quiet_step (fail))); refine wpQuiet_nil ?_; intro _ hw'; obtain ⟨⟨osq, dq⟩, hw''⟩ := hw'; subst hw''
            go_wp2_with fail
            go_roundw
            case rel => exact ⟨k, _, by omega, by go_num, by (repeat' (first | (with_reducible exact Below.refl _ _) | (with_reducible assumption) | (with_reducible refine Below.alloc ?_ ?_ _) | (with_reducible refine below_plus ?_ ?_ _ _) | (with_reducible refine Below.drew ?_) | (with_reducible refine Below.setCell ?_ ?_ _) | (with_reducible refine below_adv ?_ ?_ _) | go_size | (simp; done) | (simp; omega))), hW2.plus _ _, hn1⟩
            case measure => simp [intOf]
          · have hd : Hid ((zs.take (i + 1)).Pairwise (fun a b => a ≤ b)) := Lib.hid (hP.out.2.stop (fun a b c h1 h2 => by omega) (.inr ⟨u, v, hu, hv, by omega⟩))
            have hpm := Lib.hid hP.out.1
            have i1 : (k : Int) + 1 < (n : Int) := by omega
            have hvu2 : decide (v < u) = false := by simpa using hvu
            clear hP hgh hgc hu hv hlz
            go_wp2_with fail
            refine wp_region_plus (by kernel_rfl) (by kernel_rfl) ?_; (repeat (go_big_quiet_step (fail))); refine wpQuiet_nil ?_; intro _ hw'; obtain ⟨⟨osq, dq⟩, hw''⟩ := hw'; subst hw''
            go_wp2_with fail
            go_roundw
            case rel => exact ⟨i + 1, zs, by omega, by omega, by go_num, by (repeat' (first | (with_reducible exact Below.refl _ _) | (with_reducible assumption) | (with_reducible refine Below.alloc ?_ ?_ _) | (with_reducible refine below_plus ?_ ?_ _ _) | (with_reducible refine Below.drew ?_) | (with_reducible refine Below.setCell ?_ ?_ _) | (with_reducible refine below_adv ?_ ?_ _) | go_size | (simp; done) | (simp; omega))), hW.plus _ _, Lib.hid ⟨hpm.out, hd.out⟩⟩
            case measure => simp [intOf]; omega
    · have hlz : zs.length = n := hW.len
      have hs : zs = sortI xs := sortI_of hP.out.1 (by
        have := hP.out.2
        rwa [List.take_of_length_le (by omega)] at this)
      have HS := Lib.hid hs
      clear hP hs hlz
      go_wp2_with fail
      go_ret
      exact ⟨_, _, rfl, by rw [← HS.out]; exact hW, hb⟩
end Go.Proofs.Ytlpbmnmhpknppaa
