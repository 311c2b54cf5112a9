/- The laws LampsOfYellow and LampsOfGreen, walked. -/
import Derived.Test.YtafhjkhpibpldaaLm2
import Derived.Test.YtafhjkhpibpldaaLm3
import Derived.Test.YtafhjkhpibpldaaLm6
set_option linter.unusedVariables false
set_option linter.unusedSimpArgs false
namespace Go.Proofs.Ytafhjkhpibpldaa
open Go.RowKit Go.PlainAid

/-- The lamp of second k. -/
def lb (xs : List Bool) (k : Nat) : UInt8 :=
  if xs[k]?.getD false = true then 71 else if 0 < (lst xs k).2 then 89 else if xs[k + 1]?.getD false = true then 65 else 82

theorem lst_step (xs : List Bool) (k : Nat) : lst xs (k + 1) = ((lst xs k).1 ++ [lb xs k], if lb xs k = 71 then 3 else if lb xs k = 89 then (lst xs k).2 - 1 else (lst xs k).2) := by
  rw [lst, lb]
  by_cases h1 : xs[k]?.getD false = true
  · rw [if_pos h1, if_pos h1]; rfl
  · rw [if_neg h1, if_neg h1]
    by_cases h2 : 0 < (lst xs k).2
    · rw [if_pos h2, if_pos h2]; rfl
    · rw [if_neg h2, if_neg h2]
      by_cases h3 : xs[k + 1]?.getD false = true
      · rw [if_pos h3, if_pos h3]; rfl
      · rw [if_neg h3, if_neg h3]; rfl
theorem lst_fst (xs : List Bool) (n : Nat) : (lst xs n).1 = (List.range n).map (lb xs) := by
  induction n with
  | zero => rfl
  | succ n ih => rw [List.range_succ, List.map_append, ← ih, lst_step]; rfl
theorem lst_snd (xs : List Bool) (k : Nat) : (lst xs (k + 1)).2 = if lb xs k = 71 then 3 else if lb xs k = 89 then (lst xs k).2 - 1 else (lst xs k).2 := by
  rw [lst_step]

theorem lb_yellow {xs : List Bool} {k : Nat} (h : lb xs k = 89) : 0 < (lst xs k).2 := by
  unfold lb at h
  split at h
  · cases h
  split at h
  · assumption
  split at h <;> cases h
theorem lb_next {xs : List Bool} {k : Nat} (h : lb xs k = 71) : lb xs (k + 1) = 71 ∨ lb xs (k + 1) = 89 := by
  have := lst_snd xs k
  rw [if_pos h] at this
  unfold lb
  rw [this]
  split
  · exact .inl rfl
  · exact .inr rfl

theorem bt_of_list (L : List UInt8) (k : Nat) (h : k < L.length) : bt ⟨L.toArray⟩ k = (L[k].toNat : Int) := by
  unfold bt
  rw [dif_pos (show k < (⟨L.toArray⟩ : ByteArray).size from h)]
  rfl

/-- The text of n lamps. -/
theorem lamps_bt (xs : List Bool) (h : xs.length ≤ 200) (k : Nat) (hk : k < xs.length) : bt ⟨(lampsF xs).toArray⟩ k = ((lb xs k).toNat : Int) := by
  have e : lampsF xs = (List.range xs.length).map (lb xs) := by rw [lampsF, if_neg (by omega), lst_fst]
  rw [e, bt_of_list _ _ (by simpa using hk)]
  simp
theorem lamps_size (xs : List Bool) (h : xs.length ≤ 200) : (⟨(lampsF xs).toArray⟩ : ByteArray).size = xs.length := by
  show (lampsF xs).toArray.size = _
  rw [lampsF, if_neg (by omega)]
  simp [lst_len]
theorem lamps_nil (xs : List Bool) (h : xs.length = 0 ∨ 200 < xs.length) : (⟨(lampsF xs).toArray⟩ : ByteArray) = ⟨#[]⟩ := by
  rcases h with h | h
  · have : xs = [] := List.eq_nil_of_length_eq_zero h
    subst this; rfl
  · rw [lampsF, if_pos h]
theorem not_empty {s : ByteArray} (h : 0 < s.size) : s.toList.isEmpty = false := by
  rw [ByteArray.toList_eq]
  cases s with
  | mk d =>
    have : 0 < d.toList.length := by simpa [ByteArray.size] using h
    cases hd : d.toList with
    | nil => rw [hd] at this; cases this
    | cons => rfl

/-- What the law of yellow needs of a text: yl k seconds of yellow are left at k. -/
def YOk (s : ByteArray) (yl : Nat → Int) : Prop :=
  (∀ k, yl k ≤ 3) ∧ (∀ k, k < s.size → bt s k = 89 → 0 < yl k ∧ yl (k + 1) = yl k - 1) ∧ (∀ k, 0 < k → k < s.size → bt s (k - 1) = 71 → bt s k = 71 ∨ bt s k = 89)

theorem byte_is {x y : UInt8} {m : Nat} (h : (x.toNat : Int) = m) (hm : m = y.toNat) : x = y := by
  apply UInt8.toNat_inj.1; omega
theorem yok_lamps (xs : List Bool) (h : xs.length ≤ 200) : YOk ⟨(lampsF xs).toArray⟩ (fun k => (lst xs k).2) := by
  refine ⟨fun k => (lst_y xs k).2, fun k hk hy => ?_, fun k h0 hk hg => ?_⟩
  · rw [lamps_size xs h] at hk
    rw [lamps_bt xs h k hk] at hy
    have e : lb xs k = 89 := byte_is (m := 89) hy rfl
    refine ⟨lb_yellow e, ?_⟩
    show (lst xs (k + 1)).2 = _
    rw [lst_snd, if_neg (by rw [e]; decide), if_pos e]
  · rw [lamps_size xs h] at hk
    obtain ⟨j, rfl⟩ : ∃ j, k = j + 1 := ⟨k - 1, by omega⟩
    rw [Nat.add_sub_cancel, lamps_bt xs h j (by omega)] at hg
    rw [lamps_bt xs h (j + 1) hk]
    rcases lb_next (byte_is (m := 71) hg rfl : lb xs j = 71) with e | e
    · rw [e]; exact .inl rfl
    · rw [e]; exact .inr rfl

set_option maxHeartbeats 2000000 in
theorem lampsOfYellow_walk (A : Option Addr) (n c : Nat) (bs : List Int) (w : World) (hS : Sl w w.heap.size BLit A n c bs) (hbs : ∀ x ∈ bs, 0 ≤ x ∧ x ≤ 255) :
    Calls Try.prog 7 #[.slice A n c] w fun e w' => e = .returned (.bool true) ∧ Below w.heap.size w w' := by
  obtain ⟨hc0, hc1⟩ := hS.cap
  by_cases hn : 1048576 < n
  · go_enter Try.func7, Try.ntmps7
    go_wp2
    go_ret
    exact ⟨rfl, by (repeat' (first | (with_reducible exact Below.refl _ _) | (with_reducible assumption) | (with_reducible refine Below.alloc ?_ ?_ _) | (with_reducible refine below_plus ?_ ?_ _ _) | (with_reducible refine Below.drew ?_) | (with_reducible refine Below.setCell ?_ ?_ _) | (with_reducible refine below_adv ?_ ?_ _) | go_size | (simp; omega)))⟩
  · go_enter Try.func7, Try.ntmps7
    go_wp2_with fail
    refine (drawLampsOf_c A n c bs w hS hbs).mono ?_
    rintro e w1 ⟨A1, m, c1, xs, rfl, hO, hm, hb1⟩
    have hl := hO.len
    have hsl := hO.sl
    have C1 := Lib.hid (fun w' (hw : Below w1.heap.size w1 w') => lampsOf_c A1 m c1 xs w' ((hsl.below hw).more hw.size))
    have C2 := Lib.hid (fun w' (hw : Below w1.heap.size w1 w') => sLampsOf_c A1 m c1 xs w' ((hsl.below hw).more hw.size))
    have hz1 := hb1.size
    by_cases hmm : m = 0 ∨ 200 < m
    · have e := lamps_nil xs (by omega)
      rw [e] at C1 C2
      clear e hl hsl hO
      go_wp2_with fail
      refine (C1.out w1 (Below.refl _ _)).mono ?_
      rintro e w2 ⟨rfl, hb2⟩
      have hz2 := hb2.size
      go_wp2_with fail
      refine (C2.out w2 hb2).mono ?_
      rintro e w3 ⟨rfl, hb3⟩
      have hz3 := hb3.size
      have hb13 := hb2.trans (hb3.mono hz2)
      go_wp2_with fail
      refine (C2.out w3 hb13).mono ?_
      rintro e w4 ⟨rfl, hb4⟩
      go_wp2_with fail
      go_ret
      exact ⟨rfl, (hb1.trans (hb13.mono hz1)).trans (hb4.mono (by omega))⟩
    · have hy := yok_lamps xs (by omega)
      have hz := lamps_size xs (by omega)
      obtain ⟨out, hout⟩ : ∃ out : ByteArray, (⟨(lampsF xs).toArray⟩ : ByteArray) = out := ⟨_, rfl⟩
      obtain ⟨yl, hyl⟩ : ∃ yl : Nat → Int, (fun k => (lst xs k).2) = yl := ⟨_, rfl⟩
      rw [hout] at C1 C2 hy hz
      rw [hyl] at hy
      have hne := not_empty (s := out) (by omega)
      obtain ⟨hy1, hy2, hy3⟩ := hy
      have H1 := Lib.hid hy1
      have H2 := Lib.hid hy2
      have H3 := Lib.hid hy3
      have hsz : out.size ≤ 200 := by omega
      clear hout hyl hl hsl hO hy1 hy2 hy3 hz
      go_wp2_with fail
      refine (C1.out w1 (Below.refl _ _)).mono ?_
      rintro e w2 ⟨rfl, hb2⟩
      have hz2 := hb2.size
      go_wp2_with fail
      refine (C2.out w2 hb2).mono ?_
      rintro e w3 ⟨rfl, hb3⟩
      have hz3 := hb3.size
      have hb13 := hb2.trans (hb3.mono hz2)
      have hb03 := hb1.trans (hb13.mono hz1)
      clear hb1 hb2 hb3 hb13 C1 C2
      go_wp2_with fail
      go_loopw [5, 6] (fun v i wr => ∃ (k : Nat) (ρ : Int), k ≤ out.size ∧ i = .int .i64 k ∧ v = .int .i64 ρ ∧ 0 ≤ ρ ∧ ρ ≤ 3 - yl k ∧ ρ ≤ k ∧ Below w.heap.size w wr) (fun _ i _ => out.size - (intOf i).toNat)
      case atStart => exact ⟨0, 0, by omega, rfl, rfl, by omega, by have := H1.out 0; omega, by omega, by (repeat' (first | (with_reducible exact Below.refl _ _) | (with_reducible assumption) | (with_reducible refine Below.alloc ?_ ?_ _) | (with_reducible refine below_plus ?_ ?_ _ _) | (with_reducible refine Below.drew ?_) | (with_reducible refine Below.setCell ?_ ?_ _) | (with_reducible refine below_adv ?_ ?_ _) | go_size | (simp; omega)))⟩
      case round =>
        obtain ⟨k, ρ, hk, rfl, rfl, hρ0, hρ1, hρ2, hb⟩ := hrel
        by_cases hlt : k < out.size
        · have hbk := get_bt out k hlt
          have hyk := H2.out k hlt
          have hy1 := H1.out (k + 1)
          have hy0 := H1.out k
          obtain ⟨x, hx⟩ : ∃ x, bt out k = x := ⟨_, rfl⟩
          by_cases h0 : k = 0
          · subst h0
            rw [hx] at hbk hyk
            clear hx
            have hy1' : yl 1 ≤ 3 := hy1
            by_cases hx9 : x = 89
            · subst hx9
              obtain ⟨hp, hq⟩ := hyk rfl
              have hq' : yl 1 = yl 0 - 1 := hq
              go_wp2_with fail
              go_roundw
              case rel => exact ⟨1, ρ + 1, by omega, by go_num, by go_num, by omega, by omega, by omega, by (repeat' (first | (with_reducible exact Below.refl _ _) | (with_reducible assumption) | (with_reducible refine Below.alloc ?_ ?_ _) | (with_reducible refine below_plus ?_ ?_ _ _) | (with_reducible refine Below.drew ?_) | (with_reducible refine Below.setCell ?_ ?_ _) | (with_reducible refine below_adv ?_ ?_ _) | go_size | (simp; omega)))⟩
              case measure => simp [intOf]; omega
            · clear hyk
              go_wp2_with fail
              go_roundw
              case rel => exact ⟨1, 0, by omega, by go_num, by go_num, by omega, by omega, by omega, by (repeat' (first | (with_reducible exact Below.refl _ _) | (with_reducible assumption) | (with_reducible refine Below.alloc ?_ ?_ _) | (with_reducible refine below_plus ?_ ?_ _ _) | (with_reducible refine Below.drew ?_) | (with_reducible refine Below.setCell ?_ ?_ _) | (with_reducible refine below_adv ?_ ?_ _) | go_size | (simp; omega)))⟩
              case measure => simp [intOf]; omega
          · have hbp := get_bt out (k - 1) (by omega)
            have hgy := H3.out k (by omega) hlt
            obtain ⟨z, hz⟩ : ∃ z, bt out (k - 1) = z := ⟨_, rfl⟩
            rw [hx] at hbk hyk hgy
            rw [hz] at hbp hgy
            have hkk : ((k : Int) - 1).toNat = k - 1 := by omega
            clear hx hz
            by_cases hx9 : x = 89
            · subst hx9
              obtain ⟨hp, hq⟩ := hyk rfl
              clear hyk hgy
              by_cases hz7 : z = 71
              · subst hz7
                go_wp2_with fail
                go_roundw
                case rel => exact ⟨k + 1, ρ + 1, by omega, by go_num, by go_num, by omega, by omega, by omega, by (repeat' (first | (with_reducible exact Below.refl _ _) | (with_reducible assumption) | (with_reducible refine Below.alloc ?_ ?_ _) | (with_reducible refine below_plus ?_ ?_ _ _) | (with_reducible refine Below.drew ?_) | (with_reducible refine Below.setCell ?_ ?_ _) | (with_reducible refine below_adv ?_ ?_ _) | go_size | (simp; omega)))⟩
                case measure => simp [intOf]; omega
              · go_wp2_with fail
                go_roundw
                case rel => exact ⟨k + 1, ρ + 1, by omega, by go_num, by go_num, by omega, by omega, by omega, by (repeat' (first | (with_reducible exact Below.refl _ _) | (with_reducible assumption) | (with_reducible refine Below.alloc ?_ ?_ _) | (with_reducible refine below_plus ?_ ?_ _ _) | (with_reducible refine Below.drew ?_) | (with_reducible refine Below.setCell ?_ ?_ _) | (with_reducible refine below_adv ?_ ?_ _) | go_size | (simp; omega)))⟩
                case measure => simp [intOf]; omega
            · by_cases hz7 : z = 71
              · subst hz7
                obtain rfl : x = 71 := by
                  rcases hgy rfl with h | h
                  · exact h
                  · exact absurd h hx9
                clear hyk hgy
                go_wp2_with fail
                go_roundw
                case rel => exact ⟨k + 1, 0, by omega, by go_num, by go_num, by omega, by omega, by omega, by (repeat' (first | (with_reducible exact Below.refl _ _) | (with_reducible assumption) | (with_reducible refine Below.alloc ?_ ?_ _) | (with_reducible refine below_plus ?_ ?_ _ _) | (with_reducible refine Below.drew ?_) | (with_reducible refine Below.setCell ?_ ?_ _) | (with_reducible refine below_adv ?_ ?_ _) | go_size | (simp; omega)))⟩
                case measure => simp [intOf]; omega
              · clear hyk hgy
                go_wp2_with fail
                go_roundw
                case rel => exact ⟨k + 1, 0, by omega, by go_num, by go_num, by omega, by omega, by omega, by (repeat' (first | (with_reducible exact Below.refl _ _) | (with_reducible assumption) | (with_reducible refine Below.alloc ?_ ?_ _) | (with_reducible refine below_plus ?_ ?_ _ _) | (with_reducible refine Below.drew ?_) | (with_reducible refine Below.setCell ?_ ?_ _) | (with_reducible refine below_adv ?_ ?_ _) | go_size | (simp; omega)))⟩
                case measure => simp [intOf]; omega
        · obtain rfl : k = out.size := by omega
          go_wp2_with fail
          go_ret
          exact ⟨rfl, hb⟩
end Go.Proofs.Ytafhjkhpibpldaa
