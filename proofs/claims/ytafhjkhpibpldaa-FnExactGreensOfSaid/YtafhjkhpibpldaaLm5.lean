/- GreensOf of the program and of the reference, and its exact law. -/
import Derived.Test.YtafhjkhpibpldaaLm3
import Derived.Test.YtafhjkhpibpldaaHb
set_option linter.unusedVariables false
set_option linter.unusedSimpArgs false
namespace Go.Proofs.Ytafhjkhpibpldaa
open Go.RowKit Go.PlainAid

def grs (s : ByteArray) : List Bool := (List.range s.size).map fun i => bt s i == 71
theorem grs_len (s : ByteArray) : (grs s).length = s.size := by simp [grs]
theorem grs_at (s : ByteArray) {k : Nat} (h : k < s.size) : (grs s)[k]? = some (bt s k == 71) := by simp [grs, h]
def greensF (s : ByteArray) : List Bool := if valF s = true then grs s else []

/-- A slice of bools in new memory. -/
def NewBools (w : World) (xs : List Bool) (e : Ending) (w' : World) : Prop :=
  ∃ A n c, e = .returned (.slice A n c) ∧ Ow w' w.heap.size 4 OLit A n c xs ∧ Below w.heap.size w w'

theorem newBools_nil (w w' : World) (h : Below w.heap.size w w') : NewBools w [] (.returned (.slice none 0 0)) w' :=
  ⟨none, 0, 0, rfl, Ow.nil _ _ _ _, h⟩

set_option maxHeartbeats 1000000 in
theorem greensOf_c (s : ByteArray) (w : World) (hs : s.size ≤ 1099511627776) :
    Calls Try.prog 11 #[.string s] w (NewBools w (greensF s)) := by
  cases hv : valF s
  · have hf : greensF s = [] := by simp [greensF, hv]
    have c1 := fun w => validLamps_c s w (by omega)
    rw [hv] at c1
    have C1 := Lib.hid c1
    rw [hf]
    clear c1 hv hf
    go_enter Try.func11, Try.ntmps11
    go_wp2_with (go_at_call 21; refine (C1.out _).mono ?_; rintro e w1 ⟨rfl, hb1⟩; obtain ⟨os1, d1, rfl⟩ := is_plus hb1; clear hb1)
    go_ret
    exact newBools_nil _ _ (by (repeat' (first | (with_reducible exact Below.refl _ _) | (with_reducible assumption) | (with_reducible refine Below.alloc ?_ ?_ _) | (with_reducible refine below_plus ?_ ?_ _ _) | (with_reducible refine Below.drew ?_) | (with_reducible refine Below.setCell ?_ ?_ _) | (with_reducible refine below_adv ?_ ?_ _) | go_size | (simp; omega))))
  · have hf : greensF s = grs s := by simp [greensF, hv]
    have c1 := fun w => validLamps_c s w (by omega)
    rw [hv] at c1
    have C1 := Lib.hid c1
    rw [hf]
    have hlen := grs_len s
    have hmk := run_make_row' (P := Try.prog) 24 4 (.bool false) 1 Try.underlying24 info_bool rfl .i64 .i64 s.size (by omega) (by omega)
    rw [show madeCells #[.bool false] s.size = part OLit (.bool false) (grs s) 0 from by rw [part_zero, hlen]] at hmk
    have HL := Lib.hid hlen
    clear c1 hv hf hlen
    go_enter Try.func11, Try.ntmps11
    go_wp2_with fail
    refine (C1.out _).mono ?_
    rintro e w1 ⟨rfl, hb1⟩
    have hz1 := hb1.size
    go_wp2
    go_loopw [13] (fun i wr => ∃ k : Nat, k ≤ s.size ∧ i = .int .i64 k ∧ wr = w1.alloc (.cells (part OLit (.bool false) (grs s) k) 4)) (fun i _ => s.size - (intOf i).toNat)
    case atStart => exact ⟨0, Nat.zero_le _, rfl, rfl⟩
    case round =>
      obtain ⟨k, hk, rfl, rfl⟩ := hrel
      by_cases hlt : k < s.size
      · have hbk := get_bt s k hlt
        have hold := part_old OLit (.bool false) (grs s) (k := k) (by rw [HL.out]; exact hlt)
        have hset : (part OLit (.bool false) (grs s) k).setIfInBounds k (.bool (bt s k == 71)) = part OLit (.bool false) (grs s) (k + 1) := part_set OLit (.bool false) (grs s) (grs_at s hlt)
        obtain ⟨x, hx⟩ : ∃ x, bt s k = x := ⟨_, rfl⟩
        rw [hx] at hbk hset
        have HS := Lib.hid hset
        obtain ⟨cs, hcs⟩ : ∃ cs, part OLit (.bool false) (grs s) k = cs := ⟨_, rfl⟩
        rw [hcs] at hold ⊢
        have HC := Lib.hid hcs
        clear hset hcs hmk hx C1
        go_wp2
        go_roundw
        case rel => exact ⟨k + 1, by omega, by go_num, by rw [← HC.out, HS.out]⟩
        case measure => simp [intOf]; omega
      · obtain rfl : k = s.size := by omega
        clear hmk C1
        go_wp2
        go_ret
        have ho := Ow.new w1 OLit (grs s) 4 (by rw [HL.out]; omega)
        rw [HL.out] at ho
        have hp := part_all OLit (.bool false) (grs s)
        rw [HL.out] at hp
        rw [hp]
        exact ⟨_, _, _, rfl, ho.mono hz1, hb1.trans ((Below.refl _ _).alloc hz1 _)⟩

set_option maxHeartbeats 1000000 in
theorem sgreensOf_c (s : ByteArray) (w : World) (hs : s.size ≤ 1099511627776) :
    Calls Try.prog 10 #[.string s] w (NewBools w (greensF s)) := by
  cases hv : valF s
  · have hf : greensF s = [] := by simp [greensF, hv]
    have c1 := fun w => svalidLamps_c s w (by omega)
    rw [hv] at c1
    have C1 := Lib.hid c1
    rw [hf]
    clear c1 hv hf
    go_enter Try.func10, Try.ntmps10
    go_wp2_with (go_at_call 19; refine (C1.out _).mono ?_; rintro e w1 ⟨rfl, hb1⟩; obtain ⟨os1, d1, rfl⟩ := is_plus hb1; clear hb1)
    go_ret
    exact newBools_nil _ _ (by (repeat' (first | (with_reducible exact Below.refl _ _) | (with_reducible assumption) | (with_reducible refine Below.alloc ?_ ?_ _) | (with_reducible refine below_plus ?_ ?_ _ _) | (with_reducible refine Below.drew ?_) | (with_reducible refine Below.setCell ?_ ?_ _) | (with_reducible refine below_adv ?_ ?_ _) | go_size | (simp; omega))))
  · have hf : greensF s = grs s := by simp [greensF, hv]
    have c1 := fun w => svalidLamps_c s w (by omega)
    rw [hv] at c1
    have C1 := Lib.hid c1
    rw [hf]
    have hlen := grs_len s
    have HL := Lib.hid hlen
    obtain ⟨i0, hi, hz0, hz1, hz2⟩ := info_parts info_bool
    clear c1 hv hf hlen
    go_enter Try.func10, Try.ntmps10
    go_wp2_with (go_at_call 19; refine (C1.out _).mono ?_; rintro e w1 ⟨rfl, hb1⟩; obtain ⟨os1, d1, rfl⟩ := is_plus hb1; clear hb1)
    clear C1
    go_loopw [3, 4] (fun v i wr => ∃ k : Nat, k ≤ s.size ∧ i = .int .i64 k ∧ wr.ownsRow w.heap.size 4 1 v k (((grs s).take k).map OLit) ∧ Below w.heap.size w wr) (fun _ i _ => s.size - (intOf i).toNat)
    case atStart =>
      have h0 := World.ownsRow_made (e := 4) (size := 1) w #[] 0 (Nat.le_refl _) (by decide) rfl
      refine ⟨0, Nat.zero_le _, rfl, ?_, by (repeat' (first | (with_reducible exact Below.refl _ _) | (with_reducible assumption) | (with_reducible refine Below.alloc ?_ ?_ _) | (with_reducible refine below_plus ?_ ?_ _ _) | (with_reducible refine Below.drew ?_) | (with_reducible refine Below.setCell ?_ ?_ _) | (with_reducible refine below_adv ?_ ?_ _) | go_size | (simp; omega)))⟩
      exact h0.kept (row := none) ⟨rfl, rfl, rfl, by simp, fun k hk _ => heap_plus _ _ _ _ hk⟩ (.inr (by simp [Value.ownBlock]))
    case round =>
      obtain ⟨k, hk, rfl, hB, hbel⟩ := hrel
      have hsz := hbel.size
      by_cases hlt : k < s.size
      · have hbk := get_bt s k hlt
        have hset := take_snoc (grs_at s hlt)
        obtain ⟨x, hx⟩ : ∃ x, bt s k = x := ⟨_, rfl⟩
        rw [hx] at hbk hset
        have HS := Lib.hid hset
        obtain ⟨L, hL⟩ : ∃ L, (grs s).take k = L := ⟨_, rfl⟩
        rw [hL] at hB
        have HC := Lib.hid hL
        clear hset hL hx
        go_wp2_with (at_builtin; refine wpList_app1 w wr rfl _ _ 24 rfl 4 i0 (.bool false) 1 Try.underlying24 hi hz0 hz1 hz2 rfl (by decide) w.heap.size _ k _ (by rfl) hB _ rfl _ (by rfl) rfl (by omega) hbel hsz ?_; intro v1 w1 hB1 hb1 hg1)
        go_roundw
        case rel => exact ⟨k + 1, by omega, by go_num, by rw [HS.out, HC.out, List.map_append]; exact hB1, hb1⟩
        case measure => simp [intOf]; omega
      · obtain rfl : k = s.size := by omega
        rw [List.take_of_length_le (by rw [HL.out]; exact Nat.le_refl _)] at hB
        obtain ⟨A', c', rfl, ho⟩ := Ow.of_own hB
        clear hB
        go_wp2
        go_ret
        exact ⟨_, _, _, rfl, ho, hbel⟩

theorem marked_below {w w' : World} {base E n c : Nat} {A : Option Addr} {xs : List Bool} (hO : Ow w base E OLit A n c xs) (h : w.grownBy w' (if n = 0 then none else A.map (·.block))) (hB : base ≤ w.heap.size) : Below base w w' := by
  refine (Below.refl _ _).grown h hB fun k hk => ?_
  by_cases h0 : n = 0
  · rw [if_pos h0] at hk; cases hk
  · rw [if_neg h0] at hk
    obtain ⟨g, cs, rfl, hb, -⟩ := hO.2.2.2 (by omega)
    simp at hk
    omega

set_option maxHeartbeats 1000000 in
theorem exactGreensOf_walk (s : ByteArray) (w : World) (hs : s.size ≤ maxLen) :
    Calls Try.prog 4 #[.string s] w fun e w' => e = .returned (.bool true) ∧ Below w.heap.size w w' := by
  unfold maxLen at hs
  by_cases hn : 1048576 < s.size
  · go_enter Try.func4, Try.ntmps4
    go_wp2
    go_ret
    exact ⟨rfl, by (repeat' (first | (with_reducible exact Below.refl _ _) | (with_reducible assumption) | (with_reducible refine Below.alloc ?_ ?_ _) | (with_reducible refine below_plus ?_ ?_ _ _) | (with_reducible refine Below.drew ?_) | (with_reducible refine Below.setCell ?_ ?_ _) | (with_reducible refine below_adv ?_ ?_ _) | go_size | (simp; omega)))⟩
  · have c1 := fun w => greensOf_c s w (by omega)
    have c2 := fun w => sgreensOf_c s w (by omega)
    have hlen : (greensF s).length ≤ 1048576 := by
      unfold greensF
      split
      · rw [grs_len]; omega
      · simp
    obtain ⟨R, hR⟩ : ∃ R, greensF s = R := ⟨_, rfl⟩
    rw [hR] at c1 c2 hlen
    have C1 := Lib.hid c1
    have C2 := Lib.hid c2
    clear c1 c2 hR
    go_enter Try.func4, Try.ntmps4
    go_wp2_with fail
    refine (C2.out _).mono ?_
    rintro e w1 ⟨A0, n0, c0, rfl, hO0, hb1⟩
    have hz1 := hb1.size
    have hS0 := hO0.sl
    clear hO0
    go_wp2_with fail
    refine (C1.out _).mono ?_
    rintro e w2 ⟨A, n, c, rfl, hO, hb2⟩
    have hz2 := hb2.size
    have hl := hO.len
    have hn1 : n ≤ 1048576 := by omega
    clear hl
    have hbw2 : Below w.heap.size w w2 := hb1.trans (hb2.mono hz1)
    go_wp2_with fail
    refine (eqBoolS_c _ _ _ R _ _ _ R w2 _ _ hO.sl (Nat.le_refl _) (hS0.below hb2) hz2).mono ?_
    rintro e w3 ⟨rfl, hb3⟩
    rw [eqL_true rfl]
    have hz3 := hb3.size
    have hO3 := hO.below hb3
    have hbw3 := hbw2.trans (hb3.mono (by omega))
    have hS03 := (hS0.below hb2).below (hb3.mono (by omega))
    go_wp2_with fail
    refine (markBoolS_c A n c R 1 w3 _ hO3 (by omega) (by omega) (by omega)).mono ?_
    rintro e w4 ⟨rfl, hO4, hg4, hz4⟩
    have hb4 := marked_below hO3 hg4 (by omega)
    have hbw4 := hbw3.trans (hb4.mono (by omega))
    have hS04 := hS03.below hb4
    clear hO hO3 hS0 hS03 hg4
    go_wp2_with fail
    refine (heldBoolS_c A n c 1 w4 _ hO4.sl (Nat.le_refl _) (by omega) (by omega) (by omega)).mono ?_
    rintro e w5 ⟨rfl, hb5⟩
    have hz5 := hb5.size
    have hO5 := hO4.below hb5
    have hbw5 := hbw4.trans (hb5.mono (by omega))
    have hS05 := hS04.below (hb5.mono (by omega))
    clear hO4 hS04
    go_wp2_with fail
    refine (C1.out _).mono ?_
    rintro e w6 ⟨A6, n6, c6, rfl, hO6, hb6⟩
    have hz6 := hb6.size
    have hbw6 := hbw5.trans (hb6.mono (by omega))
    have hO56 := hO5.below hb6
    have hS06 := hS05.below (hb6.mono (by omega))
    clear hO5 hS05
    go_wp2_with fail
    refine (eqBoolS_c _ _ _ R _ _ _ R w6 _ _ hO6.sl (Nat.le_refl _) hS06 (by omega)).mono ?_
    rintro e w7 ⟨rfl, hb7⟩
    rw [eqL_true rfl]
    have hz7 := hb7.size
    have hbw7 := hbw6.trans (hb7.mono (by omega))
    have hO7 := hO56.below hb7
    clear hO56 hS06
    go_wp2_with fail
    refine (heldBoolS_c A n c 1 w7 _ hO7.sl (Nat.le_refl _) (by omega) (by omega) (by omega)).mono ?_
    rintro e w8 ⟨rfl, hb8⟩
    have hbw8 := hbw7.trans (hb8.mono (by omega))
    go_wp2_with fail
    go_ret
    exact ⟨rfl, hbw8⟩
end Go.Proofs.Ytafhjkhpibpldaa
