/- The law LampsOfGreen, walked. -/
import Derived.Test.YtafhjkhpibpldaaLm7
set_option linter.unusedVariables false
set_option linter.unusedSimpArgs false
namespace Go.Proofs.Ytafhjkhpibpldaa
open Go.RowKit Go.PlainAid

theorem rep_get (n : Nat) (g : Bool) {k : Nat} (h : k < n) : (List.replicate n g)[k]? = some g := by simp [List.getElem?_replicate, h]
theorem lb_on (n k : Nat) (h : k < n) : lb (List.replicate n true) k = 71 := by
  unfold lb
  rw [rep_get n true h]; rfl
theorem rep_false (n k : Nat) : (List.replicate n false)[k]?.getD false = false := by
  simp only [List.getElem?_replicate]
  split <;> rfl
theorem lb_off (n k : Nat) : lb (List.replicate n false) k = 82 ∧ (lst (List.replicate n false) k).2 = 0 := by
  induction k with
  | zero =>
    have e : (lst (List.replicate n false) 0).2 = 0 := rfl
    refine ⟨?_, e⟩
    unfold lb
    rw [e, rep_false, rep_false]; rfl
  | succ k ih =>
    have e : (lst (List.replicate n false) (k + 1)).2 = 0 := by
      rw [lst_snd, ih.1, ih.2]; rfl
    refine ⟨?_, e⟩
    unfold lb
    rw [e, rep_false, rep_false]; rfl

/-- A text of n bytes, all x. -/
def AllIs (s : ByteArray) (n : Nat) (x : Int) : Prop := s.size = n ∧ ∀ k, k < n → bt s k = x
theorem all_on (n : Nat) (h : n ≤ 200) : AllIs ⟨(lampsF (List.replicate n true)).toArray⟩ n 71 := by
  have hl : (List.replicate n true).length = n := by simp
  refine ⟨by rw [lamps_size _ (by omega), hl], fun k hk => ?_⟩
  rw [lamps_bt _ (by omega) k (by omega), lb_on n k hk]; rfl
theorem all_off (n : Nat) (h : n ≤ 200) : AllIs ⟨(lampsF (List.replicate n false)).toArray⟩ n 82 := by
  have hl : (List.replicate n false).length = n := by simp
  refine ⟨by rw [lamps_size _ (by omega), hl], fun k hk => ?_⟩
  rw [lamps_bt _ (by omega) k (by omega), (lb_off n k).1]; rfl
theorem rep_snoc (k : Nat) : (List.replicate k true).map OLit ++ [.bool true] = (List.replicate (k + 1) true).map OLit := by
  rw [List.replicate_succ', List.map_append]; rfl
theorem made_rep (n : Nat) : madeCells #[.bool false] n = ((List.replicate n false).map OLit).toArray := by
  have := part_zero OLit (.bool false) (List.replicate n false)
  rw [List.length_replicate] at this
  rw [← this]
  simp [part, OLit]

set_option maxHeartbeats 2000000 in
theorem lampsOfGreen_walk (A : Option Addr) (n c : Nat) (bs : List Int) (w : World) (hS : Sl w w.heap.size BLit A n c bs) (hbs : ∀ x ∈ bs, 0 ≤ x ∧ x ≤ 255) :
    Calls Try.prog 6 #[.slice A n c] w fun e w' => e = .returned (.bool true) ∧ Below w.heap.size w w' := by
  obtain ⟨hc0, hc1⟩ := hS.cap
  by_cases hn : 1048576 < n
  · go_enter Try.func6, Try.ntmps6
    go_wp2
    go_ret
    exact ⟨rfl, by (repeat' (first | (with_reducible exact Below.refl _ _) | (with_reducible assumption) | (with_reducible refine Below.alloc ?_ ?_ _) | (with_reducible refine below_plus ?_ ?_ _ _) | (with_reducible refine Below.drew ?_) | (with_reducible refine Below.setCell ?_ ?_ _) | (with_reducible refine below_adv ?_ ?_ _) | go_size | (simp; omega)))⟩
  · obtain ⟨i0, hi, hi0, hi1, hi2⟩ := info_parts info_bool
    go_enter Try.func6, Try.ntmps6
    go_wp2_with fail
    refine (drawLampsOf_c A n c bs w hS hbs).mono ?_
    rintro e w1 ⟨A1, m, c1, xs, rfl, hO, hm, hb1⟩
    have hl := hO.len
    have hsl := hO.sl
    obtain ⟨hcm0, hcm1⟩ := hsl.cap
    have C1 := Lib.hid (fun w' (hw : Below w1.heap.size w1 w') => lampsOf_c A1 m c1 xs w' ((hsl.below hw).more hw.size))
    have C2 := Lib.hid (fun w' (hw : Below w1.heap.size w1 w') => sLampsOf_c A1 m c1 xs w' ((hsl.below hw).more hw.size))
    have hz1w := hb1.size
    by_cases hmm : m = 0 ∨ 200 < m
    · have e := lamps_nil xs (by omega)
      rw [e] at C1 C2
      clear e hl hsl hO
      go_wp2_with fail
      refine (C1.out w1 (Below.refl _ _)).mono ?_
      rintro e w2 ⟨rfl, hb2⟩
      have hz2 := hb2.size
      go_wp2_with fail
      refine (C2.out w2 hb2).mono ?_
      rintro e w3 ⟨rfl, hb3⟩
      have hz3 := hb3.size
      have hb13 := hb2.trans (hb3.mono hz2)
      go_wp2_with fail
      refine (C2.out w3 hb13).mono ?_
      rintro e w4 ⟨rfl, hb4⟩
      go_wp2_with fail
      go_ret
      exact ⟨rfl, (hb1.trans (hb13.mono hz1w)).trans (hb4.mono (by omega))⟩
    · have hz := lamps_size xs (by omega)
      obtain ⟨out, hout⟩ : ∃ out : ByteArray, (⟨(lampsF xs).toArray⟩ : ByteArray) = out := ⟨_, rfl⟩
      rw [hout] at C1 C2 hz
      have hne := not_empty (s := out) (by omega)
      obtain ⟨on, hon⟩ : ∃ on : ByteArray, (⟨(lampsF (List.replicate m true)).toArray⟩ : ByteArray) = on := ⟨_, rfl⟩
      obtain ⟨off, hoff⟩ : ∃ off : ByteArray, (⟨(lampsF (List.replicate m false)).toArray⟩ : ByteArray) = off := ⟨_, rfl⟩
      have hA1 := all_on m (by omega)
      have hA2 := all_off m (by omega)
      rw [hon] at hA1
      rw [hoff] at hA2
      obtain ⟨hs1, hk1⟩ := hA1
      obtain ⟨hs2, hk2⟩ := hA2
      have K1 := Lib.hid hk1
      have K2 := Lib.hid hk2
      have HON := Lib.hid hon
      have HOFF := Lib.hid hoff
      clear hout hl hsl hO hz hk1 hk2 hon hoff
      go_wp2_with fail
      refine (C1.out w1 (Below.refl _ _)).mono ?_
      rintro e w2 ⟨rfl, hb2⟩
      have hz2 := hb2.size
      go_wp2_with fail
      refine (C2.out w2 hb2).mono ?_
      rintro e w3 ⟨rfl, hb3⟩
      have hz3 := hb3.size
      have hb13 := hb2.trans (hb3.mono hz2)
      have hb03 := hb1.trans (hb13.mono hz1w)
      clear hb1 hb2 hb3 hb13 C1 C2
      have hz03 := hb03.size
      have hmk := run_make_row' (P := Try.prog) 24 4 (.bool false) 1 Try.underlying24 info_bool rfl .i64 .i64 m (by omega) (by omega)
      go_wp2_with fail
      go_loopw [5, 6] (fun v i wr => ∃ (k : Nat), k ≤ m ∧ i = .int .i64 k ∧ wr.ownsRow w3.heap.size 4 1 v k ((List.replicate k true).map OLit) ∧ Below w3.heap.size w3 wr) (fun _ i _ => m - (intOf i).toNat)
      case atStart => exact ⟨0, by omega, rfl, World.ownsRow_made w3 #[] 0 (Nat.le_refl _) (by decide) rfl, by (repeat' (first | (with_reducible exact Below.refl _ _) | (with_reducible assumption) | (with_reducible refine Below.alloc ?_ ?_ _) | (with_reducible refine below_plus ?_ ?_ _ _) | (with_reducible refine Below.drew ?_) | (with_reducible refine Below.setCell ?_ ?_ _) | (with_reducible refine below_adv ?_ ?_ _) | go_size | (simp; omega)))⟩
      case round =>
        obtain ⟨k, hk, rfl, hB, hb⟩ := hrel
        have hsz := hb.size
        by_cases hlt : k < m
        · go_wp2_with (at_builtin; refine wpList_app1 w3 wr rfl _ _ 24 rfl 4 i0 (.bool false) 1 Try.underlying24 hi hi0 hi1 hi2 rfl (by decide) w3.heap.size _ k _ (by rfl) hB _ rfl _ (by rfl) rfl (by omega) hb hsz ?_; intro v2 w4 hB2 hb2 hg2)
          rw [rep_snoc] at hB2
          go_roundw
          case rel => exact ⟨k + 1, by omega, by go_num, hB2, hb2⟩
          case measure => simp [intOf]; omega
        · obtain rfl : k = m := by omega
          obtain ⟨A2, c2, rfl, hO2⟩ := Ow.of_own hB
          clear hB
          have D1 := Lib.hid (lampsOf_c A2 k c2 _ wr hO2.sl)
          rw [HON.out] at D1
          clear hO2
          go_wp2_with fail
          refine D1.out.mono ?_
          rintro e w4 ⟨rfl, hb4⟩
          have hz4 := hb4.size
          have hb34 := hb.trans (hb4.mono hsz)
          clear hb hb4 D1
          have D2 := Lib.hid (lampsOf_c (some ⟨w4.heap.size, 0, none⟩) k k (List.replicate k false) (w4.alloc (.cells (madeCells #[.bool false] k) 4)) (by
            have := Ow.new w4 OLit (List.replicate k false) 4 (by simp; omega)
            rw [List.length_replicate] at this
            rw [made_rep]
            exact this.sl))
          rw [HOFF.out] at D2
          go_wp2_with fail
          refine D2.out.mono ?_
          rintro e w5 ⟨rfl, hb5⟩
          have hz5 := hb5.size
          have hb05 : Below w.heap.size w w5 := (hb03.trans ((hb34.alloc (by omega) _).mono hz03)).trans (hb5.mono (by simp; omega))
          clear hb5 D2 hb34 hb03
          go_wp2_with fail
          go_loopw [9] (fun i wr => ∃ (j : Nat), j ≤ k ∧ i = .int .i64 j ∧ Below w.heap.size w wr) (fun i _ => k - (intOf i).toNat)
          case atStart => exact ⟨0, by omega, rfl, by (repeat' (first | (with_reducible exact Below.refl _ _) | (with_reducible assumption) | (with_reducible refine Below.alloc ?_ ?_ _) | (with_reducible refine below_plus ?_ ?_ _ _) | (with_reducible refine Below.drew ?_) | (with_reducible refine Below.setCell ?_ ?_ _) | (with_reducible refine below_adv ?_ ?_ _) | go_size | (simp; omega)))⟩
          case round =>
            rename_i wr2
            obtain ⟨j, hj, rfl, hb⟩ := hrel
            by_cases hlt : j < k
            · have hb1 := get_bt on j (by omega)
              have hb2 := get_bt off j (by omega)
              rw [K1.out j hlt] at hb1
              rw [K2.out j hlt] at hb2
              go_wp2_with fail
              go_roundw
              case rel => exact ⟨j + 1, by omega, by go_num, by (repeat' (first | (with_reducible exact Below.refl _ _) | (with_reducible assumption) | (with_reducible refine Below.alloc ?_ ?_ _) | (with_reducible refine below_plus ?_ ?_ _ _) | (with_reducible refine Below.drew ?_) | (with_reducible refine Below.setCell ?_ ?_ _) | (with_reducible refine below_adv ?_ ?_ _) | go_size | (simp; omega)))⟩
              case measure => simp [intOf]; omega
            · obtain rfl : j = k := by omega
              go_wp2_with fail
              go_ret
              exact ⟨rfl, hb⟩
end Go.Proofs.Ytafhjkhpibpldaa
