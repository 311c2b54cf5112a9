/- The reference's covers, walked. -/
import Derived.Test.YtfdlcphiidfkcaaDoorFg3
import Derived.Test.YtfdlcphiidfkcaaDoorFb1
set_option linter.unusedVariables false
set_option linter.unusedSimpArgs false
namespace Go.Proofs.YtfdlcphiidfkcaaDoor
open Go.RowKit

set_option maxRecDepth 4000 in
set_option maxHeartbeats 8000000 in
theorem covers_c (A : Option Addr) (k c m : Nat) (L : List (List Int)) (w : World) (B : Nat) (hS : Sl2 w B ILit A k c L) (hB : B ≤ w.heap.size) (hr : ∀ ph ∈ L, ph.length ≤ 1048576) (hm : m ≤ 1048576) :
    Calls Tryd.prog 37 #[.slice A k c, .int .i64 m] w fun e w' => e = .returned (.bool (coverB m L)) ∧ Below w.heap.size w w' := by
  obtain ⟨hc0, hc1⟩ := hS.cap
  have HL := Lib.hid (hS.more hB)
  have HL4 := Lib.hid hS.len
  have HLN := Lib.hid hr
  clear hS hr
  go_enter Tryd.func37, Tryd.ntmps37
  go_wp2_with fail
  go_loopw [5] (fun i wr => ∃ (a : Nat), a ≤ m ∧ i = .int .i64 a ∧ Hid (∀ i : Nat, i < a → (L.any fun ph => decide ((i : Int) ∈ ph)) = true) ∧ Below w.heap.size w wr) (fun i _ => m - (intOf i).toNat)
  case atStart => exact ⟨0, by omega, rfl, Lib.hid (fun i hi => by omega), Below.refl _ _⟩
  case round =>
    obtain ⟨a, ha, rfl, hall, hb⟩ := hrel
    by_cases ham : a < m
    · go_wp2_with fail
      go_loopw [6, 7] (fun f i wr => ∃ (q : Nat), q ≤ k ∧ i = .int .i64 q ∧ f = .bool ((L.take q).any fun ph => decide ((a : Int) ∈ ph)) ∧ Below w.heap.size w wr) (fun _ i _ => k - (intOf i).toNat)
      case atStart => exact ⟨0, by omega, rfl, rfl, hb⟩
      case round =>
        clear hb
        obtain ⟨q, hq, rfl, rfl, hb⟩ := hrel
        have hzr3 := hb.size
        by_cases hqn : q < k
        · obtain ⟨b, o, ph, A5, n5, c5, rfl, hbl, hp, hcp, hrp⟩ := HL.out.at_ hqn
          have r1 := (hb.cell (p := ⟨b, o + q, none⟩) hbl).trans hcp
          have hpl := HLN.out ph (List.mem_of_getElem? hp)
          rw [hrp.len] at hpl
          have hts : (L.take (q + 1)).any (fun ph => decide ((a : Int) ∈ ph)) = ((L.take q).any (fun ph => decide ((a : Int) ∈ ph)) || decide ((a : Int) ∈ ph)) := by rw [take_snoc hp, List.any_append]; simp
          obtain ⟨f, hf⟩ : ∃ f, ((L.take q).any fun ph => decide ((a : Int) ∈ ph)) = f := ⟨_, rfl⟩
          rw [hf] at hts ⊢
          have ci := isIn_c A5 n5 c5 ph a wr _ (hrp.below hb) hzr3 (by omega)
          obtain ⟨u, hu⟩ : ∃ u, decide ((a : Int) ∈ ph) = u := ⟨_, rfl⟩
          rw [hu] at hts ci
          have CII := Lib.hid ci
          have HTS := Lib.hid hts
          have HBr := Lib.hid hb
          clear hcp hrp hp hf hu hts ci hb
          cases f
          · go_wp2_with fail
            clear r1
            refine CII.out.mono ?_
            rintro e wc ⟨rfl, hbc⟩
            have hbn := HBr.out.trans (hbc.mono hzr3)
            go_wp2_with fail
            go_roundw
            case rel => exact ⟨q + 1, by omega, by go_num, by rw [HTS.out]; first | rfl | simp, hbn⟩
            case measure => simp [intOf]; omega
          · go_wp2_with fail
            go_roundw
            case rel => exact ⟨q + 1, by omega, by go_num, by rw [HTS.out]; rfl, HBr.out⟩
            case measure => simp [intOf]; omega
        · obtain rfl : q = k := by omega
          have htk : L.take q = L := List.take_of_length_le (by rw [HL4.out]; exact Nat.le_refl _)
          rw [htk]
          obtain ⟨u, hu⟩ : ∃ u, (L.any fun ph => decide ((a : Int) ∈ ph)) = u := ⟨_, rfl⟩
          rw [hu]
          cases u
          · have HE : Hid (coverB m L = false) := Lib.hid (by
              rw [coverB, List.all_eq_false]
              exact ⟨a, List.mem_range.2 ham, by rw [hu]; decide⟩)
            clear htk hu
            go_wp2_with fail
            go_ret
            exact ⟨by rw [HE.out]; rfl, hb⟩
          · have HN : Hid (∀ i : Nat, i < a + 1 → (L.any fun ph => decide ((i : Int) ∈ ph)) = true) := Lib.hid (fun i hi => by
              rcases Nat.lt_or_ge i a with h | h
              · exact hall.out i h
              · have : i = a := by omega
                subst this; exact hu)
            clear htk hu hall
            go_wp2_with fail
            go_roundw
            case rel => exact ⟨a + 1, by omega, by go_num, HN, hb⟩
            case measure => simp [intOf]; omega
    · obtain rfl : a = m := by omega
      have HE : Hid (coverB a L = true) := Lib.hid (by
        rw [coverB, List.all_eq_true]
        exact fun i hi => hall.out i (List.mem_range.1 hi))
      clear hall
      go_wp2_with fail
      go_ret
      exact ⟨by rw [HE.out]; rfl, hb⟩

theorem best_in (m : Nat) (L : List (List Int)) : ∀ M, ∀ x ∈ bestF m L M, 0 ≤ x ∧ x < L.length
  | 0, x, hx => by cases hx
  | M + 1, x, hx => by
    rw [bestF] at hx
    split at hx
    · exact movesN_range hx
    · exact best_in m L M x hx
theorem best_len (m : Nat) (L : List (List Int)) : ∀ M, (bestF m L M).length ≤ L.length
  | 0 => Nat.zero_le _
  | M + 1 => by
    rw [bestF]
    split
    · exact movesN_len _ _
    · exact best_len m L M
theorem best_yes {m M : Nat} {L : List (List Int)} (h1 : 1 ≤ M) (hc : coverB m (rowsAt L (movesN L.length M)) = true) (hb : betterB (movesN L.length M) (bestF m L M) = true) : bestF m L (M + 1) = movesN L.length M := by
  rw [bestF, if_pos (by rw [hc, hb, decide_eq_true h1]; rfl)]
theorem best_no {m M : Nat} {L : List (List Int)} (h : coverB m (rowsAt L (movesN L.length M)) = false ∨ betterB (movesN L.length M) (bestF m L M) = false) : bestF m L (M + 1) = bestF m L M := by
  rw [bestF, if_neg]
  rcases h with h | h <;> simp [h]
theorem better_zero {p b : List Int} (h : b.length = 0) : betterB p b = true := by simp [betterB, h]
theorem better_lt {p b : List Int} (h : p.length < b.length) : betterB p b = true := by simp [betterB, h]
theorem better_gt {p b : List Int} (h0 : b.length ≠ 0) (h : b.length < p.length) : betterB p b = false := by
  simp only [betterB, decide_eq_false h0, decide_eq_false (show ¬ p.length < b.length by omega), decide_eq_false (show ¬ p.length = b.length by omega)]; rfl
theorem better_eq {p b : List Int} (h0 : b.length ≠ 0) (h : p.length = b.length) : betterB p b = lessL p b := by
  simp only [betterB, decide_eq_false h0, decide_eq_false (show ¬ p.length < b.length by omega), decide_eq_true h]; simp
theorem rowsAt_take {L : List (List Int)} {p : List Int} {j : Nat} {x : Int} {row : List Int} (h : p[j]? = some x) (hr : L[x.toNat]? = some row) : rowsAt L (p.take (j + 1)) = rowsAt L (p.take j) ++ [row] := by
  rw [take_snoc h, rowsAt, List.map_append]
  congr 1
  simp [List.getD_eq_getElem?_getD, hr]
def RdRows (w : World) (xss : List (List Int)) (e : Ending) (w' : World) : Prop :=
  ∃ A n c, e = .returned (.slice A n c) ∧ Sl2 w' w'.heap.size ILit A n c xss ∧ Below w.heap.size w w'
end Go.Proofs.YtfdlcphiidfkcaaDoor
