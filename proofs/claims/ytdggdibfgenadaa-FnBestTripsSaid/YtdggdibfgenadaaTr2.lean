/- TripTime of the program, and its exact law. -/
import Derived.Test.YtdggdibfgenadaaTr1
import Derived.Test.YtdggdibfgenadaaHi
set_option linter.unusedVariables false
set_option linter.unusedSimpArgs false
namespace Go.Proofs.Ytdggdibfgenadaa
open Go.RowKit

/-- The array of the floors seen: ys. -/
def Seen (w : World) (g : Nat) (ys : List Int) : Prop :=
  ∃ cs, w.heap[g]? = some (.cells cs 38 (0, 0)) ∧ cs.size = 16 ∧ ∀ f : Nat, f < 16 → cs[f]? = some (.bool (decide ((f : Int) ∈ ys)))
section
variable {w w' : World} {g : Nat} {ys : List Int}
theorem Seen.lt (h : Seen w g ys) : g < w.heap.size := by
  obtain ⟨cs, h1, -⟩ := h
  exact lt_of_heap h1
theorem Seen.cell (h : Seen w g ys) {f : Nat} (hf : f < 16) : w.cell? ⟨g, f, none⟩ = some (.bool (decide ((f : Int) ∈ ys))) := by
  obtain ⟨cs, h1, -, h2⟩ := h
  rw [cell_of_row w g f cs _ _ h1]
  exact h2 f hf
theorem Seen.free (h : Seen w g ys) (f : Nat) : w.frozen? ⟨g, f, none⟩ = false := by
  obtain ⟨cs, h1, -⟩ := h
  simp [World.frozen?, h1]
theorem Seen.old (h : Seen w g ys) {x : Int} (hx : x ∈ ys) : Seen w g (ys ++ [x]) := by
  obtain ⟨cs, h1, h3, h2⟩ := h
  refine ⟨cs, h1, h3, fun f hf => ?_⟩
  have e : ((f : Int) ∈ ys ++ [x]) = ((f : Int) ∈ ys) := by
    apply propext
    rw [mem_snoc]
    exact ⟨fun h' => h'.elim id fun e => e ▸ hx, .inl⟩
  simp only [e]
  exact h2 f hf
theorem Seen.set (h : Seen w g ys) {x : Nat} (hx : x < 16) : Seen (w.setCell ⟨g, x, none⟩ (.bool true)) g (ys ++ [(x : Int)]) := by
  obtain ⟨cs, h1, h3, h2⟩ := h
  refine ⟨_, heap_setCell_same w g x cs _ _ h1, by simp [h3], fun f hf => ?_⟩
  rw [Array.getElem?_setIfInBounds]
  by_cases he : x = f
  · subst he
    rw [if_pos rfl, if_pos (by omega), decide_eq_true (mem_snoc.2 (.inr rfl))]
  · have e : ((f : Int) ∈ ys ++ [(x : Int)]) = ((f : Int) ∈ ys) := by
      apply propext
      rw [mem_snoc]
      exact ⟨fun h' => h'.elim id fun e => by omega, .inl⟩
    rw [if_neg he]
    simp only [e]
    exact h2 f hf
theorem Seen.below (h : Seen w g ys) (hb : Below w.heap.size w w') : Seen w' g ys := by
  obtain ⟨cs, h1, h2⟩ := h
  exact ⟨cs, (hb.block g (lt_of_heap h1)).trans h1, h2⟩
end
theorem seen_start (w : World) (cs : Array Value) (h : cs = #[.bool false, .bool false, .bool false, .bool false, .bool false, .bool false, .bool false, .bool false, .bool false, .bool false, .bool false, .bool false, .bool false, .bool false, .bool false, .bool false]) : Seen (w.alloc (.cells cs 38)) w.heap.size [] := by
  subst h
  refine ⟨_, heap_alloc_new w _, rfl, fun f hf => ?_⟩
  have e : decide ((f : Int) ∈ ([] : List Int)) = false := by simp
  rw [e]
  iterate 16 (rcases f with _ | f; rfl)
  omega

set_option maxHeartbeats 2000000 in
theorem tripTime_c (A : Option Addr) (n c : Nat) (xs : List Int) (w : World) (B : Nat) (hS : Sl w B ILit A n c xs) (hB : B ≤ w.heap.size) :
    Calls Try.prog 13 #[.slice A n c] w fun e w' => e = .returned (.int .i64 (tripF xs)) ∧ Below w.heap.size w w' := by
  obtain ⟨hc0, hc1⟩ := hS.cap
  have cv := validTrip_c A n c xs w B hS hB
  cases hok : tripOk xs
  · have e : tripF xs = -1 := by simp [tripF, hok]
    rw [hok] at cv
    have CV := Lib.hid cv
    rw [e]
    clear e hok cv
    go_enter Try.func13, Try.ntmps13
    go_wp2_with fail
    refine CV.out.mono ?_
    rintro e w1 ⟨rfl, hb1⟩
    go_wp2_with fail
    go_ret
    exact ⟨rfl, hb1⟩
  · have e : tripF xs = tripN xs := by simp [tripF, hok]
    obtain ⟨h12, h15⟩ := tripOk_all hok
    have HM := Lib.hid h15
    rw [hS.len] at h12
    have HL := Lib.hid hS.len
    rw [hok] at cv
    have CV := Lib.hid cv
    rw [e]
    clear e hok cv h15
    go_enter Try.func13, Try.ntmps13
    go_wp2_with fail
    refine CV.out.mono ?_
    rintro e w1 ⟨rfl, hb1⟩
    have hz := hb1.size
    have hS1 := (hS.more hB).below hb1
    clear hS CV
    go_wp2_with fail
    go_loopw [4, 5, 13] (fun h s i wr => ∃ (k : Nat) (hh ss : Int), k ≤ n ∧ i = .int .i64 k ∧ h = .int .i64 hh ∧ s = .int .i64 ss ∧ Hid (mostU (xs.take k) 15 = hh) ∧ Hid (stopsU (xs.take k) 15 = ss) ∧ Seen wr w1.heap.size (xs.take k) ∧ Below w.heap.size w wr) (fun _ _ i _ => n - (intOf i).toNat)
    case atStart => exact ⟨0, 0, 0, by omega, rfl, rfl, rfl, Lib.hid rfl, Lib.hid rfl, seen_start w1 _ rfl, by (repeat' (first | (with_reducible exact Below.refl _ _) | (with_reducible assumption) | (with_reducible refine Below.alloc ?_ ?_ _) | (with_reducible refine below_plus ?_ ?_ _ _) | (with_reducible refine Below.drew ?_) | (with_reducible refine Below.setCell ?_ ?_ _) | (with_reducible refine below_adv ?_ ?_ _) | go_size | (simp; done) | (simp; omega)))⟩
    case round =>
      obtain ⟨k, hh, ss, hk, rfl, rfl, rfl, hm, hs, hseen, hb⟩ := hrel
      have h1 := mostU_le (xs.take k) 15
      have h2 := stopsU_le (xs.take k) 15
      rw [hm.out] at h1
      rw [hs.out] at h2
      by_cases hlt : k < n
      · have hS2 := (hS1.keep (w' := wr) fun b o hbl => (hb.cell (p := ⟨b, o, none⟩) hbl).trans (hb1.cell (p := ⟨b, o, none⟩) hbl).symm)
        obtain ⟨b, o, x, rfl, hbl, hx, hcell⟩ := hS2.at_ hlt
        have hcell' : wr.cell? ⟨b, o + k, none⟩ = some (.int .i64 x) := hcell
        obtain ⟨hx1, hx15⟩ := HM.out x (List.mem_of_getElem? hx)
        obtain ⟨x, rfl⟩ := Int.eq_ofNat_of_zero_le (show 0 ≤ x by omega)
        have hfr := hseen.free x
        have hsc := hseen.cell (f := x) (by omega)
        have hgl := hseen.lt
        have e1 : Hid (mostU (xs.take (k + 1)) 15 = if hh < (x : Int) then (x : Int) else hh) := Lib.hid (by
          rw [take_snoc hx, mostU_snoc _ 15 (by omega), hm.out]
          split <;> omega)
        clear hcell hS2 hS1
        by_cases hin : (x : Int) ∈ xs.take k
        · have e2 : Hid (stopsU (xs.take (k + 1)) 15 = ss) := Lib.hid (by
            rw [take_snoc hx, stopsU_old hin, hs.out])
          have hn2 := hseen.old hin
          rw [← take_snoc hx] at hn2
          rw [decide_eq_true hin] at hsc
          clear hseen hx hin
          go_wp2_with fail
          go_roundw
          case rel => exact ⟨k + 1, _, _, by omega, by go_num, rfl, rfl, e1, e2, hn2, by (repeat' (first | (with_reducible exact Below.refl _ _) | (with_reducible assumption) | (with_reducible refine Below.alloc ?_ ?_ _) | (with_reducible refine below_plus ?_ ?_ _ _) | (with_reducible refine Below.drew ?_) | (with_reducible refine Below.setCell ?_ ?_ _) | (with_reducible refine below_adv ?_ ?_ _) | go_size | (simp; done) | (simp; omega)))⟩
          case measure => simp [intOf]; omega
        · have e2 : Hid (stopsU (xs.take (k + 1)) 15 = ss + 1) := Lib.hid (by
            rw [take_snoc hx, stopsU_new hin (by omega), hs.out, if_pos (by omega)])
          have hn2 := hseen.set (x := x) (by omega)
          rw [← take_snoc hx] at hn2
          rw [decide_eq_false hin] at hsc
          clear hseen hx hin
          go_wp2_with fail
          go_roundw
          case rel => exact ⟨k + 1, _, _, by omega, by go_num, rfl, by go_num, e1, e2, hn2, by (repeat' (first | (with_reducible exact Below.refl _ _) | (with_reducible assumption) | (with_reducible refine Below.alloc ?_ ?_ _) | (with_reducible refine below_plus ?_ ?_ _ _) | (with_reducible refine Below.drew ?_) | (with_reducible refine Below.setCell ?_ ?_ _) | (with_reducible refine below_adv ?_ ?_ _) | go_size | (simp; done) | (simp; omega)))⟩
          case measure => simp [intOf]; omega
      · obtain rfl : k = n := by omega
        have ht : Hid (xs.take k = xs) := Lib.hid (List.take_of_length_le (by rw [HL.out]; omega))
        go_wp2_with fail
        go_ret
        exact ⟨by rw [tripN, ← hm.out, ← hs.out, ht.out]; rfl, by (repeat' (first | (with_reducible exact Below.refl _ _) | (with_reducible assumption) | (with_reducible refine Below.alloc ?_ ?_ _) | (with_reducible refine below_plus ?_ ?_ _ _) | (with_reducible refine Below.drew ?_) | (with_reducible refine Below.setCell ?_ ?_ _) | (with_reducible refine below_adv ?_ ?_ _) | go_size | (simp; done) | (simp; omega)))⟩

set_option maxHeartbeats 1000000 in
theorem exactTripTime_walk (A : Option Addr) (n c : Nat) (xs : List Int) (w : World) (hS : Sl w w.heap.size ILit A n c xs) :
    Calls Try.prog 3 #[.slice A n c] w fun e w' => e = .returned (.bool true) ∧ Below w.heap.size w w' := by
  obtain ⟨hc0, hc1⟩ := hS.cap
  by_cases hn : 1048576 < n
  · go_enter Try.func3, Try.ntmps3
    go_wp2
    go_ret
    exact ⟨rfl, by (repeat' (first | (with_reducible exact Below.refl _ _) | (with_reducible assumption) | (with_reducible refine Below.alloc ?_ ?_ _) | (with_reducible refine below_plus ?_ ?_ _ _) | (with_reducible refine Below.drew ?_) | (with_reducible refine Below.setCell ?_ ?_ _) | (with_reducible refine below_adv ?_ ?_ _) | go_size | (simp; done) | (simp; omega)))⟩
  · have hlen := hS.len
    have HL := Lib.hid hlen
    obtain ⟨R, hR⟩ : ∃ R, tripF xs = R := ⟨_, rfl⟩
    have HO := Lib.hid hR
    clear hlen hR
    go_enter Try.func3, Try.ntmps3
    go_wp2_with fail
    refine (toIntS_c A n c xs w _ hS (Nat.le_refl _) (by omega)).mono ?_
    rintro e w1 ⟨rfl, hw1⟩
    have hb1 : Below w.heap.size w w1 := by rw [← hw1]; exact (Below.refl _ _).alloc (Nat.le_refl _) _
    have hz1 : w.heap.size < w1.heap.size := by rw [← hw1]; simp
    have hS1 : Sl w1 w1.heap.size ILit (some ⟨w.heap.size, 0, none⟩) n n xs := by
      rw [← hw1, ← HL.out]
      exact (Ow.new w ILit xs _ (by rw [HL.out]; omega)).sl
    clear hw1
    go_wp2_with fail
    refine (sTripTime_c _ n n xs w1 _ hS1 (Nat.le_refl _)).mono ?_
    rintro e w2 ⟨rfl, hb2⟩
    rw [HO.out]
    have hb2' : Below w.heap.size w w2 := hb1.trans (hb2.mono (by omega))
    have hz2 := hb2.size
    clear hS1
    go_wp2_with fail
    refine (toIntS_c A n c xs w2 _ (hS.below hb2') (by omega) (by omega)).mono ?_
    rintro e w3 ⟨rfl, hw3⟩
    have hb3 : Below w2.heap.size w2 w3 := by rw [← hw3]; exact (Below.refl _ _).alloc (Nat.le_refl _) _
    have hz3 : w2.heap.size < w3.heap.size := by rw [← hw3]; simp
    have hb3' : Below w.heap.size w w3 := hb2'.trans (hb3.mono (by omega))
    have hS3 : Sl w3 w3.heap.size ILit (some ⟨w2.heap.size, 0, none⟩) n n xs := by
      rw [← hw3, ← HL.out]
      exact (Ow.new w2 ILit xs _ (by rw [HL.out]; omega)).sl
    clear hw3
    go_wp2_with fail
    refine (tripTime_c _ n n xs w3 _ hS3 (Nat.le_refl _)).mono ?_
    rintro e w4 ⟨rfl, hb4⟩
    rw [HO.out]
    have hb4' : Below w.heap.size w w4 := hb3'.trans (hb4.mono (by omega))
    have hz4 := hb4.size
    go_wp2_with fail
    refine (toIntS_c A n c xs w4 _ (hS.below hb4') (by omega) (by omega)).mono ?_
    rintro e w5 ⟨rfl, hw5⟩
    have hb5 : Below w4.heap.size w4 w5 := by rw [← hw5]; exact (Below.refl _ _).alloc (Nat.le_refl _) _
    have hz5 : w4.heap.size < w5.heap.size := by rw [← hw5]; simp
    have hb5' : Below w.heap.size w w5 := hb4'.trans (hb5.mono (by omega))
    have hS5 : Sl w5 w5.heap.size ILit (some ⟨w4.heap.size, 0, none⟩) n n xs := by
      rw [← hw5, ← HL.out]
      exact (Ow.new w4 ILit xs _ (by rw [HL.out]; omega)).sl
    clear hw5
    have hS3' : Sl w5 w3.heap.size ILit (some ⟨w2.heap.size, 0, none⟩) n n xs := (hS3.below hb4).below (hb5.mono (by omega))
    have he := eqIntS_c _ _ _ xs _ _ _ xs w5 _ _ hS3' (by omega) hS5 (Nat.le_refl _)
    rw [eqL_true rfl] at he
    have HE := Lib.hid he
    clear he hS3 hS3' hS5 hS
    go_wp2_with fail
    refine HE.out.mono ?_
    rintro e w6 ⟨rfl, hb6⟩
    go_wp2_with fail
    go_ret
    exact ⟨rfl, hb5'.trans (hb6.mono (by omega))⟩
end Go.Proofs.Ytdggdibfgenadaa
