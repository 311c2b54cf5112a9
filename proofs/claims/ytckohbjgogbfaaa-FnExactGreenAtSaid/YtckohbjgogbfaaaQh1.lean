/- The exact laws' helpers on plans: szPlan, eqPlan. -/
import Derived.Test.YtckohbjgogbfaaaQh0
import Derived.Test.YtckohbjgogbfaaaBd
import Derived.Test.YtckohbjgogbfaaaBb
set_option linter.unusedVariables false
set_option linter.unusedSimpArgs false
namespace Go.Proofs.Ytckohbjgogbfaaa
open Go.RowKit

/-- What is left: negative, or the rows are short. -/
def SzPost (left : Int) (G : Prop) (w : World) (e : Ending) (w' : World) : Prop := ∃ v : Int, e = .returned (.int .i64 v) ∧ -1 ≤ v ∧ v ≤ left ∧ (0 ≤ v → G) ∧ Below w.heap.size w w'

theorem szStage_c (A : Option Addr) (n c : Nat) (g left : Int) (w : World) (hn : n ≤ 9223372036854775807) (h0 : 0 ≤ left) (h1 : left ≤ 1048576) :
    Calls Try.prog 63 #[.agg #[.slice A n c, .int .i64 g], .int .i64 left] w (SzPost left ((n : Int) ≤ left) w) := by
  obtain ⟨W2, hW2⟩ : ∃ W2, w.alloc (.cells #[.slice A n c, .int .i64 g] 82) = W2 := ⟨_, rfl⟩
  have hb0 : Below w.heap.size w W2 := by rw [← hW2]; exact (Below.refl _ _).alloc (Nat.le_refl _) _
  have hh : W2.heap[w.heap.size]? = some (.cells #[.slice A n c, .int .i64 g] 82 (0, 0)) := by rw [← hW2]; exact heap_alloc_new w _
  have k0 : W2.cell? ⟨w.heap.size, 0, none⟩ = some (.slice A n c) := by rw [cell_of_row _ _ _ _ _ _ hh]; rfl
  have cs := szIntS_c A n c left W2 hn h0 h1
  clear hh
  by_cases hle : (n : Int) ≤ left
  · rw [if_pos hle] at cs
    have CS := Lib.hid cs
    have hneg : ¬ left - (n : Int) < 0 := by omega
    clear cs
    go_enter Try.func63, Try.ntmps63
    go_wp2_with fail
    clear hW2
    refine CS.out.mono ?_
    rintro e w1 ⟨rfl, rfl⟩
    go_wp2_with fail
    go_ret
    exact ⟨_, rfl, by omega, by omega, fun _ => by omega, hb0⟩
  · rw [if_neg hle] at cs
    have CS := Lib.hid cs
    clear cs
    go_enter Try.func63, Try.ntmps63
    go_wp2_with fail
    clear hW2
    refine CS.out.mono ?_
    rintro e w1 ⟨rfl, rfl⟩
    go_wp2_with fail
    go_ret
    exact ⟨_, rfl, by omega, by omega, fun h => by omega, hb0⟩

set_option maxHeartbeats 4000000 in
theorem szStageS_c (A : Option Addr) (n c : Nat) (ss : List (List Int × Int)) (left : Int) (w : World) (B : Nat) (hS : SlS w B A n c ss) (hB : B ≤ w.heap.size) (h0 : 0 ≤ left) (h1 : left ≤ 1048576) :
    Calls Try.prog 39 #[.slice A n c, .int .i64 left] w (SzPost left (n ≤ 1048576 ∧ ∀ s ∈ ss, s.1.length + n ≤ 1048576) w) := by
  obtain ⟨hc0, hc1⟩ := hS.cap
  have HL := Lib.hid hS.len
  have hS0 := hS.more hB
  clear hS
  by_cases hle : (n : Int) ≤ left
  · have hneg : ¬ left - (n : Int) < 0 := by omega
    go_enter Try.func39, Try.ntmps39
    go_wp2_with fail
    go_loopw [1, 5] (fun l i wr => ∃ (k : Nat) (L : Int), k ≤ n ∧ i = .int .i64 k ∧ l = .int .i64 L ∧ 0 ≤ L ∧ L ≤ left - n ∧ Hid (∀ s ∈ ss.take k, s.1.length + n ≤ 1048576) ∧ Below w.heap.size w wr) (fun _ i _ => n - (intOf i).toNat)
    case atStart => exact ⟨0, _, by omega, rfl, rfl, by omega, by omega, Lib.hid (by simp), Below.refl _ _⟩
    case round =>
      obtain ⟨k, L, hk, rfl, rfl, hL0, hL1, hall, hb⟩ := hrel
      have hzr := hb.size
      by_cases hlt : k < n
      · obtain ⟨b, o, ph, g, A1, n1, c1, rfl, hbl, hx, hcell, hcellg, hrow⟩ := (hS0.below hb).at_ hlt
        have hn1 := hrow.cap
        have r1 : wr.cell? ⟨b, o + k * 2, none⟩ = some (.slice A1 n1 c1) := hcell
        have r2 : wr.cell? ⟨b, o + k * 2 + 1, none⟩ = some (.int .i64 g) := hcellg
        have CS := Lib.hid (szStage_c A1 n1 c1 g L wr (by omega) hL0 (by omega))
        have HN : Hid ((n1 : Int) ≤ L → ∀ s ∈ ss.take (k + 1), s.1.length + n ≤ 1048576) := Lib.hid fun h s hs => by
          rw [take_snoc hx] at hs
          rcases List.mem_append.1 hs with hs | hs
          · exact hall.out s hs
          · simp at hs; subst hs; show ph.length + n ≤ _; rw [hrow.len]; omega
        clear hcell hcellg hx hrow
        go_wp2_with fail
        refine CS.out.mono ?_
        rintro e w1 ⟨v, rfl, hv0, hv1, hvG, hb1⟩
        have HG := Lib.hid hvG
        have hb01 := hb.trans (hb1.mono hzr)
        clear CS hvG hb1
        by_cases hvn : v < 0
        · go_wp2_with fail
          go_ret
          exact ⟨_, rfl, by omega, by omega, fun h => by omega, hb01⟩
        · go_wp2_with fail
          go_roundw
          case rel => exact ⟨k + 1, v, by omega, by go_num, rfl, by omega, by omega, Lib.hid (HN.out (HG.out (by omega))), hb01⟩
          case measure => simp [intOf]; omega
      · obtain rfl : k = n := by omega
        have hE := hall.out
        rw [List.take_of_length_le (by rw [HL.out]; exact Nat.le_refl _)] at hE
        have HE := Lib.hid hE
        clear hE
        go_wp2_with fail
        go_ret
        exact ⟨_, rfl, by omega, by omega, fun _ => ⟨by omega, HE.out⟩, hb⟩
  · have hneg : left - (n : Int) < 0 := by omega
    go_enter Try.func39, Try.ntmps39
    go_wp2_with fail
    go_ret
    exact ⟨_, rfl, by omega, by omega, fun h => by omega, Below.refl _ _⟩

/-- A plan is small. -/
def Small (t : List (List Int)) (ss : List (List Int × Int)) : Prop := t.length ≤ 1048576 ∧ tot t ≤ 1048576 ∧ ss.length ≤ 1048576 ∧ ∀ s ∈ ss, s.1.length + ss.length ≤ 1048576
set_option maxHeartbeats 4000000 in
theorem szPlan_c (At : Option Addr) (m ct : Nat) (t : List (List Int)) (A : Option Addr) (n c : Nat) (ss : List (List Int × Int)) (w : World) (B : Nat) (hT : Sl2 w B ILit At m ct t) (hS : SlS w B A n c ss) (hB : B ≤ w.heap.size) :
    Calls Try.prog 15 #[.agg #[.slice At m ct, .slice A n c], .int .i64 1048576] w (SzPost 1048576 (Small t ss) w) := by
  obtain ⟨W2, hW2⟩ : ∃ W2, w.alloc (.cells #[.slice At m ct, .slice A n c] 42) = W2 := ⟨_, rfl⟩
  have hb0 : Below w.heap.size w W2 := by rw [← hW2]; exact (Below.refl _ _).alloc (Nat.le_refl _) _
  have hh : W2.heap[w.heap.size]? = some (.cells #[.slice At m ct, .slice A n c] 42 (0, 0)) := by rw [← hW2]; exact heap_alloc_new w _
  have k0 : W2.cell? ⟨w.heap.size, 0, none⟩ = some (.slice At m ct) := by rw [cell_of_row _ _ _ _ _ _ hh]; rfl
  have k1 : W2.cell? ⟨w.heap.size, 1, none⟩ = some (.slice A n c) := by rw [cell_of_row _ _ _ _ _ _ hh]; rfl
  have hT0 := ((hT.more hB).below hb0).more hb0.size
  have hS0 := ((hS.more hB).below hb0).more hb0.size
  have hsl := hS.len
  have CT := Lib.hid (szIntSS_c At m ct t 1048576 W2 _ hT0 (by omega) (by omega))
  have hbd := szV_bd t (left := 1048576) (by omega)
  have hle : 0 ≤ szV t 1048576 → _ := szV_le
  obtain ⟨V, hV⟩ : ∃ V, szV t 1048576 = V := ⟨_, rfl⟩
  rw [hV] at CT hbd hle
  have HLE := Lib.hid hle
  clear hh hT hS hT0 hV hle
  by_cases hneg : V < 0
  · go_enter Try.func15, Try.ntmps15
    go_wp2_with fail
    clear hW2
    refine CT.out.mono ?_
    rintro e w1 ⟨rfl, rfl⟩
    go_wp2_with fail
    go_ret
    exact ⟨_, rfl, by omega, by omega, fun h => by omega, hb0⟩
  · have CS := Lib.hid (szStageS_c A n c ss V W2 _ hS0 (Nat.le_refl _) (by omega) (by omega))
    clear hS0
    go_enter Try.func15, Try.ntmps15
    go_wp2_with fail
    clear hW2
    refine CT.out.mono ?_
    rintro e w1 ⟨rfl, rfl⟩
    go_wp2_with fail
    refine CS.out.mono ?_
    rintro e w1 ⟨v, rfl, hv0, hv1, hvG, hb1⟩
    have HG := Lib.hid hvG
    clear hvG
    by_cases hvn : v < 0
    · go_wp2_with fail
      go_ret
      exact ⟨_, rfl, by omega, by omega, fun h => by omega, hb0.trans (hb1.mono hb0.size)⟩
    · go_wp2_with fail
      go_ret
      exact ⟨_, rfl, by omega, by omega, fun h => by
        have h1 := HLE.out (by omega)
        obtain ⟨h2, h3⟩ := HG.out h
        exact ⟨by omega, by omega, by omega, fun s hs => by have := h3 s hs; omega⟩, hb0.trans (hb1.mono hb0.size)⟩
end Go.Proofs.Ytckohbjgogbfaaa
