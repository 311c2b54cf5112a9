/- impl.GreedyShare, walked: it gives a share that fits. -/
import Derived.Test.YtillmnhhkhjpkaaSd5
set_option linter.unusedVariables false
set_option linter.unusedSimpArgs false
namespace Go.Proofs.Ytillmnhhkhjpkaa
open Go.RowKit

def AnyShare (w : World) (n nc : Nat) (e : Ending) (w' : World) : Prop :=
  ∃ A c ss, e = .returned (.slice A n c) ∧ Sl w' w'.heap.size NLit A n c ss ∧ (∀ s ∈ ss, s < nc) ∧ Below w.heap.size w w'
theorem six_keep (w : World) (g g' : Nat) (hne : g' ≠ g) (a0 a1 a2 a3 a4 a5 : Value) :
    ((((((w.setCell ⟨g, 0, none⟩ a0).setCell ⟨g, 1, none⟩ a1).setCell ⟨g, 2, none⟩ a2).setCell ⟨g, 3, none⟩ a3).setCell ⟨g, 4, none⟩ a4).setCell ⟨g, 5, none⟩ a5).heap[g']? = w.heap[g']? := by
  refine (Below.heap_setCell _ ⟨g, 5, none⟩ _ g' hne).trans ((Below.heap_setCell _ ⟨g, 4, none⟩ _ g' hne).trans ((Below.heap_setCell _ ⟨g, 3, none⟩ _ g' hne).trans ((Below.heap_setCell _ ⟨g, 2, none⟩ _ g' hne).trans ((Below.heap_setCell _ ⟨g, 1, none⟩ _ g' hne).trans (Below.heap_setCell _ ⟨g, 0, none⟩ _ g' hne)))))
theorem six_size (w : World) (g : Nat) (a0 a1 a2 a3 a4 a5 : Value) :
    ((((((w.setCell ⟨g, 0, none⟩ a0).setCell ⟨g, 1, none⟩ a1).setCell ⟨g, 2, none⟩ a2).setCell ⟨g, 3, none⟩ a3).setCell ⟨g, 4, none⟩ a4).setCell ⟨g, 5, none⟩ a5).heap.size = w.heap.size := by
  simp [World.setCell]
theorem cells_call {w : World} {g : Nat} {x y z : Value} {t : TypeId} (h : w.heap[g]? = some (.cells #[x, y, z] t (0, 0))) :
    w.cell? ⟨g, 0, none⟩ = some x ∧ w.cell? ⟨g, 1, none⟩ = some y ∧ w.cell? ⟨g, 2, none⟩ = some z := by
  refine ⟨?_, ?_, ?_⟩ <;> rw [cell_of_row _ _ _ _ _ _ h] <;> rfl
theorem nats_snoc (l : List Nat) (g : Nat) : l.map NLit ++ [.int .i64 (g : Int)] = (l ++ [g]).map NLit := by simp [NLit]
set_option maxRecDepth 4000 in
set_option maxHeartbeats 8000000 in
theorem greedy_c (Ac : Option Addr) (nc cc : Nat) (cars : List Int) (A : Option Addr) (n c : Nat) (cs : List CallT) (w : World) (B : Nat) (hC : Sl w B ILit Ac nc cc cars) (hT : SlC w B A n c cs) (hB : B ≤ w.heap.size) (hn : nc ≤ 1048576)
    (hok : okS cars cs = true) :
    Calls Try.prog 9 #[.slice Ac nc cc, .slice A n c] w (AnyShare w n nc) := by
  obtain ⟨i0, hi, hi0, hi1, hi2⟩ := info_parts info_int
  obtain ⟨hc0, hc1⟩ := hT.cap
  obtain ⟨he0, he1⟩ := hC.cap
  have hl := hC.len
  have hl2 := hT.len
  have cv := validShares_c Ac nc cc cars A n c cs w _ hC hT hB (by omega)
  rw [hok] at cv
  have CV := Lib.hid cv
  obtain ⟨⟨k1, k3, hca⟩, h6, hcl⟩ := okS_iff.1 hok
  rw [hl] at k1 k3
  rw [hl2] at h6
  have CN := Lib.hid (fun w' (hb : Below w.heap.size w w') => newFleet_c Ac nc cc cars w' B (hC.below (hb.mono hB)) (Nat.le_trans hB hb.size) k1 k3)
  have HT := Lib.hid (hT.more hB)
  have HSM := Lib.hid (flt0_small hca)
  have HCL := Lib.hid hcl
  clear cv hok hca hcl hC hT
  go_enter Try.func9, Try.ntmps9
  go_wp2_with fail
  refine CV.out.mono ?_
  rintro e w1 ⟨rfl, hb1⟩
  go_wp2_with fail
  refine (CN.out _ hb1).mono ?_
  rintro e w3 ⟨rfl, hb3⟩
  have hb03 := hb1.trans (hb3.mono hb1.size)
  have hz03 := hb03.size
  clear hb1 hb3
  go_wp2_with fail
  obtain ⟨wB, hwB⟩ : ∃ wB, w3.alloc (.cells #[.int .i64 ((flt0 cars).at_ 0), .int .i64 ((flt0 cars).at_ 1), .int .i64 ((flt0 cars).at_ 2), .int .i64 ((flt0 cars).way 0), .int .i64 ((flt0 cars).way 1), .int .i64 ((flt0 cars).way 2)] 37) = wB := ⟨_, rfl⟩
  rw [hwB]
  have hbB : Below w.heap.size w wB := by rw [← hwB]; exact hb03.alloc hz03 _
  have hbox : wB.heap[w3.heap.size]? = some (.cells #[.int .i64 ((flt0 cars).at_ 0), .int .i64 ((flt0 cars).at_ 1), .int .i64 ((flt0 cars).at_ 2), .int .i64 ((flt0 cars).way 0), .int .i64 ((flt0 cars).way 1), .int .i64 ((flt0 cars).way 2)] 37 (0, 0)) := by rw [← hwB]; exact heap_alloc_new w3 _
  obtain ⟨g, hg⟩ : ∃ g, w3.heap.size = g := ⟨_, rfl⟩
  rw [hg] at hbox hz03
  simp only [hg]
  clear hwB hg hb03
  go_loopw [6, 19] (fun v i wr => ∃ (k : Nat) (f : Flt) (ss : List Nat), k ≤ n ∧ i = .int .i64 k ∧ wr.ownsRow (g + 1) 3 1 v k (ss.map NLit) ∧ Hid (∀ s ∈ ss, s < nc) ∧ Hid (f.small (2000000 * k)) ∧ Hid (wr.heap[g]? = some (.cells #[.int .i64 (f.at_ 0), .int .i64 (f.at_ 1), .int .i64 (f.at_ 2), .int .i64 (f.way 0), .int .i64 (f.way 1), .int .i64 (f.way 2)] 37 (0, 0))) ∧ Below w.heap.size w wr) (fun _ i _ => n - (intOf i).toNat)
  case atStart => exact ⟨0, flt0 cars, [], by omega, rfl, World.ownsRow_nil _ _ _ _, Lib.hid (by simp), Lib.hid (by simpa using HSM.out), Lib.hid hbox, hbB⟩
  case round =>
    clear hbox hbB
    obtain ⟨k, f, ss, hk, rfl, hown, hss, hsm, hbox, hb⟩ := hrel
    have hzr0 := hb.size
    have qF := lt_of_heap hbox.out
    by_cases hlt : k < n
    · obtain ⟨b, o, x, y, z, rfl, hbl, hx, q1, q2, q3⟩ := (HT.out.below hb).at_ hlt
      obtain ⟨⟨x0, x1⟩, ⟨y0, y1⟩, -⟩ := HCL.out _ (List.mem_of_getElem? hx)
      dsimp only at x0 x1 y0 y1
      have n0 : (0 : Int) ≤ (k : Int) := by omega
      have n1 : (k : Int) < (n : Int) := by omega
      have u1 : b < wr.heap.size := by omega
      have CS := Lib.hid (fun (s : Nat) (hs : s < nc) w' => serve_c f s x y z w' (fun i => by have h := hsm.out i; omega) (by omega) ⟨x0, by omega⟩ ⟨y0, by omega⟩)
      have HSN : Hid (∀ s, (f.serve s (x, y)).small (2000000 * ((k + 1 : Nat) : Int))) := Lib.hid (fun s => by
        have h := hsm.out.serve (by omega) (c := (x, y)) (show 0 ≤ x ∧ x ≤ 1000000 by omega) (show 0 ≤ y ∧ y ≤ 1000000 by omega) s
        have e : 2000000 * ((k + 1 : Nat) : Int) = 2000000 * (k : Int) + 2000000 := by omega
        rw [e]; exact h)
      clear hx
      obtain ⟨wz, rfl⟩ : ∃ wz, wz = wr := ⟨_, rfl⟩
      go_wp2_with fail
      obtain ⟨wI, hwI⟩ : ∃ wI, wz.alloc (.cells #[.int .i64 x, .int .i64 y, .int .i64 z] 41) = wI := ⟨_, rfl⟩
      rw [hwI]
      have hzI : Below wz.heap.size wz wI := by rw [← hwI]; (repeat' (first | (with_reducible exact Below.refl _ _) | (with_reducible assumption) | (with_reducible refine Below.alloc ?_ ?_ _) | (with_reducible refine below_plus ?_ ?_ _ _) | (with_reducible refine Below.drew ?_) | (with_reducible refine Below.setCell ?_ ?_ _) | (with_reducible refine below_adv ?_ ?_ _) | go_size | (simp; done) | (simp; omega)))
      have hcall : wI.heap[wz.heap.size]? = some (.cells #[.int .i64 x, .int .i64 y, .int .i64 z] 41 (0, 0)) := by rw [← hwI]; exact heap_alloc_new wz _
      have hboxI := (hzI.block g qF).trans hbox.out
      have qI := lt_of_heap hcall
      have qFI := lt_of_heap hboxI
      have HCI := Lib.hid hcall
      have HBI := Lib.hid hboxI
      clear hwI q1 q2 q3 hcall hboxI
      go_loopw [9, 25] (fun cv i wr => ∃ (j ch : Nat), j ≤ nc ∧ i = .int .i64 j ∧ ch < nc ∧ cv = .int .i64 ch ∧ Below wI.heap.size wI wr) (fun _ i _ => nc - (intOf i).toNat)
      case atStart => exact ⟨0, 0, by omega, rfl, by omega, rfl, Below.refl _ _⟩
      case round =>
        obtain ⟨j, ch, hj, rfl, hch, rfl, hbr⟩ := hrel
        obtain ⟨b0, b1, b2, b3, b4, b5⟩ := cells_fleet ((hbr.block g qFI).trans HBI.out)
        have hzr1 := hbr.size
        have uF : g < wr.heap.size := by omega
        by_cases hlt2 : j < nc
        · obtain ⟨c0, c1, c2⟩ := cells_call ((hbr.block wz.heap.size qI).trans HCI.out)
          have u8 : wz.heap.size < wr.heap.size := by omega
          have CS1 := Lib.hid (fun (os : Array Obj) (d : Nat) => CS.out j hlt2 (plus wr os d))
          have CS2 := Lib.hid (fun (os : Array Obj) (d : Nat) => CS.out ch hch (plus wr os d))
          obtain ⟨F1, hF1⟩ : ∃ F1, f.serve j (x, y) = F1 := ⟨_, rfl⟩
          obtain ⟨F2, hF2⟩ : ∃ F2, f.serve ch (x, y) = F2 := ⟨_, rfl⟩
          rw [hF1] at CS1
          rw [hF2] at CS2
          have CC1 := Lib.hid (fun (os : Array Obj) (d : Nat) => cost_c F1 (plus wr os d))
          have CC2 := Lib.hid (fun (os : Array Obj) (d : Nat) => cost_c F2 (plus wr os d))
          obtain ⟨X1, hX1⟩ : ∃ X1, F1.cost = X1 := ⟨_, rfl⟩
          obtain ⟨X2, hX2⟩ : ∃ X2, F2.cost = X2 := ⟨_, rfl⟩
          rw [hX1] at CC1
          rw [hX2] at CC2
          have hd : decide (X1 < X2) = true ∨ decide (X1 < X2) = false := by cases decide (X1 < X2) <;> simp
          by_cases hXX : X1 < X2
          · clear hF1 hF2 hX1 hX2 hd
            go_wp2_with fail
            refine wp_region_plus (by kernel_rfl) (by kernel_rfl) ?_; (repeat (go_big_quiet_step ((first | (go_at_call 14; with_reducible exact quiet_plus (CS1.out _ _)) | (go_at_call 14; with_reducible exact quiet_plus (CS2.out _ _)) | (go_at_call 13; with_reducible exact quiet_plus (CC1.out _ _)) | (go_at_call 13; with_reducible exact quiet_plus (CC2.out _ _)))))); refine wpQuiet_nil ?_; intro _ hw'; obtain ⟨⟨osq, dq⟩, hw''⟩ := hw'; subst hw''
            go_wp2_with fail
            go_roundw
            case rel => exact ⟨j + 1, j, by omega, by go_num, hlt2, rfl, by (repeat' (first | (with_reducible exact Below.refl _ _) | (with_reducible assumption) | (with_reducible refine Below.alloc ?_ ?_ _) | (with_reducible refine below_plus ?_ ?_ _ _) | (with_reducible refine Below.drew ?_) | (with_reducible refine Below.setCell ?_ ?_ _) | (with_reducible refine below_adv ?_ ?_ _) | go_size | (simp; done) | (simp; omega)))⟩
            case measure => simp [intOf]; omega
          · clear hF1 hF2 hX1 hX2 hd
            go_wp2_with fail
            refine wp_region_plus (by kernel_rfl) (by kernel_rfl) ?_; (repeat (go_big_quiet_step ((first | (go_at_call 14; with_reducible exact quiet_plus (CS1.out _ _)) | (go_at_call 14; with_reducible exact quiet_plus (CS2.out _ _)) | (go_at_call 13; with_reducible exact quiet_plus (CC1.out _ _)) | (go_at_call 13; with_reducible exact quiet_plus (CC2.out _ _)))))); refine wpQuiet_nil ?_; intro _ hw'; obtain ⟨⟨osq, dq⟩, hw''⟩ := hw'; subst hw''
            go_wp2_with fail
            go_roundw
            case rel => exact ⟨j + 1, ch, by omega, by go_num, hch, rfl, by (repeat' (first | (with_reducible exact Below.refl _ _) | (with_reducible assumption) | (with_reducible refine Below.alloc ?_ ?_ _) | (with_reducible refine below_plus ?_ ?_ _ _) | (with_reducible refine Below.drew ?_) | (with_reducible refine Below.setCell ?_ ?_ _) | (with_reducible refine below_adv ?_ ?_ _) | go_size | (simp; done) | (simp; omega)))⟩
            case measure => simp [intOf]; omega
        · obtain rfl : j = nc := by omega
          obtain ⟨c0, c1, c2⟩ := cells_call ((hbr.block wz.heap.size qI).trans HCI.out)
          have u8 : wz.heap.size < wr.heap.size := by omega
          have hbxr := (hbr.block g qFI).trans HBI.out
          have hbz := hzI.trans (hbr.mono hzI.size)
          have hz9 := hbz.size
          have hbw := hb.trans (hbz.mono hzr0)
          clear b0 b1 b2 b3 b4 b5
          obtain ⟨b0, b1, b2, b3, b4, b5⟩ := cells_fleet hbxr
          have HXR := Lib.hid hbxr
          clear hbr hzI hbox
          go_wp2_with (first | (go_at_call 14; refine (CS.out ch hch _).mono ?_; rintro e w4 ⟨rfl, hb4⟩; have hz4 := hb4.size; have hbox4 := (hb4.block g uF).trans HXR.out; clear b0 b1 b2 b3 b4 b5 c0 c1 c2; obtain ⟨b0, b1, b2, b3, b4, b5⟩ := cells_fleet hbox4; have d0 := fun i => free_fleet (i := i) hbox4; have hown6 := own_keep (w' := ((((((w4.setCell ⟨g, 0, none⟩ (.int .i64 ((f.serve ch (x, y)).at_ 0))).setCell ⟨g, 1, none⟩ (.int .i64 ((f.serve ch (x, y)).at_ 1))).setCell ⟨g, 2, none⟩ (.int .i64 ((f.serve ch (x, y)).at_ 2))).setCell ⟨g, 3, none⟩ (.int .i64 ((f.serve ch (x, y)).way 0))).setCell ⟨g, 4, none⟩ (.int .i64 ((f.serve ch (x, y)).way 1))).setCell ⟨g, 5, none⟩ (.int .i64 ((f.serve ch (x, y)).way 2)))) (own_below hown (hbz.trans (hb4.mono hz9))) (fun g' h _ => six_keep w4 g g' (by omega) _ _ _ _ _ _); have hbox6 := six_set hbox4 (.int .i64 ((f.serve ch (x, y)).at_ 0)) (.int .i64 ((f.serve ch (x, y)).at_ 1)) (.int .i64 ((f.serve ch (x, y)).at_ 2)) (.int .i64 ((f.serve ch (x, y)).way 0)) (.int .i64 ((f.serve ch (x, y)).way 1)) (.int .i64 ((f.serve ch (x, y)).way 2)); have hbw4 := hbw.trans (hb4.mono hbw.size); have hbw6 : Below w.heap.size w ((((((w4.setCell ⟨g, 0, none⟩ (.int .i64 ((f.serve ch (x, y)).at_ 0))).setCell ⟨g, 1, none⟩ (.int .i64 ((f.serve ch (x, y)).at_ 1))).setCell ⟨g, 2, none⟩ (.int .i64 ((f.serve ch (x, y)).at_ 2))).setCell ⟨g, 3, none⟩ (.int .i64 ((f.serve ch (x, y)).way 0))).setCell ⟨g, 4, none⟩ (.int .i64 ((f.serve ch (x, y)).way 1))).setCell ⟨g, 5, none⟩ (.int .i64 ((f.serve ch (x, y)).way 2))) := (((((hbw4.setCell hz03 _).setCell hz03 _).setCell hz03 _).setCell hz03 _).setCell hz03 _).setCell hz03 _; clear hown hbw4 hb4) | (at_builtin; refine wpList_app1 ((((((w4.setCell ⟨g, 0, none⟩ (.int .i64 ((f.serve ch (x, y)).at_ 0))).setCell ⟨g, 1, none⟩ (.int .i64 ((f.serve ch (x, y)).at_ 1))).setCell ⟨g, 2, none⟩ (.int .i64 ((f.serve ch (x, y)).at_ 2))).setCell ⟨g, 3, none⟩ (.int .i64 ((f.serve ch (x, y)).way 0))).setCell ⟨g, 4, none⟩ (.int .i64 ((f.serve ch (x, y)).way 1))).setCell ⟨g, 5, none⟩ (.int .i64 ((f.serve ch (x, y)).way 2))) ((((((w4.setCell ⟨g, 0, none⟩ (.int .i64 ((f.serve ch (x, y)).at_ 0))).setCell ⟨g, 1, none⟩ (.int .i64 ((f.serve ch (x, y)).at_ 1))).setCell ⟨g, 2, none⟩ (.int .i64 ((f.serve ch (x, y)).at_ 2))).setCell ⟨g, 3, none⟩ (.int .i64 ((f.serve ch (x, y)).way 0))).setCell ⟨g, 4, none⟩ (.int .i64 ((f.serve ch (x, y)).way 1))).setCell ⟨g, 5, none⟩ (.int .i64 ((f.serve ch (x, y)).way 2))) rfl _ _ 23 rfl 3 i0 (.int .i64 0) 8 Try.underlying23 hi hi0 hi1 hi2 rfl (by decide) (g + 1) _ k _ (by rfl) hown6 (.int .i64 (ch : Int)) rfl _ (by rfl) (by simp [World.setCell]) (by omega) (Below.refl _ _) (by rw [six_size]; omega) ?_; intro v2 w5 hO5 hb5 hg5))
          have hbox5 := (hb5.block g (by omega)).trans hbox6
          have hb05 := hbw6.trans (hb5.mono (show w.heap.size ≤ g + 1 by omega))
          rw [nats_snoc] at hO5
          have HO5 := Lib.hid hO5
          have HSS : Hid (∀ s ∈ ss ++ [ch], s < j) := Lib.hid (fun s hs => by
            rcases List.mem_append.1 hs with h | h
            · exact hss.out s h
            · simp at h; subst h; exact hch)
          have HB5 := Lib.hid hbox5
          clear hO5 hb5 hg5 hbox6 hown6 hbox5 hbw6 hbox4 d0 b0 b1 b2 b3 b4 b5
          go_roundw
          case rel => exact ⟨k + 1, f.serve ch (x, y), ss ++ [ch], by omega, by go_num, HO5.out, HSS, Lib.hid (HSN.out ch), HB5, hb05⟩
          case measure => simp [intOf]; omega
    · obtain rfl : k = n := by omega
      obtain ⟨A', c', rfl, hO⟩ := Ow.of_own hown
      go_wp2_with fail
      go_ret
      exact ⟨A', c', ss, rfl, hO.sl, hss.out, hb⟩
end Go.Proofs.Ytillmnhhkhjpkaa
