/- randomClear, walked. -/
import Derived.Test.YtlpbmnmhpknppaaCg1
set_option linter.unusedVariables false
set_option linter.unusedSimpArgs false
namespace Go.Proofs.Ytlpbmnmhpknppaa
open Go.RowKit

def ClearOf (w : World) (r p m : Nat) (e : Ending) (w' : World) : Prop :=
  ∃ A c q t, e = .returned (.slice A m c) ∧ Ow2 w' w.heap.size w'.heap.size 35 3 ILit A m c t ∧ matOk m t ∧ q ≤ p + 200 ∧ Below w.heap.size (adv w r q) w'

theorem info_rowI : (Try.prog.info? 35).map (fun i => (i.zero, i.size, i.bytes)) = some (some (.slice none 0 0), 1, 24) := by kernel_rfl
theorem made_rep0 (m : Nat) : madeCells #[.int .i64 0] m = ((List.replicate m (0 : Int)).map ILit).toArray := by
  have h1 := part_zero ILit (.int .i64 0) (List.replicate m (0 : Int))
  rw [List.length_replicate] at h1
  rw [← h1]
  simp [part, ILit]

set_option maxHeartbeats 4000000 in
theorem randomClear_c (w : World) (r n c p : Nat) (A : Option Addr) (bs : List Int) (m : Nat) (hR : Rd w r A n c bs p) (hp : p ≤ 400000) (hm1 : 1 ≤ m) (hm8 : m ≤ 8) :
    Calls Try.prog 73 #[.pointer (some ⟨r, 0, none⟩), .int .i64 m] w (ClearOf w r p m) := by
  have hlt := hR.lt
  obtain ⟨i0, hi, hi0, hi1, hi2⟩ := info_parts info_int
  obtain ⟨i1, hj, hj0, hj1, hj2⟩ := info_parts info_rowI
  have hmk := run_make_row' (P := Try.prog) 35 3 (.int .i64 0) 8 Try.underlying35 info_int rfl .i64 .i64 m (by omega) (by omega)
  rw [made_rep0] at hmk
  obtain ⟨cs, hcs⟩ : ∃ cs, ((List.replicate m (0 : Int)).map ILit).toArray = cs := ⟨_, rfl⟩
  rw [hcs] at hmk
  have HCS := Lib.hid hcs
  clear hcs
  go_enter Try.func73, Try.ntmps73
  go_wp2_with fail
  go_loopw [5, 6] (fun v i wr => ∃ (k : Nat), k ≤ m ∧ i = .int .i64 k ∧ Bld wr w.heap.size 35 3 ILit v k (List.replicate k (List.replicate m 0)) ∧ Below w.heap.size w wr) (fun _ i _ => m - (intOf i).toNat)
  case atStart => exact ⟨0, by omega, rfl, Bld.nil _ _ _ _ _ _ (World.ownsRow_made _ #[] 0 (Nat.le_refl _) (by decide) rfl), by (repeat' (first | (with_reducible exact Below.refl _ _) | (with_reducible assumption) | (with_reducible refine Below.alloc ?_ ?_ _) | (with_reducible refine below_plus ?_ ?_ _ _) | (with_reducible refine Below.drew ?_) | (with_reducible refine Below.setCell ?_ ?_ _) | (with_reducible refine below_adv ?_ ?_ _) | go_size | (simp; done) | (simp; omega)))⟩
  case round =>
    obtain ⟨k, hk, rfl, hBl, hb⟩ := hrel
    have hzr := hb.size
    by_cases hkm : k < m
    · obtain ⟨vs, hv1, hv2, hv3⟩ := hBl
      have hv0 := fun b hb => (hv1.lt b hb).2
      have hb2 : Below wr.heap.size wr (wr.alloc (.cells cs 3)) := (Below.refl _ _).alloc (Nat.le_refl _) _
      have hown2 := own_below hv1 hb2
      have hR2 := hv2.below (Nat.le_refl _) hb2
      have hbb := hb.trans (hb2.mono hzr)
      have hW5 := Ow.new wr ILit (List.replicate m (0 : Int)) 3 (by simp; omega)
      rw [HCS.out, List.length_replicate] at hW5
      have HW := Lib.hid hW5
      have HV0 := Lib.hid hv0
      clear hv1 hv2 hb2 hW5 hv0
      go_wp2_with (at_builtin; refine wpList_app1_at w (wr.alloc (.cells cs 3)) rfl _ _ 22 rfl 35 i1 (.slice none 0 0) 24 Try.underlying22 hj hj0 hj1 hj2 rfl (by decide) w.heap.size _ k _ (by rfl) hown2 _ rfl _ (by rfl) (by simp) (by omega) hbb (by simp; omega) ?_; intro v8 w8 hO8 hb8 hg8 hv8)
      have hN := Bld.app (f := ILit) (E := 3) hown2 hR2 hv3 HV0.out (by simp) hzr HW.out (fun b hb => by simp [Value.ownBlock] at hb; subst hb; simp) hO8 hg8 hv8
      rw [← List.replicate_succ'] at hN
      clear hv3 hown2 hR2 hO8 hg8 hv8 HV0 HW
      go_roundw
      case rel => exact ⟨k + 1, by omega, by go_num, hN, hb8⟩
      case measure => simp [intOf]; omega
    · obtain rfl : k = m := by omega
      obtain ⟨A5, c5, rfl, hW5⟩ := hBl.ow2
      have hbq : Below w.heap.size (adv w r p) wr := by rw [adv_self hR]; exact hb
      have hM := Lib.hid (matOk_zero k)
      clear hBl hmk
      obtain ⟨wo, rfl⟩ : ∃ wo : World, wo = wr := ⟨_, rfl⟩
      go_wp2_with fail
      go_loopw [7] (fun i wr => ∃ (a q : Nat) (t : List (List Int)), a ≤ k ∧ i = .int .i64 a ∧ q ≤ p + 24 * a ∧ Ow2 wr w.heap.size wo.heap.size 35 3 ILit A5 k c5 t ∧ Hid (matOk k t) ∧ wr.heap.size ≥ wo.heap.size ∧ Below w.heap.size (adv w r q) wr) (fun i _ => k - (intOf i).toNat)
      case atStart => exact ⟨0, p, _, by omega, rfl, by omega, hW5, hM, Nat.le_refl _, hbq⟩
      case round =>
        clear hW5 hM hbq hb
        obtain ⟨a, q, t, ha, rfl, hq, hO, hM, hzo, hb⟩ := hrel
        by_cases hak : a < k
        · go_wp2_with fail
          go_loopw [8] (fun i wr => ∃ (b q : Nat) (t : List (List Int)), b ≤ a ∧ i = .int .i64 b ∧ q ≤ p + 24 * a + 3 * b ∧ Ow2 wr w.heap.size wo.heap.size 35 3 ILit A5 k c5 t ∧ Hid (matOk k t) ∧ wr.heap.size ≥ wo.heap.size ∧ Below w.heap.size (adv w r q) wr) (fun i _ => a - (intOf i).toNat)
          case atStart => exact ⟨0, q, t, by omega, rfl, by omega, hO, hM, hzo, hb⟩
          case round =>
            clear hO hM hzo hb hq
            obtain ⟨b, q, t, hba, rfl, hq, hO, hM, hzo, hb⟩ := hrel
            have hsz := hb.size
            rw [size_adv] at hsz
            by_cases hlt2 : b < a
            · go_wp2_with fail
              refine (pick_g w wr r n c p q A bs 2 hR hb (by omega)).mono ?_
              rintro e w1 ⟨k1, ⟨hk0, hk1, -⟩, rfl, hb1, hg1⟩
              have hk1' := hk1 (by omega)
              have hz1 := hg1.size
              rw [size_adv] at hz1
              have hO1 : Ow2 w1 w.heap.size wo.heap.size 35 3 ILit A5 k c5 t := hO.keep fun b' h1 _ h2 => (hg1.block b' h2).trans (heap_adv _ _ _ _ (by omega))
              clear hO hb hg1 hk1
              by_cases hkz : k1 = 0
              · subst hkz
                obtain ⟨ra, hra⟩ : ∃ ra, t[a]? = some ra := ⟨_, List.getElem?_eq_getElem (by rw [hM.out.1]; omega)⟩
                have hral : ra.length = k := by rw [sqB_all hM.out.2.1 hra, hM.out.1]
                obtain ⟨g, ga, ca, rfl, hg0, hgl, hga0, hgal, hne, hca, cell1, celle, frz, hset⟩ := hO1.row (by decide) (by omega) hra (by omega)
                rw [hral] at cell1 hset hca
                obtain ⟨y, hy⟩ : ∃ y, ra[b]? = some y := ⟨_, List.getElem?_eq_getElem (by omega)⟩
                have HRA := Lib.hid hra
                have HRL := Lib.hid hral
                have HO1 := Lib.hid hO1
                have cell2 := celle b y hy
                have frz2 := frz b
                have b0 : (0 : Int) ≤ (b : Int) := by omega
                have b1 : (b : Int) < (k : Int) := by omega
                have a0 : (0 : Int) ≤ (a : Int) := by omega
                have a1 : (a : Int) < (k : Int) := by omega
                have HB1 := Lib.hid hb1
                clear hO1 celle frz hset hra hral hy hb1
                go_wp2_with fail
                go_region_held3 (fun w' => w'.cell? ⟨g, a, none⟩ = some (.slice (some ⟨ga, 0, none⟩) k ca)) (first | go_keep | (exact (World.cell?_of_block (a := ⟨g, a, none⟩) ((hg2.block g hgl).trans (heap_adv _ _ _ _ (by omega)))).trans cell1) | (rw [World.cell?_setCell_other _ _ _ _ (by first | (simp; done) | (simp; omega))]; assumption))
                  ((go_at_call 75; refine (pick_g w _ r n c p (q + 1) A bs 5 hR HB1.out.drew (by omega)).mono ?_; rintro e w2 ⟨k2, ⟨hk20, hk21, -⟩, rfl, hb2, hg2⟩; have hk22 := hk21 (by decide); have hwr : IntKind.i64.wrap (1 + k2) = 1 + k2 := IntWalk.i64_in _ (by omega); have cw2 := (World.cell?_of_block (a := ⟨ga, b, none⟩) ((hg2.block ga hgal).trans (heap_adv _ _ _ _ (by omega)))).trans cell2; have fw2 := (World.frozen?_of_block (a := ⟨ga, b, none⟩) ((hg2.block ga hgal).trans (heap_adv _ _ _ _ (by omega)))).trans frz2))
                have hz2 : w1.heap.size ≤ w2.heap.size := by have := hg2.size; rw [size_adv] at this; exact this
                have hO2 : Ow2 w2 w.heap.size wo.heap.size 35 3 ILit (some ⟨g, 0, none⟩) k c5 t := HO1.out.keep fun b' h1 _ h2 => (hg2.block b' h2).trans (heap_adv _ _ _ _ (by omega))
                have cell2' : w2.cell? ⟨g, a, none⟩ = some (.slice (some ⟨ga, 0, none⟩) k ca) := (World.cell?_of_block (a := ⟨g, a, none⟩) ((hg2.block g hgl).trans (heap_adv _ _ _ _ (by omega)))).trans cell1
                have hO3 := hO2.store (by decide) (by omega) HRA.out (k := b) (by rw [HRL.out]; omega) cell2' (1 + k2)
                have hb3 : Below w.heap.size (adv w r (q + 1 + 1)) (w2.setCell ⟨ga, b, none⟩ (.int .i64 (1 + k2))) := hb2.setCell hga0 _
                have hz3 : w2.heap.size = (w2.setCell ⟨ga, b, none⟩ (.int .i64 (1 + k2))).heap.size := by simp [World.setCell]
                obtain ⟨w3, hw3⟩ : ∃ w3, w2.setCell ⟨ga, b, none⟩ (.int .i64 (1 + k2)) = w3 := ⟨_, rfl⟩
                rw [hw3] at hO3 hb3 hz3 ⊢
                clear hw3 hO2 cell2' cw2 fw2 cell1 cell2 frz2 hb2 hg2 HO1 HB1 hwr
                have hml := hM.out.1
                obtain ⟨rb, hrb⟩ : ∃ rb, (t.set a (ra.set b (1 + k2)))[b]? = some rb := ⟨_, List.getElem?_eq_getElem (by simp; omega)⟩
                have hrb0 : t[b]? = some rb := by
                  rw [List.getElem?_set] at hrb
                  rwa [if_neg (by omega)] at hrb
                have hrbl : rb.length = k := by rw [sqB_all hM.out.2.1 hrb0, hml]
                obtain ⟨g', gb, cb, hA', -, hgl3, hgb0, hgbl, hne3, hcb, cell3, cellf, frz3, -⟩ := hO3.row (by decide) (by omega) hrb (by omega)
                injection hA' with hA'
                injection hA' with hA'
                subst hA'
                rw [hrbl] at cell3 hcb
                obtain ⟨y3, hy3⟩ : ∃ y, rb[a]? = some y := ⟨_, List.getElem?_eq_getElem (by omega)⟩
                have cell4 := cellf a y3 hy3
                have frz4 := frz3 a
                have HRB := Lib.hid hrb
                have HRBL := Lib.hid hrbl
                have HO3 := Lib.hid hO3
                have HB3 := Lib.hid hb3
                clear hO3 cellf frz3 hrb hrb0 hrbl hy3 hb3 hml
                go_wp2_with fail
                go_region_held3 (fun w' => w'.cell? ⟨g, b, none⟩ = some (.slice (some ⟨gb, 0, none⟩) k cb)) (first | go_keep | (exact (World.cell?_of_block (a := ⟨g, b, none⟩) ((hg4.block g hgl3).trans (heap_adv _ _ _ _ (by omega)))).trans cell3) | (rw [World.cell?_setCell_other _ _ _ _ (by first | (simp; done) | (simp; omega))]; assumption))
                  ((go_at_call 75; refine (pick_g w _ r n c p (q + 1 + 1) A bs 5 hR HB3.out.drew (by omega)).mono ?_; rintro e w4 ⟨k3, ⟨hk30, hk31, -⟩, rfl, hb4, hg4⟩; have hk32 := hk31 (by decide); have hwr : IntKind.i64.wrap (1 + k3) = 1 + k3 := IntWalk.i64_in _ (by omega); have cw4 := (World.cell?_of_block (a := ⟨gb, a, none⟩) ((hg4.block gb hgbl).trans (heap_adv _ _ _ _ (by omega)))).trans cell4; have fw4 := (World.frozen?_of_block (a := ⟨gb, a, none⟩) ((hg4.block gb hgbl).trans (heap_adv _ _ _ _ (by omega)))).trans frz4))
                have hz4 : w3.heap.size ≤ w4.heap.size := by have := hg4.size; rw [size_adv] at this; exact this
                have hO4 : Ow2 w4 w.heap.size wo.heap.size 35 3 ILit (some ⟨g, 0, none⟩) k c5 _ := HO3.out.keep fun b' h1 _ h2 => (hg4.block b' h2).trans (heap_adv _ _ _ _ (by omega))
                have cell4' : w4.cell? ⟨g, b, none⟩ = some (.slice (some ⟨gb, 0, none⟩) k cb) := (World.cell?_of_block (a := ⟨g, b, none⟩) ((hg4.block g hgl3).trans (heap_adv _ _ _ _ (by omega)))).trans cell3
                have hO5 := hO4.store (by decide) (by omega) HRB.out (k := a) (by rw [HRBL.out]; omega) cell4' (1 + k3)
                have hM5 := Lib.hid (matOk_step hM.out hlt2 hak HRA.out HRB.out ⟨show 1 ≤ 1 + k2 by omega, show 1 + k2 ≤ 5 by omega⟩ ⟨show 1 ≤ 1 + k3 by omega, show 1 + k3 ≤ 5 by omega⟩)
                have hb5 : Below w.heap.size (adv w r (q + 1 + 1 + 1)) (w4.setCell ⟨gb, a, none⟩ (.int .i64 (1 + k3))) := hb4.setCell hgb0 _
                have hz5 : w4.heap.size = (w4.setCell ⟨gb, a, none⟩ (.int .i64 (1 + k3))).heap.size := by simp [World.setCell]
                clear hO4 cell4' cw4 fw4 cell3 cell4 frz4 hb4 hg4 HO3 HB3 hwr
                go_wp2_with fail
                go_roundw
                case rel => exact ⟨b + 1, q + 1 + 1 + 1, _, by omega, by go_num, by omega, hO5, hM5, by omega, hb5⟩
                case measure => simp [intOf]; omega
              · have hk2 : (k1 == 0) = false := by simpa using hkz
                go_wp2_with fail
                go_roundw
                case rel => exact ⟨b + 1, q + 1, t, by omega, by go_num, by omega, hO1, hM, by omega, hb1⟩
                case measure => simp [intOf]; omega
            · obtain rfl : b = a := by omega
              go_wp2_with fail
              go_roundw
              case rel => exact ⟨b + 1, q, t, by omega, by go_num, by omega, hO, hM, hzo, hb⟩
              case measure => simp [intOf]; omega
        · obtain rfl : a = k := by omega
          go_wp2_with fail
          go_ret
          exact ⟨_, _, q, t, rfl, hO.more hzo, hM.out, by omega, hb⟩
end Go.Proofs.Ytlpbmnmhpknppaa
