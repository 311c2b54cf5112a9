/- The generators of phases: randomPhase, anyPhase. -/
import Derived.Test.YtlpbmnmhpknppaaCg3
import Derived.Test.YtlpbmnmhpknppaaPa4
import Derived.Test.YtlpbmnmhpknppaaCa2
import Derived.Test.YtlpbmnmhpknppaaSrt
import Derived.Test.YtlpbmnmhpknppaaGrd
set_option linter.unusedVariables false
set_option linter.unusedSimpArgs false
namespace Go.Proofs.Ytlpbmnmhpknppaa
open Go.RowKit

theorem mod_bd {a m : Int} (h : 0 < m) : 0 ≤ a % m ∧ a % m < m := ⟨Int.emod_nonneg a (by omega), Int.emod_lt_of_pos a h⟩

set_option maxHeartbeats 4000000 in
theorem randomPhase_c (w : World) (r n c p : Nat) (A : Option Addr) (bs : List Int) (hR : Rd w r A n c bs p) (hp : p ≤ 400000) (At : Option Addr) (m ct : Nat) (t : List (List Int)) (B : Nat) (hT : Sl2 w B ILit At m ct t) (hB : B ≤ w.heap.size) (hok : cOk t = true) :
    Calls Try.prog 81 #[.pointer (some ⟨r, 0, none⟩), .slice At m ct] w (IntsOf w r p 8 10) := by
  have hlt := hR.lt
  obtain ⟨ht0, ht1⟩ := hT.cap
  obtain ⟨i0, hi, hi0, hi1, hi2⟩ := info_parts info_int
  obtain ⟨hm1, hm8, hsq, -, -⟩ := cOk_iff.1 hok
  rw [hT.len] at hm1 hm8
  have HSQ := Lib.hid (conf_sq hsq)
  have HTL := Lib.hid ((conf_len t).trans hT.len)
  have hb0 : Below w.heap.size w (w.alloc (.cells #[] 3)) := (Below.refl _ _).alloc (Nat.le_refl _) _
  have C1 := Lib.hid (sConflictsOf_c At m ct t (w.alloc (.cells #[] 3)) B (hT.keep fun b i hb => World.cell?_alloc_lt w _ ⟨b, i, none⟩ (by show b < _; omega)) (by simp; omega))
  rw [confF_yes hok] at C1
  have hown0 := World.ownsRow_made (base := w.heap.size) (e := 3) (size := 1) w #[] 0 (Nat.le_refl _) (by decide) rfl
  have hm0 : (0 : Int) < (m : Int) := by omega
  clear hT hok hsq
  go_enter Try.func81, Try.ntmps81
  go_wp2_with fail
  refine C1.out.mono ?_
  rintro e w1 ⟨A1, n1, c1, rfl, hO1, hb1⟩
  have hn1 : n1 = m := by rw [← hO1.len]; exact HTL.out
  subst hn1
  have hz1 := hb1.size
  simp only [World.size_alloc] at hz1
  have hown1 := own_below hown0 hb1
  have hb01 : Below w.heap.size (adv w r p) w1 := by rw [adv_self hR]; exact hb0.trans (hb1.mono (by simp))
  clear hb1 hown0 hb0 C1
  go_wp2_with fail
  refine (pick_g w w1 r n c p p A bs _ hR hb01 (by omega)).mono ?_
  rintro e w2 ⟨at0, ⟨ha0, ha1, -⟩, rfl, hb2, hg2⟩
  have ha1' := ha1 (by omega)
  obtain ⟨a0, rfl⟩ := Int.eq_ofNat_of_zero_le ha0
  have hz2 := hg2.size
  rw [size_adv] at hz2
  have hown2 := own_go hown1 hlt hg2
  have hO2 : Ow2 w2 (w.heap.size + 1) w1.heap.size 34 4 OLit A1 n1 c1 (conf t) := (by simpa using hO1 : Ow2 w1 (w.heap.size + 1) _ _ _ OLit A1 n1 c1 (conf t)).keep fun b' h1 _ h2 => (hg2.block b' h2).trans (heap_adv _ _ _ _ (by omega))
  obtain ⟨hi0', hhi⟩ : ∃ hi0', w1.heap.size = hi0' := ⟨_, rfl⟩
  rw [hhi] at hO2 hz1 hz2
  clear hb01 hO1 hown1 hg2 ha1 hhi
  go_wp2_with fail
  go_loopw [5, 8] (fun v i wr => ∃ (k j q : Nat) (xs : List Int), k ≤ n1 ∧ i = .int .i64 k ∧ j ≤ k ∧ q ≤ p + 1 + k ∧ wr.ownsRow w.heap.size 3 1 v j (xs.map ILit) ∧ Hid (∀ x ∈ xs, 0 ≤ x ∧ x < n1) ∧ Hid (∀ b, v.ownBlock = some b → b = w.heap.size ∨ hi0' ≤ b) ∧ Ow2 wr (w.heap.size + 1) hi0' 34 4 OLit A1 n1 c1 (conf t) ∧ hi0' ≤ wr.heap.size ∧ Below w.heap.size (adv w r q) wr) (fun _ i _ => n1 - (intOf i).toNat)
  case atStart => exact ⟨0, 0, p + 1, [], by omega, rfl, by omega, by omega, hown2, Lib.hid (by simp), Lib.hid (fun b hb => by simp [Value.ownBlock] at hb; left; exact hb.symm), hO2, hz2, hb2⟩
  case round =>
    clear hown2 hO2 hz2 hb2
    obtain ⟨k, j, q, xs, hk, rfl, hjk, hq, hown, hin, hbl, hO, hzh, hb⟩ := hrel
    have hzr := hb.size
    rw [size_adv] at hzr
    by_cases hlt2 : k < n1
    · obtain ⟨hy0, hy1⟩ := mod_bd (a := (a0 : Int) + (k : Int)) hm0
      go_wp2_with fail
      refine (pick_g w wr r n c p q A bs _ hR hb (by omega)).mono ?_
      rintro e w3 ⟨k3, ⟨hk30, hk31, -⟩, rfl, hb3, hg3⟩
      have hz3 := hg3.size
      rw [size_adv] at hz3
      have hown3 := own_go hown hlt hg3
      have hO3 := hO.keep (w' := w3) fun b' h1 _ h2 => (hg3.block b' h2).trans (heap_adv _ _ _ _ (by omega))
      clear hown hO hb hg3 hk31
      by_cases hk0 : k3 = 0
      · subst hk0
        go_wp2_with fail
        go_roundw
        case rel => exact ⟨k + 1, j, q + 1, xs, by omega, by go_num, by omega, by omega, hown3, hin, hbl, hO3, by omega, hb3⟩
        case measure => simp [intOf]; omega
      · obtain ⟨Av, cv, rfl, hW3⟩ := Ow.of_own hown3
        have C4 := Lib.hid (copyInts_c Av j cv xs w3 _ hW3.sl (Nat.le_refl _) (by omega))
        have hk3p : 0 < k3 := by omega
        go_wp2_with fail
        refine C4.out.mono ?_
        rintro e w4 ⟨v4, rfl, hown4, hb4⟩
        have hz4 := hb4.size
        clear C4
        have hcl : ∀ Ax cx wx Bx, Sl2 wx Bx OLit A1 n1 c1 (conf t) → Sl wx Bx ILit Ax (j + 1) cx (xs ++ [((a0 : Int) + (k : Int)) % (n1 : Int)]) → Bx ≤ wx.heap.size → Calls Try.prog 77 #[.slice A1 n1 c1, .slice Ax (j + 1) cx] wx fun e w' => e = .returned (.bool (clearB (conf t) (xs ++ [((a0 : Int) + (k : Int)) % (n1 : Int)]))) ∧ Below wx.heap.size wx w' := fun Ax cx wx Bx h1 h2 h3 =>
          clear_c A1 n1 c1 (conf t) Ax (j + 1) cx _ wx Bx h1 h2 h3 HSQ.out (fun x hx => by
            rcases List.mem_append.1 hx with hx | hx
            · exact hin.out x hx
            · simp at hx; subst hx; exact ⟨hy0, hy1⟩) (by omega)
        cases hcb : clearB (conf t) (xs ++ [((a0 : Int) + (k : Int)) % (n1 : Int)])
        all_goals
          rw [hcb] at hcl
          have HCL := Lib.hid hcl
          clear hcl hcb
          go_wp2_with (at_builtin; refine wpList_unguard (by rfl) ?_; refine wpList_app1 w3 w4 rfl _ _ 35 rfl 3 i0 (.int .i64 0) 8 Try.underlying35 hi hi0 hi1 hi2 rfl (by decide) w3.heap.size _ j _ (by rfl) hown4 _ rfl _ (by rfl) rfl (by omega) hb4 hz4 ?_; intro v5 w5 hO5 hb5 hg5)
          rw [ints_snoc] at hO5
          obtain ⟨A5, c5, rfl, hW5⟩ := Ow.of_own hO5
          have hz5 := hb5.size
          have hT5 := ((hO3.below hb5).more (hi' := w5.heap.size) (by omega)).sl2hi
          have C5 := Lib.hid (HCL.out A5 c5 w5 _ hT5 hW5.sl (Nat.le_refl _))
          have hown5 := own_below hown3 hb5
          have hO6 := hO3.below hb5
          clear hW5 hO5 hT5 hg5 hown4 hb4 HCL
          go_wp2_with fail
          refine C5.out.mono ?_
          rintro e w6 ⟨rfl, hb6⟩
          have hz6 := hb6.size
          have hown6 := own_below hown5 hb6
          have hO7 := hO6.below hb6
          have hb06 : Below w.heap.size (adv w r (q + 1)) w6 := (hb3.trans (hb5.mono (by omega))).trans (hb6.mono (by omega))
          clear hown5 hO6 hb5 hb6 hb3 hO3 hown3 C5 hW3
        · go_wp2_with fail
          go_roundw
          case rel => exact ⟨k + 1, j, q + 1, xs, by omega, by go_num, by omega, by omega, hown6, hin, hbl, hO7, by omega, hb06⟩
          case measure => simp [intOf]; omega
        · have hzq := hb06.size
          go_wp2_with (at_builtin; refine wpList_app1_at (adv w r (q + 1)) w6 rfl _ _ 35 rfl 3 i0 (.int .i64 0) 8 Try.underlying35 hi hi0 hi1 hi2 rfl (by decide) w.heap.size _ j _ (by rfl) hown6 _ rfl _ (by rfl) rfl (by omega) hb06 (by rw [size_adv] at hzq; exact hzq) ?_; intro v8 w8 hO8 hb8 hg8 hv8)
          rw [ints_snoc] at hO8
          have hz8 := hg8.size
          have hO9 : Ow2 w8 (w.heap.size + 1) hi0' 34 4 OLit A1 n1 c1 (conf t) := hO7.keep fun b' h1 h2 h3 => hg8.block b' h3 fun e => by
            have := hbl.out b' e.symm
            omega
          have hbl8 : Hid (∀ b, v8.ownBlock = some b → b = w.heap.size ∨ hi0' ≤ b) := Lib.hid fun b hb => by
            rcases hv8 with e | e
            · exact hbl.out b (e ▸ hb)
            · rw [e] at hb; injection hb with hb; omega
          have hin8 : Hid (∀ x ∈ xs ++ [((a0 : Int) + (k : Int)) % (n1 : Int)], 0 ≤ x ∧ x < n1) := Lib.hid fun x hx => by
            rcases List.mem_append.1 hx with hx | hx
            · exact hin.out x hx
            · simp at hx; subst hx; exact ⟨hy0, hy1⟩
          clear hO7 hg8 hown6 hv8
          go_roundw
          case rel => exact ⟨k + 1, j + 1, q + 1, _, by omega, by go_num, by omega, by omega, hO8, hin8, hbl8, hO9, by omega, hb8⟩
          case measure => simp [intOf]; omega
    · obtain rfl : k = n1 := by omega
      obtain ⟨Av, cv, rfl, hW⟩ := Ow.of_own hown
      have C9 := Lib.hid (sorted_c Av j cv xs wr _ hW.sl (Nat.le_refl _) (by omega))
      clear hW hown hO hbl hin
      go_wp2_with fail
      refine C9.out.mono ?_
      rintro e w9 ⟨A9, c9, rfl, hW9, hb9⟩
      go_wp2_with fail
      go_ret
      exact ⟨A9, j, c9, q, _, rfl, hW9.sl, by omega, by omega, hb.trans (hb9.mono hzr), (hW9.mono hzr).lo⟩
end Go.Proofs.Ytlpbmnmhpknppaa
