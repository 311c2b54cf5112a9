/- ValidClearance of the program. -/
import Derived.Test.YtlpbmnmhpknppaaCa1
set_option linter.unusedVariables false
set_option linter.unusedSimpArgs false
namespace Go.Proofs.Ytlpbmnmhpknppaa
open Go.RowKit

set_option maxHeartbeats 2000000 in
theorem validClearance_c (A : Option Addr) (n c : Nat) (t : List (List Int)) (w : World) (B : Nat) (hS : Sl2 w B ILit A n c t) (hB : B ≤ w.heap.size) :
    Calls Try.prog 19 #[.slice A n c] w fun e w' => e = .returned (.bool (cOk t)) ∧ Below w.heap.size w w' := by
  obtain ⟨hc0, hc1⟩ := hS.cap
  have hl := hS.len
  have cw := fun w => within_c n 1 8 w
  have hS0 := hS.more hB
  clear hS
  cases hr : inB n 1 8
  · rw [hr] at cw
    have CW := Lib.hid cw
    have HE : Hid (cOk t = false) := Lib.hid (cOk_range (by rw [hl]; exact hr))
    clear cw hr hl
    go_enter Try.func19, Try.ntmps19
    go_wp2_with fail
    refine (CW.out _).mono ?_
    rintro e w' ⟨rfl, rfl⟩
    go_wp2_with fail
    go_ret
    exact ⟨by rw [HE.out]; rfl, Below.refl _ _⟩
  · obtain ⟨hn1, hn8⟩ := inB_iff hr
    rw [hr] at cw
    have CW := Lib.hid cw
    have HL := Lib.hid hl
    clear cw hr hl
    go_enter Try.func19, Try.ntmps19
    go_wp2_with fail
    refine (CW.out _).mono ?_
    rintro e w' ⟨rfl, rfl⟩
    go_wp2_with fail
    go_loopw [15] (fun i wr => ∃ (k : Nat), k ≤ n ∧ i = .int .i64 k ∧ Hid (∀ (a : Nat) (r : List Int), a < k → t[a]? = some r → r.length = n ∧ allB r 0 5 = true) ∧ Below w.heap.size w wr) (fun i _ => n - (intOf i).toNat)
    case atStart => exact ⟨0, by omega, rfl, Lib.hid fun a r h => absurd h (by omega), Below.refl _ _⟩
    case round =>
      obtain ⟨k, hk, rfl, hrows, hb⟩ := hrel
      have hzr := hb.size
      by_cases hlt : k < n
      · obtain ⟨b, o, r, A', n', c', rfl, hbl, hx, hcell, hrow⟩ := (hS0.below hb).at_ hlt
        have hcell' : wr.cell? ⟨b, o + k, none⟩ = some (.slice A' n' c') := hcell
        have hrl := hrow.len
        by_cases hnn : n' = n
        · subst hnn
          have hnb : ((n' : Int) != (n' : Int)) = false := by simp
          have ca := allWithin_c A' n' c' r 0 5 wr _ hrow hzr (by omega)
          cases hal : allB r 0 5
          · rw [hal] at ca
            have CA := Lib.hid ca
            have HE : Hid (cOk t = false) := Lib.hid (cOk_in (inC_bad hx hal))
            clear hrow hcell hx hrl hrows ca hal
            go_wp2_with fail
            refine CA.out.mono ?_
            rintro e w1 ⟨rfl, hb1⟩
            go_wp2_with fail
            go_ret
            exact ⟨by rw [HE.out]; rfl, hb.trans (hb1.mono hzr)⟩
          · rw [hal] at ca
            have CA := Lib.hid ca
            have hn2 : Hid (∀ (a : Nat) (r : List Int), a < k + 1 → t[a]? = some r → r.length = n' ∧ allB r 0 5 = true) := Lib.hid fun a r' ha hr' => by
              rcases Nat.lt_or_ge a k with h | h
              · exact hrows.out a r' h hr'
              · obtain rfl : a = k := by omega
                rw [hx] at hr'
                injection hr' with hr'
                rw [← hr']; exact ⟨hrl, hal⟩
            clear hrow hcell hx hrl hrows ca hal
            go_wp2_with fail
            refine CA.out.mono ?_
            rintro e w1 ⟨rfl, hb1⟩
            go_wp2_with fail
            go_roundw
            case rel => exact ⟨k + 1, by omega, by go_num, hn2, hb.trans (hb1.mono hzr)⟩
            case measure => simp [intOf]; omega
        · have HE : Hid (cOk t = false) := Lib.hid (cOk_sq (sqB_bad hx (by rw [hrl, HL.out]; exact hnn)))
          have hne : ((n' : Int) != (n : Int)) = true := by simp [bne]; omega
          clear hrow hcell hx hrl hrows
          go_wp2_with fail
          go_ret
          exact ⟨by rw [HE.out]; rfl, hb⟩
      · have hsq : sqB t = true := sqB_mk fun a r ha => by
          rw [HL.out]
          have := (List.getElem?_eq_some_iff.1 ha).1
          rw [HL.out] at this
          exact (hrows.out a r (by omega) ha).1
        have HSQ := Lib.hid hsq
        have HIN : Hid (inC t = true) := Lib.hid (inC_mk fun a r ha => by
          have := (List.getElem?_eq_some_iff.1 ha).1
          rw [HL.out] at this
          exact (hrows.out a r (by omega) ha).2)
        obtain rfl : k = n := by omega
        clear hrows hsq
        obtain ⟨wo, rfl⟩ : ∃ wo : World, wo = wr := ⟨_, rfl⟩
        go_wp2_with fail
        go_loopw [32] (fun i wr => ∃ (a : Nat), a ≤ k ∧ i = .int .i64 a ∧ Hid (∀ a' b', a' < a → b' < k → okC t a' b' = true) ∧ Below w.heap.size w wr) (fun i _ => k - (intOf i).toNat)
        case atStart => exact ⟨0, by omega, rfl, Lib.hid fun a r h => absurd h (by omega), hb⟩
        case round =>
          clear hb hzr
          obtain ⟨a, ha, rfl, hok, hb⟩ := hrel
          have hzr := hb.size
          by_cases hlt2 : a < k
          · obtain ⟨b, o, b1, o1, c1, ra, rfl, hbl, hbl1, hra, hral, hrac, hcell, hrow⟩ := (hS0.below hb).entry HSQ.out hlt2
            have hk0 : (0 : Int) < (k : Int) := by omega
            have hcell' : wr.cell? ⟨b, o + a, none⟩ = some (.slice (some ⟨b1, o1, none⟩) k c1) := hcell
            have HRA := Lib.hid hra
            have HRL := Lib.hid hral
            have HROW := Lib.hid hrow
            have hS1 := (hS0.below hb).more hzr
            have hb1w : b1 < wr.heap.size := by omega
            clear hrow hcell hra hral
            go_wp2_with fail
            obtain ⟨wo, rfl⟩ : ∃ wo : World, wo = wr := ⟨_, rfl⟩
            clear hcell'
            go_loopw [39] (fun i wr => ∃ (b' : Nat), b' ≤ k ∧ i = .int .i64 b' ∧ Hid (∀ b'', b'' < b' → okC t a b'' = true) ∧ Below wo.heap.size wo wr) (fun i _ => k - (intOf i).toNat)
            case atStart => exact ⟨0, by omega, rfl, Lib.hid fun a h => absurd h (by omega), Below.refl _ _⟩
            case round =>
              obtain ⟨j, hj, rfl, hok2, hb2⟩ := hrel
              have hzr2 := hb2.size
              by_cases hlt3 : j < k
              · obtain ⟨b2, o2, b3, o3, c3, rb, hA, -, hbl3, hrb, hrbl, hrbc, hcellb, hrowb⟩ := (hS1.below hb2).entry HSQ.out hlt3
                simp only [Option.some.injEq, Addr.mk.injEq, and_true] at hA
                obtain ⟨rfl, rfl⟩ := hA
                obtain ⟨x, hx⟩ : ∃ x, ra[j]? = some x := ⟨_, List.getElem?_eq_getElem (by rw [HRL.out]; exact hlt3)⟩
                obtain ⟨y, hy⟩ : ∃ y, rb[a]? = some y := ⟨_, List.getElem?_eq_getElem (by rw [hrbl]; exact hlt2)⟩
                have e1 := cAt_of HRA.out hx
                have e2 := cAt_of hrb hy
                have c1' : wr.cell? ⟨b1, o1 + j, none⟩ = some (.int .i64 x) := (hb2.cell (p := ⟨b1, o1 + j, none⟩) hb1w).trans (HROW.out j x hx)
                have c2' : wr.cell? ⟨b, o + j, none⟩ = some (.slice (some ⟨b3, o3, none⟩) k c3) := hcellb
                have c3' : wr.cell? ⟨b3, o3 + a, none⟩ = some (.int .i64 y) := hrowb a y hy
                have hal : a < t.length := by rw [HL.out]; exact hlt2
                have hjl : j < t.length := by rw [HL.out]; exact hlt3
                by_cases haj : a = j
                · subst haj
                  have hxy : x = y := e1.symm.trans e2
                  subst hxy
                  by_cases hx0 : x = 0
                  · have hn2 : Hid (∀ b'', b'' < a + 1 → okC t a b'' = true) := Lib.hid fun b'' h => by
                      rcases Nat.lt_or_ge b'' a with h1 | h1
                      · exact hok2.out b'' h1
                      · obtain rfl : b'' = a := by omega
                        exact okC_ok rfl fun _ => e1.trans hx0
                    have q0 : (x != 0) = false := by simpa [bne] using hx0
                    have q1 : decide (0 < x) = false := by simp; omega
                    clear hcellb hrowb hrb hx hy e1 e2 hok2
                    go_wp2_with fail
                    go_roundw
                    case rel => exact ⟨a + 1, by omega, by go_num, hn2, hb2⟩
                    case measure => simp [intOf]; omega
                  · have HE : Hid (cOk t = false) := Lib.hid (cOk_bad hal hal (okC_bad2 (by rw [e1]; exact hx0)))
                    have q0 : (x != 0) = true := by simpa [bne] using hx0
                    clear hcellb hrowb hrb hx hy e1 e2 hok2
                    cases q1 : decide (0 < x)
                    all_goals
                      go_wp2_with fail
                      go_ret
                      exact ⟨by rw [HE.out]; rfl, hb.trans (hb2.mono hzr)⟩
                · have hne : ((a : Int) == (j : Int)) = false := by simp; omega
                  by_cases hxy : decide (0 < x) = decide (0 < y)
                  · have hn2 : Hid (∀ b'', b'' < j + 1 → okC t a b'' = true) := Lib.hid fun b'' h => by
                      rcases Nat.lt_or_ge b'' j with h1 | h1
                      · exact hok2.out b'' h1
                      · obtain rfl : b'' = j := by omega
                        exact okC_ok (by rw [e1, e2]; exact hxy) fun h => absurd h haj
                    clear hcellb hrowb hrb hx hy e1 e2 hok2
                    cases q1 : decide (0 < x) <;> cases q2 : decide (0 < y) <;> first
                      | (rw [q1, q2] at hxy; exact absurd hxy (by decide))
                      | (clear hxy
                         go_wp2_with fail
                         go_roundw
                         case rel => exact ⟨j + 1, by omega, by go_num, hn2, hb2⟩
                         case measure => simp [intOf]; omega)
                  · have HE : Hid (cOk t = false) := Lib.hid (cOk_bad hal hjl (okC_bad1 (by rw [e1, e2]; exact hxy)))
                    clear hcellb hrowb hrb hx hy e1 e2 hok2
                    cases q1 : decide (0 < x) <;> cases q2 : decide (0 < y) <;> first
                      | (rw [q1, q2] at hxy; exact absurd rfl hxy)
                      | (clear hxy
                         go_wp2_with fail
                         go_ret
                         exact ⟨by rw [HE.out]; rfl, hb.trans (hb2.mono hzr)⟩)
              · have hn2 : Hid (∀ a' b', a' < a + 1 → b' < k → okC t a' b' = true) := Lib.hid fun a' b' h1 h2 => by
                  rcases Nat.lt_or_ge a' a with h | h
                  · exact hok.out a' b' h h2
                  · obtain rfl : a' = a := by omega
                    exact hok2.out b' (by omega)
                clear hok hok2
                go_wp2_with fail
                go_roundw
                case rel => exact ⟨a + 1, by omega, by go_num, hn2, hb.trans (hb2.mono hzr)⟩
                case measure => simp [intOf]; omega
          · obtain rfl : a = k := by omega
            have HE : Hid (cOk t = true) := Lib.hid (cOk_iff.2 ⟨by rw [HL.out]; omega, by rw [HL.out]; omega, HSQ.out, HIN.out, fun x y hx hy => hok.out x y (by rw [HL.out] at hx; exact hx) (by rw [HL.out] at hy; exact hy)⟩)
            clear hok
            go_wp2_with fail
            go_ret
            exact ⟨by rw [HE.out]; rfl, hb⟩
end Go.Proofs.Ytlpbmnmhpknppaa
