/- ValidConflicts and validTable: what they compute. -/
import Derived.Test.YtlpbmnmhpknppaaPa1
set_option linter.unusedVariables false
set_option linter.unusedSimpArgs false
namespace Go.Proofs.Ytlpbmnmhpknppaa
open Go.RowKit

/-- One entry of a table that came in: its row's slice and its cell. -/
theorem Sl2.entry {α : Type} {w : World} {B n c : Nat} {f : α → Value} {A : Option Addr} {t : List (List α)} (h : Sl2 w B f A n c t) (hsq : sqB t = true) {a : Nat} (ha : a < n) :
    ∃ b o b' o' c' r, A = some ⟨b, o, none⟩ ∧ b < B ∧ b' < B ∧ t[a]? = some r ∧ r.length = n ∧ n ≤ c' ∧ w.cell? ⟨b, o + a, none⟩ = some (.slice (some ⟨b', o', none⟩) n c') ∧ ∀ k x, r[k]? = some x → w.cell? ⟨b', o' + k, none⟩ = some (f x) := by
  obtain ⟨b, o, r, A', n', c', hA, hb, hr, hc, hrow⟩ := h.at_ ha
  have hl := sqB_all hsq hr
  rw [h.len] at hl
  have hn' : n' = n := by rw [← hrow.len]; exact hl
  subst hn'
  obtain ⟨b', o', hA', hb', hcell⟩ := hrow.2.2.2 (by omega)
  subst hA'
  exact ⟨b, o, b', o', c', r, hA, hb, hb', hr, hl, hrow.2.1, hc, hcell⟩

set_option maxHeartbeats 2000000 in
theorem validConflicts_c (A : Option Addr) (n c : Nat) (t : List (List Bool)) (w : World) (B : Nat) (hS : Sl2 w B OLit A n c t) (hB : B ≤ w.heap.size) :
    Calls Try.prog 22 #[.slice A n c] w fun e w' => e = .returned (.bool (tOk t)) ∧ Below w.heap.size w w' := by
  obtain ⟨hc0, hc1⟩ := hS.cap
  have hl := hS.len
  have cw := fun w => within_c n 1 8 w
  have hS0 := hS.more hB
  clear hS
  cases hr : inB n 1 8
  · rw [hr] at cw
    have CW := Lib.hid cw
    have HE : Hid (tOk t = false) := Lib.hid (tOk_range (by rw [hl]; exact hr))
    clear cw hr hl
    go_enter Try.func22, Try.ntmps22
    go_wp2_with fail
    refine (CW.out _).mono ?_
    rintro e w' ⟨rfl, rfl⟩
    go_wp2_with fail
    go_ret
    exact ⟨by rw [HE.out]; rfl, Below.refl _ _⟩
  · obtain ⟨hn1, hn8⟩ := inB_iff hr
    rw [hr] at cw
    have CW := Lib.hid cw
    have HL := Lib.hid hl
    clear cw hr hl
    go_enter Try.func22, Try.ntmps22
    go_wp2_with fail
    refine (CW.out _).mono ?_
    rintro e w' ⟨rfl, rfl⟩
    go_wp2_with fail
    go_loopw [15] (fun i wr => ∃ (k : Nat), k ≤ n ∧ i = .int .i64 k ∧ Hid (∀ (a : Nat) (r : List Bool), a < k → t[a]? = some r → r.length = n) ∧ Below w.heap.size w wr) (fun i _ => n - (intOf i).toNat)
    case atStart => exact ⟨0, by omega, rfl, Lib.hid fun a r h => absurd h (by omega), Below.refl _ _⟩
    case round =>
      obtain ⟨k, hk, rfl, hrows, hb⟩ := hrel
      have hzr := hb.size
      by_cases hlt : k < n
      · obtain ⟨b, o, r, A', n', c', rfl, hbl, hx, hcell, hrow⟩ := (hS0.below hb).at_ hlt
        have hcell' : wr.cell? ⟨b, o + k, none⟩ = some (.slice A' n' c') := hcell
        have hrl := hrow.len
        by_cases hnn : n' = n
        · subst hnn
          have hn2 : Hid (∀ (a : Nat) (r : List Bool), a < k + 1 → t[a]? = some r → r.length = n') := Lib.hid fun a r' ha hr' => by
            rcases Nat.lt_or_ge a k with h | h
            · exact hrows.out a r' h hr'
            · obtain rfl : a = k := by omega
              rw [hx] at hr'
              injection hr' with hr'
              rw [← hr']; exact hrl
          clear hrow hcell hx hrl hrows
          go_wp2_with fail
          go_roundw
          case rel => exact ⟨k + 1, by omega, by go_num, hn2, hb⟩
          case measure => simp [intOf]; omega
        · have HE : Hid (tOk t = false) := Lib.hid (tOk_sq (sqB_bad hx (by rw [hrl, HL.out]; exact hnn)))
          have hne : ((n' : Int) != (n : Int)) = true := by simp [bne]; omega
          clear hrow hcell hx hrl hrows
          go_wp2_with fail
          go_ret
          exact ⟨by rw [HE.out]; rfl, hb⟩
      · have hsq : sqB t = true := sqB_mk fun a r ha => by
          rw [HL.out]
          have := (List.getElem?_eq_some_iff.1 ha).1
          rw [HL.out] at this
          exact hrows.out a r (by omega) ha
        have HSQ := Lib.hid hsq
        obtain rfl : k = n := by omega
        clear hrows hsq
        obtain ⟨wo, rfl⟩ : ∃ wo : World, wo = wr := ⟨_, rfl⟩
        go_wp2_with fail
        go_loopw [27] (fun i wr => ∃ (a : Nat), a ≤ k ∧ i = .int .i64 a ∧ Hid (∀ a' b', a' < a → b' < k → okAt t a' b' = true) ∧ Below w.heap.size w wr) (fun i _ => k - (intOf i).toNat)
        case atStart => exact ⟨0, by omega, rfl, Lib.hid fun a r h => absurd h (by omega), hb⟩
        case round =>
          clear hb hzr
          obtain ⟨a, ha, rfl, hok, hb⟩ := hrel
          have hzr := hb.size
          by_cases hlt2 : a < k
          · obtain ⟨b, o, b1, o1, c1, ra, rfl, hbl, hbl1, hra, hral, hrac, hcell, hrow⟩ := (hS0.below hb).entry HSQ.out hlt2
            have hk0 : (0 : Int) < (k : Int) := by omega
            have hcell' : wr.cell? ⟨b, o + a, none⟩ = some (.slice (some ⟨b1, o1, none⟩) k c1) := hcell
            have HRA := Lib.hid hra
            have HRL := Lib.hid hral
            have HROW := Lib.hid hrow
            have hS1 := (hS0.below hb).more hzr
            have hb1w : b1 < wr.heap.size := by omega
            clear hrow hcell hra hral
            go_wp2_with fail
            obtain ⟨wo, rfl⟩ : ∃ wo : World, wo = wr := ⟨_, rfl⟩
            clear hcell'
            go_loopw [34] (fun i wr => ∃ (b' : Nat), b' ≤ k ∧ i = .int .i64 b' ∧ Hid (∀ b'', b'' < b' → okAt t a b'' = true) ∧ Below wo.heap.size wo wr) (fun i _ => k - (intOf i).toNat)
            case atStart => exact ⟨0, by omega, rfl, Lib.hid fun a h => absurd h (by omega), Below.refl _ _⟩
            case round =>
              obtain ⟨j, hj, rfl, hok2, hb2⟩ := hrel
              have hzr2 := hb2.size
              by_cases hlt3 : j < k
              · obtain ⟨b2, o2, b3, o3, c3, rb, hA, -, hbl3, hrb, hrbl, hrbc, hcellb, hrowb⟩ := (hS1.below hb2).entry HSQ.out hlt3
                simp only [Option.some.injEq, Addr.mk.injEq, and_true] at hA
                obtain ⟨rfl, rfl⟩ := hA
                obtain ⟨x, hx⟩ : ∃ x, ra[j]? = some x := ⟨_, List.getElem?_eq_getElem (by rw [HRL.out]; exact hlt3)⟩
                obtain ⟨y, hy⟩ : ∃ y, rb[a]? = some y := ⟨_, List.getElem?_eq_getElem (by rw [hrbl]; exact hlt2)⟩
                have e1 := tAt_of HRA.out hx
                have e2 := tAt_of hrb hy
                have c1' : wr.cell? ⟨b1, o1 + j, none⟩ = some (.bool x) := (hb2.cell (p := ⟨b1, o1 + j, none⟩) hb1w).trans (HROW.out j x hx)
                have c2' : wr.cell? ⟨b, o + j, none⟩ = some (.slice (some ⟨b3, o3, none⟩) k c3) := hcellb
                have c3' : wr.cell? ⟨b3, o3 + a, none⟩ = some (.bool y) := hrowb a y hy
                have hal : a < t.length := by rw [HL.out]; exact hlt2
                have hjl : j < t.length := by rw [HL.out]; exact hlt3
                by_cases hxy : x = y
                · subst hxy
                  by_cases haj : a = j
                  · subst haj
                    cases x
                    · have hn2 : Hid (∀ b'', b'' < a + 1 → okAt t a b'' = true) := Lib.hid fun b'' h => by
                        rcases Nat.lt_or_ge b'' a with h1 | h1
                        · exact hok2.out b'' h1
                        · obtain rfl : b'' = a := by omega
                          exact okAt_ok rfl fun _ => e1
                      clear hcellb hrowb hrb hx hy e1 e2 hok2
                      go_wp2_with fail
                      go_roundw
                      case rel => exact ⟨a + 1, by omega, by go_num, hn2, hb2⟩
                      case measure => simp [intOf]; omega
                    · have HE : Hid (tOk t = false) := Lib.hid (tOk_bad hal hal (okAt_bad2 e1))
                      clear hcellb hrowb hrb hx hy e1 e2 hok2
                      go_wp2_with fail
                      go_ret
                      exact ⟨by rw [HE.out]; rfl, hb.trans (hb2.mono hzr)⟩
                  · have hn2 : Hid (∀ b'', b'' < j + 1 → okAt t a b'' = true) := Lib.hid fun b'' h => by
                      rcases Nat.lt_or_ge b'' j with h1 | h1
                      · exact hok2.out b'' h1
                      · obtain rfl : b'' = j := by omega
                        exact okAt_ok (e1.trans e2.symm) fun h => absurd h haj
                    have hne : ((a : Int) == (j : Int)) = false := by simp; omega
                    have hxx : (x != x) = false := by simp
                    clear hcellb hrowb hrb hx hy e1 e2 hok2
                    go_wp2_with fail
                    go_roundw
                    case rel => exact ⟨j + 1, by omega, by go_num, hn2, hb2⟩
                    case measure => simp [intOf]; omega
                · have HE : Hid (tOk t = false) := Lib.hid (tOk_bad hal hjl (okAt_bad1 (by rw [e1, e2]; exact hxy)))
                  have hxx : (x != y) = true := by simpa [bne] using hxy
                  clear hcellb hrowb hrb hx hy e1 e2 hok2
                  go_wp2_with fail
                  go_ret
                  exact ⟨by rw [HE.out]; rfl, hb.trans (hb2.mono hzr)⟩
              · have hn2 : Hid (∀ a' b', a' < a + 1 → b' < k → okAt t a' b' = true) := Lib.hid fun a' b' h1 h2 => by
                  rcases Nat.lt_or_ge a' a with h | h
                  · exact hok.out a' b' h h2
                  · obtain rfl : a' = a := by omega
                    exact hok2.out b' (by omega)
                clear hok hok2
                go_wp2_with fail
                go_roundw
                case rel => exact ⟨a + 1, by omega, by go_num, hn2, hb.trans (hb2.mono hzr)⟩
                case measure => simp [intOf]; omega
          · obtain rfl : a = k := by omega
            have HE : Hid (tOk t = true) := Lib.hid (tOk_iff.2 ⟨by rw [HL.out]; omega, by rw [HL.out]; omega, HSQ.out, fun x y hx hy => hok.out x y (by rw [HL.out] at hx; exact hx) (by rw [HL.out] at hy; exact hy)⟩)
            clear hok
            go_wp2_with fail
            go_ret
            exact ⟨by rw [HE.out]; rfl, hb⟩
end Go.Proofs.Ytlpbmnmhpknppaa
