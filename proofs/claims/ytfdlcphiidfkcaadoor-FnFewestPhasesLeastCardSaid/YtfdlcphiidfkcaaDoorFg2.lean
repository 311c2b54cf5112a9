/- setOf and coverWith, walked. -/
import Derived.Test.YtfdlcphiidfkcaaDoorFg1
import Derived.Test.YtfdlcphiidfkcaaDoorFb2
import Derived.Test.YtfdlcphiidfkcaaDoorFb3
import Derived.Test.YtfdlcphiidfkcaaDoorBb
import Derived.Laws.BitsAllLaws
import Derived.Laws.ShiftsVar
import Derived.Laws.ShiftsVarLaws
import Derived.WalkSpells
set_option linter.unusedVariables false
set_option linter.unusedSimpArgs false
namespace Go.Proofs.YtfdlcphiidfkcaaDoor
open Go.RowKit

set_option maxHeartbeats 2000000 in
theorem setOf_c (A : Option Addr) (n c : Nat) (ph : List Int) (w : World) (B : Nat) (hS : Sl w B ILit A n c ph) (hin : ∀ x ∈ ph, 0 ≤ x ∧ x < ((8 : Nat) : Int)) :
    Calls Tryd.prog 58 #[.slice A n c] w fun e w' => e = .returned (.int .u64 (setL ph)) ∧ w = w' := by
  obtain ⟨hc0, hc1⟩ := hS.cap
  have HL := Lib.hid hS.len
  have HIN := Lib.hid hin
  clear hin
  go_enter Tryd.func58, Tryd.ntmps58
  go_wp2_with fail
  go_loopw [3, 8] (fun sv i wr => ∃ k : Nat, k ≤ n ∧ i = .int .i64 k ∧ sv = .int .u64 (setL (ph.take k)) ∧ wr = w) (fun _ i _ => n - (intOf i).toNat)
  case atStart => exact ⟨0, Nat.zero_le _, rfl, rfl, rfl⟩
  case round =>
    obtain ⟨k, hk, rfl, rfl, rfl⟩ := hrel
    by_cases hlt : k < n
    · obtain ⟨b, o, x, rfl, hb, hx, hcell⟩ := hS.at_ hlt
      have r1 : wr.cell? ⟨b, o + k, none⟩ = some (.int .i64 x) := hcell
      obtain ⟨hx0, hx1⟩ := HIN.out x (List.mem_of_getElem? hx)
      obtain ⟨x, rfl⟩ := Int.eq_ofNat_of_zero_le hx0
      have hst := setL_take hx
      have hlt1 := setL_lt (n := 8) fun y (hy : y ∈ ph.take k) => HIN.out y (List.mem_of_mem_take hy)
      simp only [Int.toNat_natCast] at hst
      have hP8 : 2 ^ x < 2 ^ 8 := Nat.pow_lt_pow_right (by omega) (by omega)
      have hpw : (2 : Int) ^ x = ((2 ^ x : Nat) : Int) := by simp
      obtain ⟨u, hu⟩ : ∃ u, setL (ph.take k) = u := ⟨_, rfl⟩
      obtain ⟨P, hP⟩ : ∃ P, 2 ^ x = P := ⟨_, rfl⟩
      rw [hP] at hpw hP8 hst
      rw [hu] at hst hlt1 ⊢
      have hpw2 : IntKind.u64.wrap ((P : Nat) : Int) = P := by rw [IntKind.wrap_u64]; omega
      have hor : bits BinOp.or IntKind.u64 (u : Int) (P : Int) = ((u ||| P : Nat) : Int) := bits_or_u64_nat u P (by omega) (by omega)
      obtain ⟨u2, hu2⟩ : ∃ u2, u ||| P = u2 := ⟨_, rfl⟩
      rw [hu2] at hor hst
      have i2 : (0 : Int) ≤ (x : Int) := by omega
      have HST := Lib.hid hst
      clear hx hcell hS hst hu hP hu2
      go_wp2_with fail
      clear hpw hpw2 hor r1
      go_roundw
      case rel => exact ⟨k + 1, by omega, by go_num, by rw [HST.out], by first | exact rfl | trivial⟩
      case measure => simp [intOf]; omega
    · obtain rfl : k = n := by omega
      have HE : Hid (ph.take k = ph) := Lib.hid (List.take_of_length_le (by rw [HL.out]; exact Nat.le_refl _))
      rw [HE.out]
      go_wp2_with fail
      go_ret
      exact ⟨rfl, rfl⟩

/-- Slices with their three parts, each reads as its list. -/
abbrev T3 := Option Addr × Nat × Nat
def ZSl (w : World) (B : Nat) (A : Option Addr) (n c : Nat) (Z : List (T3 × List Int)) : Prop :=
  Sl w B SLit A n c (Z.map Prod.fst) ∧ ∀ p ∈ Z, Sl w B ILit p.1.1 p.1.2.1 p.1.2.2 p.2
section
variable {w w' : World} {B B' n c : Nat} {A : Option Addr} {Z : List (T3 × List Int)}
theorem ZSl.len (h : ZSl w B A n c Z) : Z.length = n := by have := h.1.len; simpa using this
theorem ZSl.below (h : ZSl w B A n c Z) (hb : Below B w w') : ZSl w' B A n c Z := ⟨h.1.below hb, fun p hp => (h.2 p hp).below hb⟩
theorem ZSl.more (h : ZSl w B A n c Z) (hB : B ≤ B') : ZSl w B' A n c Z := ⟨h.1.more hB, fun p hp => (h.2 p hp).more hB⟩
theorem ZSl.drop (h : ZSl w B A n c Z) {k : Nat} (hk : k ≤ n) : ZSl w B (if c = k then A else A.map (·.add k)) (n - k) (c - k) (Z.drop k) := by
  refine ⟨by rw [List.map_drop]; exact h.1.drop hk, fun p hp => h.2 p (List.mem_of_mem_drop hp)⟩
theorem ZSl.at_ (h : ZSl w B A n c Z) {k : Nat} (hk : k < n) : ∃ b o A1 n1 c1 ph, A = some ⟨b, o, none⟩ ∧ b < B ∧ Z[k]? = some ((A1, n1, c1), ph) ∧ w.cell? ⟨b, o + k, none⟩ = some (.slice A1 n1 c1) ∧ Sl w B ILit A1 n1 c1 ph := by
  obtain ⟨b, o, x, hA, hb, hx, hc⟩ := h.1.at_ hk
  rw [List.getElem?_map] at hx
  obtain ⟨p, hp, rfl⟩ := Option.map_eq_some_iff.1 hx
  exact ⟨b, o, p.1.1, p.1.2.1, p.1.2.2, p.2, hA, hb, hp, hc, h.2 p (List.mem_of_getElem? hp)⟩
end
def Chosen (w : World) (r : Option (List (T3 × List Int))) (e : Ending) (w' : World) : Prop :=
  match r with
  | none => e = .returned (.slice none 0 0) ∧ Below w.heap.size w w'
  | some O => ∃ g cap, e = .returned (.slice (some ⟨g, 0, none⟩) O.length cap) ∧ w'.ownsRow w.heap.size 28 1 (.slice (some ⟨g, 0, none⟩) O.length cap) O.length ((O.map Prod.fst).map SLit) ∧ Below w.heap.size w w'

theorem drop_u64 {a b : Nat} (ha : a < 256) (hb : b < 256) : bits BinOp.andNot IntKind.u64 (a : Int) (b : Int) = ((dropN a b : Nat) : Int) := by
  rw [u64_andNot_nat a b (by omega) (by omega)]
  congr 1
  apply Nat.eq_of_testBit_eq
  intro i
  rw [dropN_bit, Nat.testBit_and]
  have e : 18446744073709551615 - b = 2 ^ 64 - (b + 1) := by omega
  rw [e, Nat.testBit_two_pow_sub_succ (by omega)]
  by_cases hi : i < 64
  · simp [hi]
  · rw [Nat.testBit_lt_two_pow (show a < 2 ^ i from Nat.lt_of_lt_of_le (show a < 2 ^ 8 by omega) (Nat.pow_le_pow_right (by omega) (by omega)))]; simp

theorem own_one' {w0 w : World} {base E : Nat} (v : Value) (hb : base ≤ w.heap.size) : (w.alloc (.cells #[v] E)).ownsRow base E 1 (.slice (some ⟨w.heap.size, 0, none⟩) 1 1) 1 [v] :=
  ⟨rfl, .inr ⟨w.heap.size, 1, #[v], rfl, hb, heap_alloc_new w _, Nat.le_refl _, by decide, rfl, rfl⟩⟩

theorem own_some {w : World} {base E n : Nat} {v : Value} {xs : List Value} (h : w.ownsRow base E 1 v n xs) (hn : 0 < n) : ∃ g cap, v = .slice (some ⟨g, 0, none⟩) n cap := by
  obtain ⟨g, cap, rfl, -⟩ := own_set h hn
  exact ⟨g, cap, rfl⟩

set_option maxRecDepth 4000 in
set_option maxHeartbeats 8000000 in
theorem coverWith_c : ∀ (k : Nat) (A : Option Addr) (n c : Nat) (Z : List (T3 × List Int)) (m : Nat) (w : World) (B : Nat), ZSl w B A n c Z → B ≤ w.heap.size → (∀ p ∈ Z, ∀ x ∈ p.2, 0 ≤ x ∧ x < ((8 : Nat) : Int)) → m < 256 → n ≤ 1048576 → k ≤ 1048576 →
    Calls Tryd.prog 33 #[.slice A n c, .int .u64 m, .int .i64 k] w (Chosen w (cwP Z m k))
  | 0, A, n, c, Z, m, w, B, hZ, hB, hin, hm, hn, hk => by
    have HE := Lib.hid (cwP_zero Z m)
    go_enter Tryd.func33, Tryd.ntmps33
    go_wp2_with fail
    go_ret
    rw [HE.out]
    exact ⟨rfl, Below.refl _ _⟩
  | k + 1, A, n, c, Z, m, w, B, hZ, hB, hin, hm, hn, hk => by
    obtain ⟨i1, hj, hj0, hj1, hj2⟩ := info_parts info_rowL
    obtain ⟨hc0, hc1⟩ := hZ.1.cap
    have hnq := fun w' a l c => Go.run_neq_slice_nil_any (P := Tryd.prog) w' 25 28 a l c 0 0 Tryd.underlying25
    have IH := Lib.hid (fun A n c Z m w B h1 h2 h3 h4 h5 => coverWith_c k A n c Z m w B h1 h2 h3 h4 h5 (by omega))
    have HZ := Lib.hid (hZ.more hB)
    have HIN := Lib.hid hin
    have HL := Lib.hid hZ.len
    obtain ⟨q, hq⟩ : ∃ q, k + 1 = q := ⟨_, rfl⟩
    rw [hq] at hk ⊢
    have hk0 : ((q : Int) == 0) = false := by simp; omega
    have hk1 : ¬ q = 0 := by omega
    have hk6 : (q : Int) - 1 = (k : Int) := by omega
    have HQ := Lib.hid hq
    clear hq
    clear hZ hin
    go_enter Tryd.func33, Tryd.ntmps33
    go_wp2_with fail
    go_loopw [15] (fun i wr => ∃ j : Nat, j ≤ n ∧ i = .int .i64 j ∧ Hid (cwP Z m q = cwP (Z.drop j) m q) ∧ Below w.heap.size w wr) (fun i _ => n - (intOf i).toNat)
    case atStart => exact ⟨0, Nat.zero_le _, rfl, Lib.hid rfl, Below.refl _ _⟩
    case round =>
      obtain ⟨j, hjn, rfl, hst, hb⟩ := hrel
      have hzr := hb.size
      by_cases hlt : j < n
      · obtain ⟨b, o, A1, n1, c1, ph, rfl, hbl, hp, hcell, hrow⟩ := (HZ.out.below hb).at_ hlt
        have r1 : wr.cell? ⟨b, o + j, none⟩ = some (.slice A1 n1 c1) := hcell
        have hinp := HIN.out _ (List.mem_of_getElem? hp)
        have hd : Z.drop j = ((A1, n1, c1), ph) :: Z.drop (j + 1) := by
          obtain ⟨l1, e1⟩ := List.getElem?_eq_some_iff.1 hp
          rw [List.drop_eq_getElem_cons l1, e1]
        have hcw := hst.out
        rw [hd, ← HQ.out, cwP, HQ.out] at hcw
        have hsl := setL_lt hinp
        have CS := Lib.hid (setOf_c A1 n1 c1 ph wr _ hrow hinp)
        dsimp only at hcw
        obtain ⟨s, hs⟩ : ∃ s, setL ph = s := ⟨_, rfl⟩
        rw [hs] at hcw CS hsl
        have hdr := drop_u64 hm (show s < 256 from hsl)
        have hdl := dropN_le m s
        obtain ⟨R, hR⟩ : ∃ R, dropN m s = R := ⟨_, rfl⟩
        rw [hR] at hcw hdr hdl
        have HROW := Lib.hid hrow
        have HB := Lib.hid hb
        clear hcell hp hd hs hR hinp hrow hst hb
        by_cases hR0 : R = 0
        · subst hR0
          rw [if_pos rfl] at hcw
          by_cases hk2 : k = 0
          · rw [if_pos hk2] at hcw
            obtain rfl : q = 1 := by have := HQ.out; omega
            have HCW := Lib.hid hcw
            have hO := own_one' (w0 := w) (base := w.heap.size) (E := 28) (.slice A1 n1 c1) hzr
            have HO := Lib.hid hO
            clear hcw hO
            go_wp2_with fail
            refine CS.out.mono ?_
            rintro e wa ⟨rfl, rfl⟩
            go_wp2_with fail
            go_ret
            rw [HCW.out]
            exact ⟨wr.heap.size, 1, rfl, HO.out, HB.out.alloc hzr _⟩
          · rw [if_neg hk2] at hcw
            have HCW := Lib.hid hcw
            have hk7 := HQ.out
            have hk3 : ((q : Int) == 1) = false := by simp; omega
            have hk4 : ¬ (q : Int) = 1 := by omega
            have hk5 : ¬ q = 1 := by omega
            clear hk7
            clear hcw
            go_wp2_with fail
            refine CS.out.mono ?_
            rintro e wa ⟨rfl, rfl⟩
            go_wp2_with fail
            go_roundw
            case rel => exact ⟨j + 1, by omega, by go_num, HCW, HB.out⟩
            case measure => simp [intOf]; omega
        · rw [if_neg hR0] at hcw
          have hr0 : ((R : Int) == 0) = false := by simp; omega
          have hzd := (HZ.out.below HB.out).drop (k := j + 1) (by omega)
          have hin2 : ∀ p ∈ Z.drop (j + 1), ∀ x ∈ p.2, 0 ≤ x ∧ x < ((8 : Nat) : Int) := fun p hp => HIN.out p (List.mem_of_mem_drop hp)
          have j1 : (0 : Int) ≤ (j : Int) + 1 := by omega
          have j2 : (j : Int) + 1 ≤ (n : Int) := by omega
          have j3 : ((j : Int) + 1).toNat = j + 1 := by omega
          have hrec : ∀ (A' : Option Addr) (c' : Nat), ZSl wr w.heap.size A' (n - (j + 1)) c' (Z.drop (j + 1)) → Calls Tryd.prog 33 #[.slice A' (n - (j + 1)) c', .int .u64 R, .int .i64 k] wr (Chosen wr (cwP (Z.drop (j + 1)) R k)) := fun A' c' h =>
            IH.out A' (n - (j + 1)) c' (Z.drop (j + 1)) R wr w.heap.size h hzr hin2 (by omega) (by omega)
          have hcall := hrec _ _ hzd
          have HROW2 := HROW
          obtain ⟨r, hr⟩ : ∃ r, cwP (Z.drop (j + 1)) R k = r := ⟨_, rfl⟩
          rw [hr] at hcw hcall
          by_cases hcj : c = j + 1
          · have hcz : c - (j + 1) = 0 := by omega
            rw [if_pos hcj, hcz] at hcall
            have HCALL := Lib.hid hcall
            clear hcall hcj
            clear hzd hrec IH HIN HZ
            go_wp2_with fail
            refine CS.out.mono ?_
            rintro e wa ⟨rfl, rfl⟩
            go_wp2_with fail
            refine HCALL.out.mono ?_
            rintro e w1 hch
            cases r with
            | none =>
              obtain ⟨rfl, hb1⟩ := hch
              have HCW := Lib.hid hcw
              have hbn := HB.out.trans (hb1.mono hzr)
              clear hcw hb1 HCALL CS
              go_wp2_with fail
              go_roundw
              case rel => exact ⟨j + 1, by omega, by go_num, HCW, hbn⟩
              case measure => simp [intOf]; omega
            | some O =>
              obtain ⟨g, cap, rfl, hO, hb1⟩ := hch
              have HCW := Lib.hid hcw
              have hol : O.length ≤ 1048576 := by have := (cwP_sound hr).2.1; omega
              have hbn := HB.out.trans (hb1.mono hzr)
              have hz1 := hbn.size
              obtain ⟨A9, c9, e9, hO9⟩ := Ow.of_own hO
              injection e9 with e9 e9' e9''
              subst e9 e9''
              have hn0 := own_one' (w0 := w) (w := w1) (base := w.heap.size) (E := 28) (.slice A1 n1 c1) hz1
              have hbA := hbn.alloc hz1 (.cells #[.slice A1 n1 c1] 28)
              have hS9 := (hO9.sl.below ((Below.refl w1.heap.size w1).alloc (Nat.le_refl _) (.cells #[.slice A1 n1 c1] 28)))
              clear hcw HCALL CS hr hb1 hO hO9
              go_wp2_with (at_builtin; refine wpList_appS w _ rfl _ _ 25 rfl 28 i1 (.slice none 0 0) 24 Tryd.underlying25 hj hj0 hj1 hj2 rfl (by decide) w.heap.size _ 1 [.slice A1 n1 c1] (by rfl) hn0 _ O.length cap _ SLit (O.map Prod.fst) (by rfl) hS9 (fun _ => rfl) (by omega) (by omega) hbA (by simp; omega) ?_; intro v5 w5 hO5 hb5 hg5)
              obtain ⟨g5, cap5, rfl⟩ := own_some hO5 (by omega)
              have HO5 := Lib.hid hO5
              clear hO5 hg5 hS9 hn0 hbA
              go_wp2_with fail
              go_ret
              rw [HCW.out]
              exact ⟨g5, cap5, by first | rfl | (rw [List.length_cons, Nat.add_comm]; rfl), by rw [List.length_cons, Nat.add_comm]; exact HO5.out, hb5⟩
          · rw [if_neg hcj] at hcall
            have hcall' : Calls Tryd.prog 33 #[.slice (some ⟨b, o + (j + 1), none⟩) (n - (j + 1)) (c - (j + 1)), .int .u64 R, .int .i64 k] wr (Chosen wr r) := hcall
            have HCALL := Lib.hid hcall'
            clear hcall hcall'
            clear hzd hrec IH HIN HZ
            go_wp2_with fail
            refine CS.out.mono ?_
            rintro e wa ⟨rfl, rfl⟩
            go_wp2_with fail
            refine HCALL.out.mono ?_
            rintro e w1 hch
            cases r with
            | none =>
              obtain ⟨rfl, hb1⟩ := hch
              have HCW := Lib.hid hcw
              have hbn := HB.out.trans (hb1.mono hzr)
              clear hcw hb1 HCALL CS
              go_wp2_with fail
              go_roundw
              case rel => exact ⟨j + 1, by omega, by go_num, HCW, hbn⟩
              case measure => simp [intOf]; omega
            | some O =>
              obtain ⟨g, cap, rfl, hO, hb1⟩ := hch
              have HCW := Lib.hid hcw
              have hol : O.length ≤ 1048576 := by have := (cwP_sound hr).2.1; omega
              have hbn := HB.out.trans (hb1.mono hzr)
              have hz1 := hbn.size
              obtain ⟨A9, c9, e9, hO9⟩ := Ow.of_own hO
              injection e9 with e9 e9' e9''
              subst e9 e9''
              have hn0 := own_one' (w0 := w) (w := w1) (base := w.heap.size) (E := 28) (.slice A1 n1 c1) hz1
              have hbA := hbn.alloc hz1 (.cells #[.slice A1 n1 c1] 28)
              have hS9 := (hO9.sl.below ((Below.refl w1.heap.size w1).alloc (Nat.le_refl _) (.cells #[.slice A1 n1 c1] 28)))
              clear hcw HCALL CS hr hb1 hO hO9
              go_wp2_with (at_builtin; refine wpList_appS w _ rfl _ _ 25 rfl 28 i1 (.slice none 0 0) 24 Tryd.underlying25 hj hj0 hj1 hj2 rfl (by decide) w.heap.size _ 1 [.slice A1 n1 c1] (by rfl) hn0 _ O.length cap _ SLit (O.map Prod.fst) (by rfl) hS9 (fun _ => rfl) (by omega) (by omega) hbA (by simp; omega) ?_; intro v5 w5 hO5 hb5 hg5)
              obtain ⟨g5, cap5, rfl⟩ := own_some hO5 (by omega)
              have HO5 := Lib.hid hO5
              clear hO5 hg5 hS9 hn0 hbA
              go_wp2_with fail
              go_ret
              rw [HCW.out]
              exact ⟨g5, cap5, by first | rfl | (rw [List.length_cons, Nat.add_comm]; rfl), by rw [List.length_cons, Nat.add_comm]; exact HO5.out, hb5⟩
      · obtain rfl : j = n := by omega
        have hE : Z.drop j = [] := List.drop_of_length_le (by rw [HL.out]; exact Nat.le_refl _)
        have hcw := hst.out
        rw [hE] at hcw
        have HCW := Lib.hid (hcw.trans (show cwP [] m q = none by rw [← HQ.out]; rfl))
        clear hcw hst
        go_wp2_with fail
        go_ret
        rw [HCW.out]
        exact ⟨rfl, hb⟩
end Go.Proofs.YtfdlcphiidfkcaaDoor
