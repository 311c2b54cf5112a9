/- Lamps read: validLamps, mayFollow, FirstBadLamp of the program and of the reference. -/
import Derived.Test.YtafhjkhpibpldaaRows
import Derived.Test.YtafhjkhpibpldaaOw
import Derived.PlainAid
set_option linter.unusedVariables false
set_option linter.unusedSimpArgs false
namespace Go.Proofs.Ytafhjkhpibpldaa
open Go.RowKit Go.PlainAid

def okB (c : Int) : Bool := c == 82 || c == 65 || c == 71 || c == 89
def allTo (s : ByteArray) : Nat → Bool
  | 0 => true
  | k + 1 => allTo s k && okB (bt s k)
def valF (s : ByteArray) : Bool := decide (s.size ≤ 200) && allTo s s.size

theorem allTo_false {s : ByteArray} {k : Nat} (h : okB (bt s k) = false) : ∀ n, k < n → allTo s n = false := by
  intro n
  induction n with
  | zero => intro h; omega
  | succ n ih =>
    intro hk
    by_cases hkn : k = n
    · subst hkn; simp [allTo, h]
    · simp [allTo, ih (by omega)]
theorem allTo_ok {s : ByteArray} {n : Nat} (h : allTo s n = true) : ∀ k, k < n → okB (bt s k) = true := by
  intro k hk
  cases hb : okB (bt s k)
  · rw [allTo_false hb n hk] at h; cases h
  · rfl
theorem okB_cases {c : Int} (h : okB c = true) : c = 82 ∨ c = 65 ∨ c = 71 ∨ c = 89 := by
  simp [okB] at h
  omega
theorem okB_not {c : Int} (h : okB c = false) : c ≠ 82 ∧ c ≠ 65 ∧ c ≠ 71 ∧ c ≠ 89 := by
  simp [okB] at h
  omega

theorem validLamps_c (s : ByteArray) (w : World) (hs : s.size ≤ 9223372036854775807) :
    Calls Try.prog 21 #[.string s] w fun e w' => e = .returned (.bool (valF s)) ∧ Below w.heap.size w w' := by
  by_cases hn : 200 < s.size
  · have hv : valF s = false := by simp [valF]; omega
    rw [hv]
    clear hv
    go_enter Try.func21, Try.ntmps21
    go_wp2
    go_ret
    exact ⟨rfl, Below.refl _ _⟩
  · go_enter Try.func21, Try.ntmps21
    go_wp2
    go_loop [9] (fun i => ∃ k : Nat, k ≤ s.size ∧ i = .int .i64 k ∧ Hid (allTo s k = true)) (fun i => s.size - (intOf i).toNat)
    case atStart => exact ⟨0, Nat.zero_le _, rfl, rfl⟩
    case round =>
      obtain ⟨k, hk, rfl, hall⟩ := hrel
      by_cases hlt : k < s.size
      · have hbk := get_bt s k hlt
        cases hok : okB (bt s k)
        · obtain ⟨c, hc⟩ : ∃ c, bt s k = c := ⟨_, rfl⟩
          have hn := okB_not hok
          rw [hc] at hbk hn
          obtain ⟨n1, n2, n3, n4⟩ := hn
          have hv : Hid (valF s = false) := by
            show valF s = false
            simp [valF, allTo_false hok _ hlt]
          clear hc hok
          go_wp2
          go_ret
          exact ⟨by rw [hv.out]; rfl, Below.refl _ _⟩
        · have hal : Hid (allTo s (k + 1) = true) := by
            show allTo s (k + 1) = true
            simp [allTo, hall.out, hok]
          rcases okB_cases hok with hc | hc | hc | hc
          all_goals
            rw [hc] at hbk
            clear hc hok
            go_wp2
            go_round
            case rel => exact ⟨k + 1, by omega, by go_num, hal⟩
            case measure => simp [intOf]; omega
      · obtain rfl : k = s.size := by omega
        have hv : Hid (valF s = true) := by
          show valF s = true
          simp [valF, hall.out]
          omega
        go_wp2
        go_ret
        exact ⟨by rw [hv.out]; rfl, Below.refl _ _⟩

theorem svalidLamps_c (s : ByteArray) (w : World) (hs : s.size ≤ 9223372036854775807) :
    Calls Try.prog 19 #[.string s] w fun e w' => e = .returned (.bool (valF s)) ∧ Below w.heap.size w w' := by
  go_enter Try.func19, Try.ntmps19
  go_wp2
  go_loop [3] (fun i => ∃ k : Nat, k ≤ s.size ∧ i = .int .i64 k ∧ Hid (allTo s k = true)) (fun i => s.size - (intOf i).toNat)
  case atStart => exact ⟨0, Nat.zero_le _, rfl, rfl⟩
  case round =>
    obtain ⟨k, hk, rfl, hall⟩ := hrel
    by_cases hlt : k < s.size
    · have hbk := get_bt s k hlt
      cases hok : okB (bt s k)
      · obtain ⟨c, hc⟩ : ∃ c, bt s k = c := ⟨_, rfl⟩
        have hn := okB_not hok
        rw [hc] at hbk hn
        obtain ⟨n1, n2, n3, n4⟩ := hn
        have hv : Hid (valF s = false) := by
          show valF s = false
          simp [valF, allTo_false hok _ hlt]
        have m1 : (c != 82) = true := by simpa [bne] using n1
        have m2 : (c != 65) = true := by simpa [bne] using n2
        have m3 : (c != 71) = true := by simpa [bne] using n3
        have m4 : (c != 89) = true := by simpa [bne] using n4
        clear hc hok
        go_wp2
        go_ret
        exact ⟨by rw [hv.out]; rfl, Below.refl _ _⟩
      · have hal : Hid (allTo s (k + 1) = true) := by
          show allTo s (k + 1) = true
          simp [allTo, hall.out, hok]
        rcases okB_cases hok with hc | hc | hc | hc
        all_goals
          rw [hc] at hbk
          clear hc hok
          go_wp2
          go_round
          case rel => exact ⟨k + 1, by omega, by go_num, hal⟩
          case measure => simp [intOf]; omega
    · obtain rfl : k = s.size := by omega
      have hv : Hid (valF s = decide ((s.size : Int) ≤ 200)) := by
        show valF s = _
        simp [valF, hall.out]
        omega
      go_wp2
      go_ret
      exact ⟨by rw [hv.out]; rfl, Below.refl _ _⟩

def mfB (a b : Int) : Bool := if a = 82 then b != 89 else if a = 65 then b == 71 else if a = 71 then (b == 71 || b == 89) else true

theorem mayFollow_c (a b : Int) (w : World) (hb : okB b = true) :
    Calls Try.prog 22 #[.int .u8 a, .int .u8 b] w fun e w' => e = .returned (.bool (mfB a b)) ∧ Below w.heap.size w w' := by
  rcases okB_cases hb with hb | hb | hb | hb
  all_goals
    subst hb
    by_cases h1 : a = 82
    · subst h1
      go_enter Try.func22, Try.ntmps22
      go_wp2
      go_ret
      exact ⟨rfl, Below.refl _ _⟩
    by_cases h2 : a = 65
    · subst h2
      go_enter Try.func22, Try.ntmps22
      go_wp2
      go_ret
      exact ⟨rfl, Below.refl _ _⟩
    by_cases h3 : a = 71
    · subst h3
      go_enter Try.func22, Try.ntmps22
      go_wp2
      go_ret
      exact ⟨rfl, Below.refl _ _⟩
    · go_enter Try.func22, Try.ntmps22
      go_wp2
      go_ret
      exact ⟨by simp [mfB, h1, h2, h3], Below.refl _ _⟩

theorem follows_c (a b : Int) (w : World) (ha : okB a = true) (hb : okB b = true) :
    Calls Try.prog 20 #[.int .u8 a, .int .u8 b] w fun e w' => e = .returned (.bool (mfB a b)) ∧ Below w.heap.size w w' := by
  rcases okB_cases hb with hb | hb | hb | hb <;> rcases okB_cases ha with ha | ha | ha | ha
  all_goals
    subst ha hb
    go_enter Try.func20, Try.ntmps20
    go_wp2
    go_ret
    exact ⟨rfl, Below.refl _ _⟩

/-- The first bad lamp among the first k. -/
def fbTo (s : ByteArray) : Nat → Int
  | 0 => -1
  | k + 1 => if fbTo s k ≠ -1 then fbTo s k else if 1 ≤ k ∧ mfB (bt s (k - 1)) (bt s k) = false then (k : Int) else -1
def fbF (s : ByteArray) : Int := if valF s = true then fbTo s s.size else -2
theorem fbTo_one (s : ByteArray) : fbTo s 1 = -1 := by simp [fbTo]
theorem fbTo_ok {s : ByteArray} {k : Nat} (h : fbTo s k = -1) (hm : mfB (bt s (k - 1)) (bt s k) = true) : fbTo s (k + 1) = -1 := by simp [fbTo, h, hm]
theorem fbTo_bad {s : ByteArray} {k : Nat} (h : fbTo s k = -1) (h1 : 1 ≤ k) (hm : mfB (bt s (k - 1)) (bt s k) = false) : ∀ n, k < n → fbTo s n = k := by
  intro n
  induction n with
  | zero => intro h; omega
  | succ n ih =>
    intro hk
    by_cases hkn : k = n
    · subst hkn; simp [fbTo, h, h1, hm]
    · have := ih (by omega)
      rw [fbTo, this, if_pos (by omega)]

set_option maxHeartbeats 1000000 in
theorem firstBadLamp_c (s : ByteArray) (w : World) (hs : s.size ≤ 9223372036854775807) :
    Calls Try.prog 9 #[.string s] w fun e w' => e = .returned (.int .i64 (fbF s)) ∧ Below w.heap.size w w' := by
  cases hv : valF s
  · have hf : fbF s = -2 := by simp [fbF, hv]
    have c1 := fun w => validLamps_c s w hs
    rw [hv] at c1
    have C1 := Lib.hid c1
    rw [hf]
    clear c1 hv hf
    go_enter Try.func9, Try.ntmps9
    go_wp2_with (go_at_call 21; refine (C1.out _).mono ?_; rintro e w1 ⟨rfl, hb1⟩; obtain ⟨os1, d1, rfl⟩ := is_plus hb1; clear hb1)
    go_ret
    exact ⟨rfl, by (repeat' (first | (with_reducible exact Below.refl _ _) | (with_reducible assumption) | (with_reducible refine Below.alloc ?_ ?_ _) | (with_reducible refine below_plus ?_ ?_ _ _) | (with_reducible refine Below.drew ?_) | (with_reducible refine Below.setCell ?_ ?_ _) | (with_reducible refine below_adv ?_ ?_ _) | go_size | (simp; omega)))⟩
  · have hf : fbF s = fbTo s s.size := by simp [fbF, hv]
    have c1 := fun w => validLamps_c s w hs
    rw [hv] at c1
    have C1 := Lib.hid c1
    have hall : allTo s s.size = true := by simp [valF] at hv; exact hv.2
    have HA := Lib.hid hall
    rw [hf]
    clear c1 hv hf hall
    go_enter Try.func9, Try.ntmps9
    go_wp2_with (go_at_call 21; refine (C1.out _).mono ?_; rintro e w1 ⟨rfl, hb1⟩; obtain ⟨os1, d1, rfl⟩ := is_plus hb1; clear hb1)
    clear C1
    go_loopw [3] (fun i wr => ∃ k : Nat, 1 ≤ k ∧ (k ≤ s.size ∨ k = 1) ∧ i = .int .i64 k ∧ Hid (fbTo s k = -1) ∧ ∃ os d, wr = plus w os d) (fun i _ => s.size - (intOf i).toNat)
    case atStart => exact ⟨1, by omega, by omega, rfl, fbTo_one s, _, _, rfl⟩
    case round =>
      obtain ⟨k, hk1, hk, rfl, hfb, os, d, rfl⟩ := hrel
      by_cases hlt : k < s.size
      · have hb0 := get_bt s (k - 1) (by omega)
        have hb1 := get_bt s k hlt
        have hok0 := allTo_ok HA.out (k - 1) (by omega)
        have hok1 := allTo_ok HA.out k hlt
        have i1 : IntKind.i64.wrap ((k : Int) - 1) = (k : Int) - 1 := IntWalk.i64_in _ (by omega)
        have i2 : 0 ≤ (k : Int) - 1 := by omega
        have i3 : ((k : Int) - 1).toNat = k - 1 := by omega
        have i4 : (k : Int) - 1 < (s.size : Int) := by omega
        have i5 : (k : Int) < (s.size : Int) := by omega
        have i6 : k - 1 < s.size := by omega
        obtain ⟨x0, hx0⟩ : ∃ x, bt s (k - 1) = x := ⟨_, rfl⟩
        obtain ⟨x1, hx1⟩ : ∃ x, bt s k = x := ⟨_, rfl⟩
        cases hm : mfB (bt s (k - 1)) (bt s k)
        · have hbad := Lib.hid (fbTo_bad hfb.out hk1 hm s.size hlt)
          rw [hx0] at hb0 hok0 hm
          rw [hx1] at hb1 hok1 hm
          have c2 := fun w => (show Calls Try.prog 22 #[.int .u8 x0, .int .u8 x1] w fun e w' => e = .returned (.bool (mfB x0 x1)) ∧ Below w.heap.size w w' from by first | exact mayFollow_c _ _ _ hok1 | exact follows_c _ _ _ hok0 hok1)
          rw [hm] at c2
          have C2 := Lib.hid c2
          clear c2 hx0 hx1 hm hok0 hok1
          go_wp2_with fail
          refine wp_region_plus (by kernel_rfl) (by kernel_rfl) ?_; (repeat (go_big_quiet_step (first | (go_at_call 22; exact quiet_plus2 (C2.out _)) | (go_at_call 22; exact quiet_plus (C2.out _))))); refine wpQuiet_nil ?_; intro _ hw'; obtain ⟨⟨osq, dq⟩, hw''⟩ := hw'; subst hw''
          clear i1 i2 i3
          go_wp2_with fail
          go_ret
          exact ⟨by rw [hbad.out]; rfl, by (repeat' (first | (with_reducible exact Below.refl _ _) | (with_reducible assumption) | (with_reducible refine Below.alloc ?_ ?_ _) | (with_reducible refine below_plus ?_ ?_ _ _) | (with_reducible refine Below.drew ?_) | (with_reducible refine Below.setCell ?_ ?_ _) | (with_reducible refine below_adv ?_ ?_ _) | go_size | (simp; omega)))⟩
        · have hgood := Lib.hid (fbTo_ok hfb.out hm)
          rw [hx0] at hb0 hok0 hm
          rw [hx1] at hb1 hok1 hm
          have c2 := fun w => (show Calls Try.prog 22 #[.int .u8 x0, .int .u8 x1] w fun e w' => e = .returned (.bool (mfB x0 x1)) ∧ Below w.heap.size w w' from by first | exact mayFollow_c _ _ _ hok1 | exact follows_c _ _ _ hok0 hok1)
          rw [hm] at c2
          have C2 := Lib.hid c2
          clear c2 hx0 hx1 hm hok0 hok1
          go_wp2_with fail
          refine wp_region_plus (by kernel_rfl) (by kernel_rfl) ?_; (repeat (go_big_quiet_step (first | (go_at_call 22; exact quiet_plus2 (C2.out _)) | (go_at_call 22; exact quiet_plus (C2.out _))))); refine wpQuiet_nil ?_; intro _ hw'; obtain ⟨⟨osq, dq⟩, hw''⟩ := hw'; subst hw''
          clear i1 i2 i3
          go_wp2_with fail
          go_roundw
          case rel => exact ⟨k + 1, by omega, by omega, by go_num, hgood, _, _, rfl⟩
          case measure => simp [intOf]; omega
      · have hfe : Hid (fbTo s s.size = -1) := by
          show fbTo s s.size = -1
          rcases hk with hk | hk
          · obtain rfl : k = s.size := by omega
            exact hfb.out
          · have : s.size = 0 ∨ s.size = 1 := by omega
            rcases this with h | h
            · rw [h]; rfl
            · rw [h]; exact fbTo_one s
        go_wp2_with fail
        go_ret
        exact ⟨by rw [hfe.out]; rfl, by (repeat' (first | (with_reducible exact Below.refl _ _) | (with_reducible assumption) | (with_reducible refine Below.alloc ?_ ?_ _) | (with_reducible refine below_plus ?_ ?_ _ _) | (with_reducible refine Below.drew ?_) | (with_reducible refine Below.setCell ?_ ?_ _) | (with_reducible refine below_adv ?_ ?_ _) | go_size | (simp; omega)))⟩

set_option maxHeartbeats 1000000 in
theorem sfirstBadLamp_c (s : ByteArray) (w : World) (hs : s.size ≤ 9223372036854775807) :
    Calls Try.prog 8 #[.string s] w fun e w' => e = .returned (.int .i64 (fbF s)) ∧ Below w.heap.size w w' := by
  cases hv : valF s
  · have hf : fbF s = -2 := by simp [fbF, hv]
    have c1 := fun w => svalidLamps_c s w hs
    rw [hv] at c1
    have C1 := Lib.hid c1
    rw [hf]
    clear c1 hv hf
    go_enter Try.func8, Try.ntmps8
    go_wp2_with (go_at_call 19; refine (C1.out _).mono ?_; rintro e w1 ⟨rfl, hb1⟩; obtain ⟨os1, d1, rfl⟩ := is_plus hb1; clear hb1)
    go_ret
    exact ⟨rfl, by (repeat' (first | (with_reducible exact Below.refl _ _) | (with_reducible assumption) | (with_reducible refine Below.alloc ?_ ?_ _) | (with_reducible refine below_plus ?_ ?_ _ _) | (with_reducible refine Below.drew ?_) | (with_reducible refine Below.setCell ?_ ?_ _) | (with_reducible refine below_adv ?_ ?_ _) | go_size | (simp; omega)))⟩
  · have hf : fbF s = fbTo s s.size := by simp [fbF, hv]
    have c1 := fun w => svalidLamps_c s w hs
    rw [hv] at c1
    have C1 := Lib.hid c1
    have hall : allTo s s.size = true := by simp [valF] at hv; exact hv.2
    have HA := Lib.hid hall
    rw [hf]
    clear c1 hv hf hall
    go_enter Try.func8, Try.ntmps8
    go_wp2_with (go_at_call 19; refine (C1.out _).mono ?_; rintro e w1 ⟨rfl, hb1⟩; obtain ⟨os1, d1, rfl⟩ := is_plus hb1; clear hb1)
    clear C1
    go_loopw [3] (fun i wr => ∃ k : Nat, 1 ≤ k ∧ (k ≤ s.size ∨ k = 1) ∧ i = .int .i64 k ∧ Hid (fbTo s k = -1) ∧ ∃ os d, wr = plus w os d) (fun i _ => s.size - (intOf i).toNat)
    case atStart => exact ⟨1, by omega, by omega, rfl, fbTo_one s, _, _, rfl⟩
    case round =>
      obtain ⟨k, hk1, hk, rfl, hfb, os, d, rfl⟩ := hrel
      by_cases hlt : k < s.size
      · have hb0 := get_bt s (k - 1) (by omega)
        have hb1 := get_bt s k hlt
        have hok0 := allTo_ok HA.out (k - 1) (by omega)
        have hok1 := allTo_ok HA.out k hlt
        have i1 : IntKind.i64.wrap ((k : Int) - 1) = (k : Int) - 1 := IntWalk.i64_in _ (by omega)
        have i2 : 0 ≤ (k : Int) - 1 := by omega
        have i3 : ((k : Int) - 1).toNat = k - 1 := by omega
        have i4 : (k : Int) - 1 < (s.size : Int) := by omega
        have i5 : (k : Int) < (s.size : Int) := by omega
        have i6 : k - 1 < s.size := by omega
        obtain ⟨x0, hx0⟩ : ∃ x, bt s (k - 1) = x := ⟨_, rfl⟩
        obtain ⟨x1, hx1⟩ : ∃ x, bt s k = x := ⟨_, rfl⟩
        cases hm : mfB (bt s (k - 1)) (bt s k)
        · have hbad := Lib.hid (fbTo_bad hfb.out hk1 hm s.size hlt)
          rw [hx0] at hb0 hok0 hm
          rw [hx1] at hb1 hok1 hm
          have c2 := fun w => (show Calls Try.prog 20 #[.int .u8 x0, .int .u8 x1] w fun e w' => e = .returned (.bool (mfB x0 x1)) ∧ Below w.heap.size w w' from by first | exact mayFollow_c _ _ _ hok1 | exact follows_c _ _ _ hok0 hok1)
          rw [hm] at c2
          have C2 := Lib.hid c2
          clear c2 hx0 hx1 hm hok0 hok1
          go_wp2_with fail
          refine wp_region_plus (by kernel_rfl) (by kernel_rfl) ?_; (repeat (go_big_quiet_step (first | (go_at_call 20; exact quiet_plus2 (C2.out _)) | (go_at_call 20; exact quiet_plus (C2.out _))))); refine wpQuiet_nil ?_; intro _ hw'; obtain ⟨⟨osq, dq⟩, hw''⟩ := hw'; subst hw''
          clear i1 i2 i3
          go_wp2_with fail
          go_ret
          exact ⟨by rw [hbad.out]; rfl, by (repeat' (first | (with_reducible exact Below.refl _ _) | (with_reducible assumption) | (with_reducible refine Below.alloc ?_ ?_ _) | (with_reducible refine below_plus ?_ ?_ _ _) | (with_reducible refine Below.drew ?_) | (with_reducible refine Below.setCell ?_ ?_ _) | (with_reducible refine below_adv ?_ ?_ _) | go_size | (simp; omega)))⟩
        · have hgood := Lib.hid (fbTo_ok hfb.out hm)
          rw [hx0] at hb0 hok0 hm
          rw [hx1] at hb1 hok1 hm
          have c2 := fun w => (show Calls Try.prog 20 #[.int .u8 x0, .int .u8 x1] w fun e w' => e = .returned (.bool (mfB x0 x1)) ∧ Below w.heap.size w w' from by first | exact mayFollow_c _ _ _ hok1 | exact follows_c _ _ _ hok0 hok1)
          rw [hm] at c2
          have C2 := Lib.hid c2
          clear c2 hx0 hx1 hm hok0 hok1
          go_wp2_with fail
          refine wp_region_plus (by kernel_rfl) (by kernel_rfl) ?_; (repeat (go_big_quiet_step (first | (go_at_call 20; exact quiet_plus2 (C2.out _)) | (go_at_call 20; exact quiet_plus (C2.out _))))); refine wpQuiet_nil ?_; intro _ hw'; obtain ⟨⟨osq, dq⟩, hw''⟩ := hw'; subst hw''
          clear i1 i2 i3
          go_wp2_with fail
          go_roundw
          case rel => exact ⟨k + 1, by omega, by omega, by go_num, hgood, _, _, rfl⟩
          case measure => simp [intOf]; omega
      · have hfe : Hid (fbTo s s.size = -1) := by
          show fbTo s s.size = -1
          rcases hk with hk | hk
          · obtain rfl : k = s.size := by omega
            exact hfb.out
          · have : s.size = 0 ∨ s.size = 1 := by omega
            rcases this with h | h
            · rw [h]; rfl
            · rw [h]; exact fbTo_one s
        go_wp2_with fail
        go_ret
        exact ⟨by rw [hfe.out]; rfl, by (repeat' (first | (with_reducible exact Below.refl _ _) | (with_reducible assumption) | (with_reducible refine Below.alloc ?_ ?_ _) | (with_reducible refine below_plus ?_ ?_ _ _) | (with_reducible refine Below.drew ?_) | (with_reducible refine Below.setCell ?_ ?_ _) | (with_reducible refine below_adv ?_ ?_ _) | go_size | (simp; omega)))⟩

end Go.Proofs.Ytafhjkhpibpldaa
