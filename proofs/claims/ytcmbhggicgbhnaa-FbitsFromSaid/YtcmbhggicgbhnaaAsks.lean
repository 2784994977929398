/-
  FbitsAsks: the contracts of the reference's functions (Bits, From, Class, Key, Same, unkey, Next, Prev) and the walk of the law: it returns true at every two numbers. No condition.
-/
import Derived.Test.YtcmbhggicgbhnaaNext
import Derived.Test.YtcmbhggicgbhnaaLine
namespace Go.Proofs.Ytcmbhggicgbhnaa
open Go.RowKit F64

set_option maxHeartbeats 400000 in
theorem rbits_any (x : Nat) (w : World) : Calls Try.prog 20 #[.float .f64 x] w fun e w' => e = .returned (.int .u64 (bitsF x : Nat)) ∧ w = w' := by
  cases h : isNaN x
  · have e : bitsF x = x := by unfold bitsF; simp [h]
    rw [e]
    have h1 := ord_self_num h
    clear h e
    go_enter Try.func20, Try.ntmps20
    go_wp2
    go_ret
    exact ⟨rfl, rfl⟩
  · have e : bitsF x = QNAN := by unfold bitsF; simp [h]
    rw [e]
    have h1 := ord_self_nan h
    clear h e
    go_enter Try.func20, Try.ntmps20
    go_wp2
    go_ret
    exact ⟨rfl, rfl⟩

theorem beyond {n : Nat} (hn : n < 2 ^ 64) : decide (9218868437227405312 < bits .andNot .u64 (n : Int) 9223372036854775808) = isNaN n := by
  rw [andNot_sign hn]
  have h := @isNaN_iff n
  have hI := INF_val
  cases hh : isNaN n
  · rw [decide_eq_false_iff_not]
    have := isNaN_false.1 hh; omega
  · rw [decide_eq_true_iff]
    have := h.1 hh; omega

set_option maxHeartbeats 400000 in
theorem rfrom_any (n : Nat) (w : World) (hn : n < 2 ^ 64) : Calls Try.prog 27 #[.int .u64 (n : Int)] w fun e w' => e = .returned (.float .f64 (bitsF n)) ∧ w = w' := by
  have h1 := beyond hn
  clear hn
  cases h : isNaN n
  · have e : bitsF n = n := by unfold bitsF; simp [h]
    rw [e]
    rw [h] at h1
    clear h e
    go_enter Try.func27, Try.ntmps27
    go_wp2
    go_ret
    exact ⟨rfl, rfl⟩
  · have e : bitsF n = QNAN := by unfold bitsF; simp [h]
    rw [e]
    rw [h] at h1
    clear h e
    go_enter Try.func27, Try.ntmps27
    go_wp2
    go_ret
    exact ⟨rfl, rfl⟩

set_option maxHeartbeats 400000 in
theorem rsame_any (x y : Nat) (w : World) : Calls Try.prog 22 #[.float .f64 x, .float .f64 y] w fun e w' => e = .returned (.bool (sameB x y)) ∧ w = w' := by
  go_enter Try.func22, Try.ntmps22
  go_wp2_with (go_at_call 20; refine (rbits_any _ _).mono ?_; rintro e w1 ⟨rfl, rfl⟩)
  go_ret
  exact ⟨by unfold sameB; rfl, rfl⟩

set_option maxHeartbeats 400000 in
theorem rclass_case (x b : Nat) (r c : Int) (w : World) (n i z l s : Bool) (hb : bitsF x = b) (hr : bits .andNot .u64 (b : Int) 9223372036854775808 = r) (hn : decide (9218868437227405312 < r) = n) (hi : (r == 9218868437227405312) = i) (hz : (r == 0) = z) (hl : decide (r < 4503599627370496) = l)
    (hs : (bits .and .u64 (b : Int) 9223372036854775808 != 0) = s) (hc : c = if n = true then 1 else if s = true then 11 - (if i = true then 9 else if z = true then 6 else if l = true then 7 else 8) else (if i = true then 9 else if z = true then 6 else if l = true then 7 else 8)) :
    Calls Try.prog 19 #[.float .f64 x] w fun e w' => e = .returned (.int .i64 c) ∧ w = w' := by
  have HC := Lib.hid hc
  clear hc
  cases n <;> cases i <;> cases z <;> cases l <;> cases s
  all_goals
    go_enter Try.func19, Try.ntmps19
    go_wp2_with (go_at_call 20; refine (rbits_any _ _).mono ?_; rintro e w1 ⟨rfl, rfl⟩)
    go_ret
    exact ⟨by rw [HC.out]; simp, rfl⟩

theorem rclass_any (x : Nat) (w : World) (hx : x < 2 ^ 64) : Calls Try.prog 19 #[.float .f64 x] w fun e w' => e = .returned (.int .i64 (clsF x)) ∧ w = w' := by
  have hI := INF_val
  have hb := bitsF_lt hx
  refine rclass_case x _ _ _ w (isNaN x) (decide (rg (bitsF x) = INF)) (decide (rg (bitsF x) = 0)) (decide (rg (bitsF x) < 2 ^ 52)) (sgn (bitsF x)) rfl (andNot_sign hb) ?_ ?_ ?_ ?_ ?_ ?_
  · have := beyond hb; rw [andNot_sign hb, isNaN_bitsF] at this; exact this
  · rw [Bool.eq_iff_iff]; simp; omega
  · rw [Bool.eq_iff_iff]; simp
  · rw [decide_eq_decide]; omega
  · cases hs : sgn (bitsF x)
    · exact and_sign_f hb hs
    · exact and_sign_t hb hs
  · unfold clsF magF
    cases h : isNaN x
    · rw [bitsF_num h]
      have hr := isNaN_false.1 h
      simp only [Bool.false_eq_true, if_false, decide_eq_true_eq]
      have e : (if rg x = INF then (9 : Int) else if rg x = 0 then 6 else if rg x < 2 ^ 52 then 7 else 8) = (if rg x = 0 then 6 else if rg x < 2 ^ 52 then 7 else if rg x < INF then 8 else 9) := by
        by_cases a : rg x = INF
        · rw [if_pos a, if_neg (by omega), if_neg (by omega), if_neg (by omega)]
        · rw [if_neg a]
          by_cases b : rg x = 0
          · rw [if_pos b, if_pos b]
          · rw [if_neg b, if_neg b]
            by_cases c : rg x < 2 ^ 52
            · rw [if_pos c, if_pos c]
            · rw [if_neg c, if_neg c, if_pos (by omega)]
      rw [e]
    · rfl

set_option maxHeartbeats 400000 in
theorem rkey_any (x : Nat) (w : World) (hx : x < 2 ^ 64) : Calls Try.prog 21 #[.float .f64 x] w fun e w' => e = .returned (.int .u64 (keyF x : Nat)) ∧ w = w' := by
  have hb := bitsF_lt hx
  cases hs : sgn (bitsF x)
  · have h1 := eq_sign_f hb hs
    have h2 := xor_top hb
    have e : opp (bitsF x) = keyF x := by
      rw [key_pos hb hs]; unfold keyF; rw [if_pos ((sgn_false hb).1 hs)]
    rw [e] at h2
    clear hx hb e hs
    go_enter Try.func21, Try.ntmps21
    go_wp2_with (go_at_call 20; refine (rbits_any _ _).mono ?_; rintro e w1 ⟨rfl, rfl⟩)
    go_ret
    exact ⟨rfl, rfl⟩
  · have h1 := eq_sign_t hb hs
    have h2 := not_u64 hb
    have e : 2 ^ 64 - 1 - bitsF x = keyF x := by
      have := (sgn_true hb).1 hs
      unfold keyF; rw [if_neg (by omega)]
    rw [e] at h2
    clear hx hb e hs
    go_enter Try.func21, Try.ntmps21
    go_wp2_with (go_at_call 20; refine (rbits_any _ _).mono ?_; rintro e w1 ⟨rfl, rfl⟩)
    go_ret
    exact ⟨rfl, rfl⟩

def unkeyF (k : Nat) : Nat := if 2 ^ 63 ≤ k then k - 2 ^ 63 else 2 ^ 64 - 1 - k
theorem unkeyF_lt {k : Nat} (h : k < 2 ^ 64) : unkeyF k < 2 ^ 64 := by unfold unkeyF; split <;> omega

set_option maxHeartbeats 400000 in
theorem runkey_any (k : Nat) (w : World) (hk : k < 2 ^ 64) : Calls Try.prog 34 #[.int .u64 (k : Int)] w fun e w' => e = .returned (.float .f64 (bitsF (unkeyF k))) ∧ w = w' := by
  have HU := Lib.hid (unkeyF_lt hk)
  cases hs : sgn k
  · have h1 := and_sign_f hk hs
    have h2 := not_u64 hk
    have e : 2 ^ 64 - 1 - k = unkeyF k := by
      have := (sgn_false hk).1 hs
      unfold unkeyF; rw [if_neg (by omega)]
    rw [e] at h2
    clear hk e hs
    go_enter Try.func34, Try.ntmps34
    go_wp2_with (go_at_call 27; refine (rfrom_any _ _ HU.out).mono ?_; rintro e w1 ⟨rfl, rfl⟩)
    go_ret
    exact ⟨rfl, rfl⟩
  · have h1 := and_sign_t hk hs
    have h2 := xor_top hk
    have e : opp k = unkeyF k := by
      have := (sgn_true hk).1 hs
      unfold unkeyF opp rg; rw [if_pos (by omega), word_eq, hs]; simp; omega
    rw [e] at h2
    clear hk e hs
    go_enter Try.func34, Try.ntmps34
    go_wp2_with (go_at_call 27; refine (rfrom_any _ _ HU.out).mono ?_; rintro e w1 ⟨rfl, rfl⟩)
    go_ret
    exact ⟨rfl, rfl⟩


set_option maxHeartbeats 400000 in
theorem rnext_a (x k r : Nat) (w : World) (hx : x < 2 ^ 64) (hk : k < 2 ^ 64) (t0 : (clsF x == 1) = true) (t1 : keyF x = k) (t2 : bitsF (unkeyF k) = r) :
    Calls Try.prog 23 #[.float .f64 x] w fun e w' => e = .returned (.float .f64 r) ∧ w = w' := by
  have HX := Lib.hid hx
  have HK := Lib.hid hk
  clear hx hk
  go_enter Try.func23, Try.ntmps23
  go_wp2_with (first | (go_at_call 19; refine (rclass_any _ _ HX.out).mono ?_; rintro e w1 ⟨rfl, rfl⟩) | (go_at_call 21; refine (rkey_any _ _ HX.out).mono ?_; rintro e w1 ⟨rfl, rfl⟩) | (go_at_call 34; refine (runkey_any _ _ HK.out).mono ?_; rintro e w1 ⟨rfl, rfl⟩) | (go_at_call 27; refine (rfrom_any _ _ (by decide)).mono ?_; rintro e w1 ⟨rfl, rfl⟩))
  all_goals (go_ret; exact ⟨rfl, rfl⟩)


set_option maxHeartbeats 400000 in
theorem rnext_b (x k r : Nat) (w : World) (hx : x < 2 ^ 64) (hk : k < 2 ^ 64) (t0 : (clsF x == 1) = false) (t1 : (clsF x == 9) = true) (t2 : keyF x = k) (t3 : bitsF (unkeyF k) = r) :
    Calls Try.prog 23 #[.float .f64 x] w fun e w' => e = .returned (.float .f64 r) ∧ w = w' := by
  have HX := Lib.hid hx
  have HK := Lib.hid hk
  clear hx hk
  go_enter Try.func23, Try.ntmps23
  go_wp2_with (first | (go_at_call 19; refine (rclass_any _ _ HX.out).mono ?_; rintro e w1 ⟨rfl, rfl⟩) | (go_at_call 21; refine (rkey_any _ _ HX.out).mono ?_; rintro e w1 ⟨rfl, rfl⟩) | (go_at_call 34; refine (runkey_any _ _ HK.out).mono ?_; rintro e w1 ⟨rfl, rfl⟩) | (go_at_call 27; refine (rfrom_any _ _ (by decide)).mono ?_; rintro e w1 ⟨rfl, rfl⟩))
  all_goals (go_ret; exact ⟨rfl, rfl⟩)


set_option maxHeartbeats 400000 in
theorem rnext_c (x k r : Nat) (w : World) (hx : x < 2 ^ 64) (hk : k < 2 ^ 64) (t0 : (clsF x == 1) = false) (t1 : (clsF x == 9) = false) (t2 : (clsF x == 5) = true) (t3 : bitsF 1 = r) :
    Calls Try.prog 23 #[.float .f64 x] w fun e w' => e = .returned (.float .f64 r) ∧ w = w' := by
  have HX := Lib.hid hx
  have HK := Lib.hid hk
  clear hx hk
  go_enter Try.func23, Try.ntmps23
  go_wp2_with (first | (go_at_call 19; refine (rclass_any _ _ HX.out).mono ?_; rintro e w1 ⟨rfl, rfl⟩) | (go_at_call 21; refine (rkey_any _ _ HX.out).mono ?_; rintro e w1 ⟨rfl, rfl⟩) | (go_at_call 34; refine (runkey_any _ _ HK.out).mono ?_; rintro e w1 ⟨rfl, rfl⟩) | (go_at_call 27; refine (rfrom_any _ _ (by decide)).mono ?_; rintro e w1 ⟨rfl, rfl⟩))
  all_goals (go_ret; exact ⟨rfl, rfl⟩)


set_option maxHeartbeats 400000 in
theorem rnext_d (x k r : Nat) (w : World) (hx : x < 2 ^ 64) (hk : k < 2 ^ 64) (t0 : (clsF x == 1) = false) (t1 : (clsF x == 9) = false) (t2 : (clsF x == 5) = false) (t3 : IntKind.u64.wrap (((keyF x : Nat) : Int) + 1) = (k : Int)) (t4 : bitsF (unkeyF k) = r) :
    Calls Try.prog 23 #[.float .f64 x] w fun e w' => e = .returned (.float .f64 r) ∧ w = w' := by
  have HX := Lib.hid hx
  have HK := Lib.hid hk
  clear hx hk
  go_enter Try.func23, Try.ntmps23
  go_wp2_with (first | (go_at_call 19; refine (rclass_any _ _ HX.out).mono ?_; rintro e w1 ⟨rfl, rfl⟩) | (go_at_call 21; refine (rkey_any _ _ HX.out).mono ?_; rintro e w1 ⟨rfl, rfl⟩) | (go_at_call 34; refine (runkey_any _ _ HK.out).mono ?_; rintro e w1 ⟨rfl, rfl⟩) | (go_at_call 27; refine (rfrom_any _ _ (by decide)).mono ?_; rintro e w1 ⟨rfl, rfl⟩))
  all_goals (go_ret; exact ⟨rfl, rfl⟩)


set_option maxHeartbeats 400000 in
theorem rprev_a (x k r : Nat) (w : World) (hx : x < 2 ^ 64) (hk : k < 2 ^ 64) (t0 : (clsF x == 1) = true) (t1 : keyF x = k) (t2 : bitsF (unkeyF k) = r) :
    Calls Try.prog 24 #[.float .f64 x] w fun e w' => e = .returned (.float .f64 r) ∧ w = w' := by
  have HX := Lib.hid hx
  have HK := Lib.hid hk
  clear hx hk
  go_enter Try.func24, Try.ntmps24
  go_wp2_with (first | (go_at_call 19; refine (rclass_any _ _ HX.out).mono ?_; rintro e w1 ⟨rfl, rfl⟩) | (go_at_call 21; refine (rkey_any _ _ HX.out).mono ?_; rintro e w1 ⟨rfl, rfl⟩) | (go_at_call 34; refine (runkey_any _ _ HK.out).mono ?_; rintro e w1 ⟨rfl, rfl⟩) | (go_at_call 27; refine (rfrom_any _ _ (by decide)).mono ?_; rintro e w1 ⟨rfl, rfl⟩))
  all_goals (go_ret; exact ⟨rfl, rfl⟩)


set_option maxHeartbeats 400000 in
theorem rprev_b (x k r : Nat) (w : World) (hx : x < 2 ^ 64) (hk : k < 2 ^ 64) (t0 : (clsF x == 1) = false) (t1 : (clsF x == 2) = true) (t2 : keyF x = k) (t3 : bitsF (unkeyF k) = r) :
    Calls Try.prog 24 #[.float .f64 x] w fun e w' => e = .returned (.float .f64 r) ∧ w = w' := by
  have HX := Lib.hid hx
  have HK := Lib.hid hk
  clear hx hk
  go_enter Try.func24, Try.ntmps24
  go_wp2_with (first | (go_at_call 19; refine (rclass_any _ _ HX.out).mono ?_; rintro e w1 ⟨rfl, rfl⟩) | (go_at_call 21; refine (rkey_any _ _ HX.out).mono ?_; rintro e w1 ⟨rfl, rfl⟩) | (go_at_call 34; refine (runkey_any _ _ HK.out).mono ?_; rintro e w1 ⟨rfl, rfl⟩) | (go_at_call 27; refine (rfrom_any _ _ (by decide)).mono ?_; rintro e w1 ⟨rfl, rfl⟩))
  all_goals (go_ret; exact ⟨rfl, rfl⟩)


set_option maxHeartbeats 400000 in
theorem rprev_c (x k r : Nat) (w : World) (hx : x < 2 ^ 64) (hk : k < 2 ^ 64) (t0 : (clsF x == 1) = false) (t1 : (clsF x == 2) = false) (t2 : (clsF x == 6) = true) (t3 : bitsF 9223372036854775809 = r) :
    Calls Try.prog 24 #[.float .f64 x] w fun e w' => e = .returned (.float .f64 r) ∧ w = w' := by
  have HX := Lib.hid hx
  have HK := Lib.hid hk
  clear hx hk
  go_enter Try.func24, Try.ntmps24
  go_wp2_with (first | (go_at_call 19; refine (rclass_any _ _ HX.out).mono ?_; rintro e w1 ⟨rfl, rfl⟩) | (go_at_call 21; refine (rkey_any _ _ HX.out).mono ?_; rintro e w1 ⟨rfl, rfl⟩) | (go_at_call 34; refine (runkey_any _ _ HK.out).mono ?_; rintro e w1 ⟨rfl, rfl⟩) | (go_at_call 27; refine (rfrom_any _ _ (by decide)).mono ?_; rintro e w1 ⟨rfl, rfl⟩))
  all_goals (go_ret; exact ⟨rfl, rfl⟩)


set_option maxHeartbeats 400000 in
theorem rprev_d (x k r : Nat) (w : World) (hx : x < 2 ^ 64) (hk : k < 2 ^ 64) (t0 : (clsF x == 1) = false) (t1 : (clsF x == 2) = false) (t2 : (clsF x == 6) = false) (t3 : IntKind.u64.wrap (((keyF x : Nat) : Int) - 1) = (k : Int)) (t4 : bitsF (unkeyF k) = r) :
    Calls Try.prog 24 #[.float .f64 x] w fun e w' => e = .returned (.float .f64 r) ∧ w = w' := by
  have HX := Lib.hid hx
  have HK := Lib.hid hk
  clear hx hk
  go_enter Try.func24, Try.ntmps24
  go_wp2_with (first | (go_at_call 19; refine (rclass_any _ _ HX.out).mono ?_; rintro e w1 ⟨rfl, rfl⟩) | (go_at_call 21; refine (rkey_any _ _ HX.out).mono ?_; rintro e w1 ⟨rfl, rfl⟩) | (go_at_call 34; refine (runkey_any _ _ HK.out).mono ?_; rintro e w1 ⟨rfl, rfl⟩) | (go_at_call 27; refine (rfrom_any _ _ (by decide)).mono ?_; rintro e w1 ⟨rfl, rfl⟩))
  all_goals (go_ret; exact ⟨rfl, rfl⟩)


theorem prevF_cases {x : Nat} (h : x < 2 ^ 64) (hn : isNaN x = false) :
    (x % 2 ^ 63 = 0 ∧ prevF x = 2 ^ 63 + 1) ∨ (0 < x ∧ x ≤ INF ∧ prevF x = x - 1) ∨ (2 ^ 63 < x ∧ x < 2 ^ 63 + INF ∧ prevF x = x + 1) ∨ (x = 2 ^ 63 + INF ∧ prevF x = x) := by
  have hI := INF_val
  have oe : ∀ y, y < 2 ^ 64 → opp y = if y < 2 ^ 63 then y + 2 ^ 63 else y - 2 ^ 63 := by
    intro y hy
    cases hs : sgn y
    · have := (sgn_false hy).1 hs
      rw [key_pos hy hs, if_pos this]
    · have := (sgn_true hy).1 hs
      unfold opp rg; rw [if_neg (by omega), word_eq, hs]; simp; omega
  have hp : prevF x = opp (nextF (opp x)) := by unfold prevF; rw [hn]; rfl
  have hr := isNaN_false.1 hn
  unfold rg at hr
  have ho : isNaN (opp x) = false := by rw [isNaN_opp]; exact hn
  have ol := @opp_lt x
  have nc := nextF_cases ol ho
  have nl := nextF_lt ol
  rw [oe _ nl] at hp
  rw [oe _ h] at nc
  by_cases a : x < 2 ^ 63
  · rw [if_pos a] at nc
    have nc2 : (x = 0 ∧ nextF (opp x) = 1) ∨ (0 < x ∧ nextF (opp x) = x + 2 ^ 63 - 1) := by
      rcases nc with ⟨b, c⟩ | ⟨b, c⟩ | ⟨b, b', c⟩ | ⟨b, b', c⟩
      · omega
      · exact Or.inl ⟨by omega, by rw [oe _ h, if_pos a]; exact c⟩
      · exact Or.inr ⟨by omega, by rw [oe _ h, if_pos a]; exact c⟩
      · omega
    rcases nc2 with ⟨b, c⟩ | ⟨b, c⟩
    · rw [c] at hp; exact Or.inl ⟨by omega, by rw [hp]; decide⟩
    · rw [c, if_neg (by omega)] at hp
      exact Or.inr (Or.inl ⟨by omega, by omega, by omega⟩)
  · rw [if_neg a] at nc
    have nc2 : (x = 2 ^ 63 + INF ∧ nextF (opp x) = INF) ∨ (x = 2 ^ 63 ∧ nextF (opp x) = 1) ∨ (2 ^ 63 < x ∧ x < 2 ^ 63 + INF ∧ nextF (opp x) = x - 2 ^ 63 + 1) := by
      rcases nc with ⟨b, c⟩ | ⟨b, c⟩ | ⟨b, b', c⟩ | ⟨b, b', c⟩
      · exact Or.inl ⟨by omega, by rw [oe _ h, if_neg a]; exact c⟩
      · exact Or.inr (Or.inl ⟨by omega, by rw [oe _ h, if_neg a]; exact c⟩)
      · omega
      · exact Or.inr (Or.inr ⟨by omega, by omega, by rw [oe _ h, if_neg a]; exact c⟩)
    rcases nc2 with ⟨b, c⟩ | ⟨b, c⟩ | ⟨b, b', c⟩
    · rw [c, if_pos (by omega)] at hp
      exact Or.inr (Or.inr (Or.inr ⟨b, by omega⟩))
    · rw [c] at hp; exact Or.inl ⟨by omega, by rw [hp]; decide⟩
    · rw [c, if_pos (by omega)] at hp
      exact Or.inr (Or.inr (Or.inl ⟨b, b', by omega⟩))

theorem unkey_key {x : Nat} (hx : x < 2 ^ 64) (h : isNaN x = false) : unkeyF (keyF x) = x := by
  unfold unkeyF keyF
  rw [bitsF_num h]
  by_cases a : x < 2 ^ 63
  · rw [if_pos a, if_pos (by omega)]; omega
  · rw [if_neg a, if_neg (by omega)]; omega

theorem rnext_any (x : Nat) (w : World) (hx : x < 2 ^ 64) : Calls Try.prog 23 #[.float .f64 x] w fun e w' => e = .returned (.float .f64 (nextF x)) ∧ w = w' := by
  have hI := INF_val
  cases h : isNaN x
  · have hc := nextF_cases hx h
    have nn := bitsF_num (nextF_num hx h)
    have hk : keyF x = if x < 2 ^ 63 then x + 2 ^ 63 else 2 ^ 64 - 1 - x := by unfold keyF; rw [bitsF_num h]
    have key : ∀ k, keyF x + 1 = k → k < 2 ^ 64 → unkeyF k = nextF x → clsF x ≠ 1 → clsF x ≠ 9 → clsF x ≠ 5 → Calls Try.prog 23 #[.float .f64 x] w fun e w' => e = .returned (.float .f64 (nextF x)) ∧ w = w' := by
      intro k e1 e2 e3 c1 c2 c3
      exact rnext_d x k _ w hx e2 (by simpa using c1) (by simpa using c2) (by simpa using c3) (by rw [wrap_u64_succ (by omega), e1]) (by rw [e3]; exact nn)
    rcases clsF_parts hx h with ⟨a, c | c⟩ | ⟨a, c⟩ | ⟨a, c⟩ | ⟨a, b, c⟩ | ⟨a, b, b', c⟩
    · have e : nextF x = 1 := by omega
      exact rnext_c x 0 _ w hx (by decide) (by rw [c]; rfl) (by rw [c]; rfl) (by rw [c]; rfl) (by rw [e]; decide +kernel)
    · have e : nextF x = 1 := by omega
      by_cases x0 : x < 2 ^ 63
      · rw [if_pos x0] at hk
        exact key _ rfl (by omega) (by unfold unkeyF; rw [if_pos (by omega)]; omega) (by omega) (by omega) (by omega)
      · exfalso
        have : x = 9223372036854775808 := by omega
        rw [this] at c
        exact absurd c (by decide +kernel)
    · have e : nextF x = INF := by omega
      exact rnext_b x _ _ w hx (keyF_lt hx) (by rw [c]; rfl) (by rw [c]; rfl) rfl (by rw [unkey_key hx h, bitsF_num h, e]; exact a)
    · rw [if_neg (by omega)] at hk
      exact key _ rfl (by omega) (by unfold unkeyF; rw [if_neg (by omega)]; omega) (by omega) (by omega) (by omega)
    · rw [if_pos (by omega)] at hk
      exact key _ rfl (by omega) (by unfold unkeyF; rw [if_pos (by omega)]; omega) (by omega) (by omega) (by omega)
    · rw [if_neg (by omega)] at hk
      exact key _ rfl (by omega) (by unfold unkeyF; rw [if_neg (by omega)]; omega) (by omega) (by omega) (by omega)
  · have e : clsF x = 1 := by unfold clsF; rw [h]; rfl
    refine rnext_a x _ _ w hx (keyF_lt hx) (by rw [e]; rfl) rfl ?_
    rw [keyF_nan h, nextF_nan h]; decide +kernel

theorem rprev_any (x : Nat) (w : World) (hx : x < 2 ^ 64) : Calls Try.prog 24 #[.float .f64 x] w fun e w' => e = .returned (.float .f64 (prevF x)) ∧ w = w' := by
  have hI := INF_val
  cases h : isNaN x
  · have hc := prevF_cases hx h
    have nn := bitsF_num (prevF_num h)
    have hk : keyF x = if x < 2 ^ 63 then x + 2 ^ 63 else 2 ^ 64 - 1 - x := by unfold keyF; rw [bitsF_num h]
    have key : ∀ k, keyF x = k + 1 → k < 2 ^ 64 → unkeyF k = prevF x → clsF x ≠ 1 → clsF x ≠ 2 → clsF x ≠ 6 → Calls Try.prog 24 #[.float .f64 x] w fun e w' => e = .returned (.float .f64 (prevF x)) ∧ w = w' := by
      intro k e1 e2 e3 c1 c2 c3
      exact rprev_d x k _ w hx e2 (by simpa using c1) (by simpa using c2) (by simpa using c3) (by rw [wrap_u64_pred (by omega) (keyF_lt hx), e1, Nat.add_sub_cancel]) (by rw [e3]; exact nn)
    rcases clsF_parts hx h with ⟨a, c | c⟩ | ⟨a, c⟩ | ⟨a, c⟩ | ⟨a, b, c⟩ | ⟨a, b, b', c⟩
    · have e : prevF x = 2 ^ 63 + 1 := by omega
      by_cases x0 : x < 2 ^ 63
      · exfalso
        have : x = 0 := by omega
        rw [this] at c
        exact absurd c (by decide +kernel)
      · rw [if_neg x0] at hk
        exact key (2 ^ 63 - 2) (by omega) (by omega) (by unfold unkeyF; rw [if_neg (by omega)]; omega) (by omega) (by omega) (by omega)
    · have e : prevF x = 2 ^ 63 + 1 := by omega
      exact rprev_c x 0 _ w hx (by decide) (by rw [c]; rfl) (by rw [c]; rfl) (by rw [c]; rfl) (by rw [e]; decide +kernel)
    · rw [if_pos (by omega)] at hk
      exact key (keyF x - 1) (by omega) (by omega) (by unfold unkeyF; rw [if_pos (by omega)]; omega) (by omega) (by omega) (by omega)
    · have e : prevF x = x := by omega
      exact rprev_b x _ _ w hx (keyF_lt hx) (by rw [c]; rfl) (by rw [c]; rfl) rfl (by rw [unkey_key hx h, bitsF_num h, e])
    · rw [if_pos (by omega)] at hk
      exact key (keyF x - 1) (by omega) (by omega) (by unfold unkeyF; rw [if_pos (by omega)]; omega) (by omega) (by omega) (by omega)
    · rw [if_neg (by omega)] at hk
      exact key (keyF x - 1) (by omega) (by omega) (by unfold unkeyF; rw [if_neg (by omega)]; omega) (by omega) (by omega) (by omega)
  · have e : clsF x = 1 := by unfold clsF; rw [h]; rfl
    refine rprev_a x _ _ w hx (keyF_lt hx) (by rw [e]; rfl) rfl ?_
    rw [keyF_nan h, show prevF x = QNAN from by unfold prevF; rw [h]; rfl]; decide +kernel


set_option maxHeartbeats 1000000 in
theorem asks_any (x y : Nat) (w : World) (hx' : (Lit.float .f64 x).wf = true) (_ : (Lit.float .f64 y).wf = true) :
    Calls Try.prog 7 #[.float .f64 x, .float .f64 y] w fun e w' => e = .returned (.bool true) ∧ Below w.heap.size w w' := by
  have HX := Lib.hid (f64_open hx')
  have s1 : sameB (nextF x) (nextF x) = true := by rw [sameB_true]
  have s2 : sameB (prevF x) (prevF x) = true := by rw [sameB_true]
  clear hx'
  go_enter Try.func7, Try.ntmps7
  go_wp2_with (first | (go_at_call 12; refine (class_any _ _ HX.out).mono ?_; rintro e w1 ⟨rfl, rfl⟩) | (go_at_call 19; refine (rclass_any _ _ HX.out).mono ?_; rintro e w1 ⟨rfl, rfl⟩) | (go_at_call 14; refine (bits_any _ _).mono ?_; rintro e w1 ⟨rfl, rfl⟩) | (go_at_call 20; refine (rbits_any _ _).mono ?_; rintro e w1 ⟨rfl, rfl⟩) | (go_at_call 15; refine (key_any _ _ HX.out).mono ?_; rintro e w1 ⟨rfl, rfl⟩) | (go_at_call 21; refine (rkey_any _ _ HX.out).mono ?_; rintro e w1 ⟨rfl, rfl⟩) | (go_at_call 17; refine (next_any _ _ HX.out).mono ?_; rintro e w1 ⟨rfl, rfl⟩) | (go_at_call 23; refine (rnext_any _ _ HX.out).mono ?_; rintro e w1 ⟨rfl, rfl⟩) | (go_at_call 18; refine (prev_any _ _ HX.out).mono ?_; rintro e w1 ⟨rfl, rfl⟩) | (go_at_call 24; refine (rprev_any _ _ HX.out).mono ?_; rintro e w1 ⟨rfl, rfl⟩) | (go_at_call 16; refine (same_any _ _ _).mono ?_; rintro e w1 ⟨rfl, rfl⟩) | (go_at_call 22; refine (rsame_any _ _ _).mono ?_; rintro e w1 ⟨rfl, rfl⟩) | (go_at_call 13; refine (awake_any _).mono ?_; rintro e w1 ⟨rfl, rfl⟩))
  all_goals (go_ret; exact ⟨rfl, Below.refl _ _⟩)
end Go.Proofs.Ytcmbhggicgbhnaa
