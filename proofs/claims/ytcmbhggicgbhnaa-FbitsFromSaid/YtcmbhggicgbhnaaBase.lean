/-
  The contracts of package fbits's functions (Bits, From, Class, Key, Same, Next, Prev) and of the law's own 'awake': each is the plain function of 'Num'. Conditions: an argument that is a float64's word, or a uint64.
-/
import Derived.Test.YtcmbhggicgbhnaaRows
import Derived.Test.YtcmbhggicgbhnaaNum
import Derived.WalkKit
import Derived.WalkSpells
import Derived.WalkLawsBesides
import Derived.Laws.FloatArith
import Derived.Laws.Externs
import Derived.Lib.Hide
namespace Go.Proofs.Ytcmbhggicgbhnaa
open Go.RowKit F64

theorem ord_self_nan {x : Nat} (h : isNaN x = true) : (FloatKind.f64.format.order x x != some .eq) = true := by
  show (Ieee.double.order x x != some .eq) = true
  rw [order_nan_left h]; rfl
theorem ord_self_num {x : Nat} (h : isNaN x = false) : (FloatKind.f64.format.order x x != some .eq) = false := by
  show (Ieee.double.order x x != some .eq) = false
  rw [order_eq h h, compare_same]; rfl

@[go_sem] theorem call31 (v : Int) (w : World) : (callFunc 31 #[.int .u64 v]).run Try.prog w = .ok (.value (.float .f64 v.toNat)) w :=
  (run_callFunc_extern (e := Extern.MathFloatBits.float64frombits) Try.func31 (by kernel_rfl) (by kernel_rfl) (by kernel_rfl) (by kernel_rfl) _ w).trans rfl
@[go_sem] theorem call32 (b : Nat) (w : World) : (callFunc 32 #[.float .f64 b]).run Try.prog w = .ok (.value (.int .u64 (b : Int))) w :=
  (run_callFunc_extern (e := Extern.MathFloatBits.float64bits) Try.func32 (by kernel_rfl) (by kernel_rfl) (by kernel_rfl) (by kernel_rfl) _ w).trans rfl

set_option maxHeartbeats 400000 in
theorem bits_any (x : Nat) (w : World) : Calls Try.prog 14 #[.float .f64 x] w fun e w' => e = .returned (.int .u64 (bitsF x : Nat)) ∧ w = w' := by
  cases h : isNaN x
  · have e : bitsF x = x := by unfold bitsF; simp [h]
    rw [e]
    have h1 := ord_self_num h
    clear h e
    go_enter Try.func14, Try.ntmps14
    go_wp2
    go_ret
    exact ⟨rfl, rfl⟩
  · have e : bitsF x = QNAN := by unfold bitsF; simp [h]
    rw [e]
    have h1 := ord_self_nan h
    clear h e
    go_enter Try.func14, Try.ntmps14
    go_wp2
    go_ret
    exact ⟨rfl, rfl⟩

set_option maxHeartbeats 400000 in
theorem from_any (v : Int) (w : World) : Calls Try.prog 11 #[.int .u64 v] w fun e w' => e = .returned (.float .f64 (bitsF v.toNat)) ∧ w = w' := by
  go_enter Try.func11, Try.ntmps11
  go_wp2_with (go_at_call 14; refine (bits_any _ _).mono ?_; rintro e w1 ⟨rfl, rfl⟩)
  go_ret
  exact ⟨rfl, rfl⟩

set_option maxHeartbeats 400000 in
theorem abs_any (x : Nat) (w : World) (hx : x < 2 ^ 64) : Calls Try.prog 35 #[.float .f64 x] w fun e w' => e = .returned (.float .f64 (rg x)) ∧ w = w' := by
  have h3 := andNot_sign hx
  clear hx
  go_enter Try.func35, Try.ntmps35
  go_wp2
  go_ret
  exact ⟨rfl, rfl⟩

theorem gt_max {x : Nat} (h : isNaN x = false) : (FloatKind.f64.format.order (rg x) 9218868437227405311 == some .gt) = isInf x := by
  show (Ieee.double.order (rg x) 9218868437227405311 == some .gt) = _
  have hI := INF_val
  have hr := isNaN_false.1 h
  rw [order_gt (by rw [isNaN_false, rg_rg]; exact hr) (by decide +kernel)]
  unfold isInf K
  rw [sgn_rg, rg_rg, show sgn 9218868437227405311 = false from by decide +kernel, show rg 9218868437227405311 = 9218868437227405311 from by decide +kernel]
  simp
  omega

set_option maxHeartbeats 400000 in
theorem isInf_any (x : Nat) (w : World) (hx : x < 2 ^ 64) (h : isNaN x = false) : Calls Try.prog 33 #[.float .f64 x, .int .i64 0] w fun e w' => e = .returned (.bool (isInf x)) ∧ w = w' := by
  have h1 := gt_max h
  have HX := Lib.hid hx
  clear h hx
  go_enter Try.func33, Try.ntmps33
  go_wp2_with (go_at_call 35; refine (abs_any _ _ HX.out).mono ?_; rintro e w1 ⟨rfl, rfl⟩)
  go_ret
  exact ⟨rfl, rfl⟩

set_option maxHeartbeats 400000 in
theorem class_case (x : Nat) (w : World) (s z l : Bool) (hx : x < 2 ^ 64) (h : isNaN x = false) (hs : (bits .and .u64 (x : Int) 9223372036854775808 != 0) = s) (hz : (((rg x : Nat) : Int) == 0) = z) (hl : decide (((rg x : Nat) : Int) < 4503599627370496) = l)
    (c : Int) (hc : c = if s = true then 11 - (if z = true then 6 else if l = true then 7 else if isInf x = true then 9 else 8) else (if z = true then 6 else if l = true then 7 else if isInf x = true then 9 else 8)) :
    Calls Try.prog 12 #[.float .f64 x] w fun e w' => e = .returned (.int .i64 c) ∧ w = w' := by
  have h1 := ord_self_num h
  have h3 := andNot_sign hx
  have HX := Lib.hid hx
  have H := Lib.hid h
  have HC := Lib.hid hc
  clear h hx hc
  have HI : Hid (isInf x = true ∨ isInf x = false) := Lib.hid (by cases isInf x <;> simp)
  cases s <;> cases z <;> cases l
  all_goals
    cases hi : isInf x
    all_goals
      go_enter Try.func12, Try.ntmps12
      go_wp2_with (go_at_call 33; refine (isInf_any _ _ HX.out H.out).mono ?_; rintro e w1 ⟨rfl, rfl⟩)
      go_ret
      exact ⟨by rw [HC.out]; simp [hi], rfl⟩

theorem class_any (x : Nat) (w : World) (hx : x < 2 ^ 64) : Calls Try.prog 12 #[.float .f64 x] w fun e w' => e = .returned (.int .i64 (clsF x)) ∧ w = w' := by
  have hI := INF_val
  cases h : isNaN x
  · have hr := isNaN_false.1 h
    refine class_case x w (sgn x) (decide (rg x = 0)) (decide (rg x < 4503599627370496)) hx h ?_ ?_ ?_ _ ?_
    · cases hs : sgn x
      · exact and_sign_f hx hs
      · exact and_sign_t hx hs
    · by_cases h0 : rg x = 0
      · simp [h0]
      · simp [h0]
    · rw [decide_eq_decide]; omega
    · have e : (if decide (rg x = 0) = true then (6 : Int) else if decide (rg x < 4503599627370496) = true then 7 else if isInf x = true then 9 else 8) = magF x := by
        unfold magF isInf
        rw [h]
        simp only [Bool.false_eq_true, if_false, decide_eq_true_eq]
        show (if rg x = 0 then (6 : Int) else if rg x < 2 ^ 52 then 7 else _) = _
        by_cases h0 : rg x = 0
        · rw [if_pos h0, if_pos h0]
        · rw [if_neg h0, if_neg h0]
          by_cases h1 : rg x < 2 ^ 52
          · rw [if_pos h1, if_pos h1]
          · rw [if_neg h1, if_neg h1]
            by_cases h2 : rg x = INF
            · rw [if_pos h2, if_neg (by omega)]
            · rw [if_neg h2, if_pos (by omega)]
      rw [e]
      unfold clsF
      rw [h]
      simp only [Bool.false_eq_true, if_false]
  · have e : clsF x = 1 := by unfold clsF; simp [h]
    rw [e]
    have h1 := ord_self_nan h
    clear h e
    go_enter Try.func12, Try.ntmps12
    go_wp2
    go_ret
    exact ⟨rfl, rfl⟩

set_option maxHeartbeats 400000 in
theorem key_any (x : Nat) (w : World) (hx : x < 2 ^ 64) : Calls Try.prog 15 #[.float .f64 x] w fun e w' => e = .returned (.int .u64 (keyF x : Nat)) ∧ w = w' := by
  have hb := bitsF_lt hx
  cases hs : sgn (bitsF x)
  · have h1 := eq_sign_f hb hs
    have h2 := xor_top hb
    have e : opp (bitsF x) = keyF x := by
      rw [key_pos hb hs]; unfold keyF; rw [if_pos ((sgn_false hb).1 hs)]
    rw [e] at h2
    clear hx hb e hs
    go_enter Try.func15, Try.ntmps15
    go_wp2_with (go_at_call 14; refine (bits_any _ _).mono ?_; rintro e w1 ⟨rfl, rfl⟩)
    go_ret
    exact ⟨rfl, rfl⟩
  · have h1 := eq_sign_t hb hs
    have h2 := not_u64 hb
    have e : 2 ^ 64 - 1 - bitsF x = keyF x := by
      have := (sgn_true hb).1 hs
      unfold keyF; rw [if_neg (by omega)]
    rw [e] at h2
    clear hx hb e hs
    go_enter Try.func15, Try.ntmps15
    go_wp2_with (go_at_call 14; refine (bits_any _ _).mono ?_; rintro e w1 ⟨rfl, rfl⟩)
    go_ret
    exact ⟨rfl, rfl⟩

set_option maxHeartbeats 400000 in
theorem same_any (x y : Nat) (w : World) : Calls Try.prog 16 #[.float .f64 x, .float .f64 y] w fun e w' => e = .returned (.bool (sameB x y)) ∧ w = w' := by
  go_enter Try.func16, Try.ntmps16
  go_wp2_with (go_at_call 14; refine (bits_any _ _).mono ?_; rintro e w1 ⟨rfl, rfl⟩)
  go_ret
  exact ⟨by unfold sameB; rfl, rfl⟩

@[go_sem] theorem run_neg_float (b : Nat) (w : World) : (Op.unary .neg (.float .f64 b)).run Try.prog w = .ok (.float .f64 (negW b)) w := by unfold negW; rfl

set_option maxHeartbeats 400000 in
theorem awake_any (w : World) : Calls Try.prog 13 #[] w fun e w' => e = .returned (.bool true) ∧ w = w' := by
  have e1 : bitsF 4607182418800017408 = 4607182418800017408 := by decide +kernel
  have e2 : keyF 0 = 9223372036854775808 := by decide +kernel
  have e3 : clsF (bitsF 9223372036854775808) = 5 := by decide +kernel
  go_enter Try.func13, Try.ntmps13
  go_wp2_with (first | (go_at_call 14; refine (bits_any _ _).mono ?_; rintro e w1 ⟨rfl, rfl⟩) | (go_at_call 15; refine (key_any _ _ (by decide +kernel)).mono ?_; rintro e w1 ⟨rfl, rfl⟩) | (go_at_call 11; refine (from_any _ _).mono ?_; rintro e w1 ⟨rfl, rfl⟩) | (go_at_call 12; refine (class_any _ _ (by decide +kernel)).mono ?_; rintro e w1 ⟨rfl, rfl⟩))
  go_ret
  exact ⟨rfl, rfl⟩

end Go.Proofs.Ytcmbhggicgbhnaa
