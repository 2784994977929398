/-
  The walks of math.Trunc, ftext.Int, and ftext.Round at a NaN and an infinity.
-/
import Derived.Test.YtjepjheklnaidaaGreatDoorAwake
import Derived.Test.YtjepjheklnaidaaGreatDoorWholel
namespace Go.Proofs.YtjepjheklnaidaaGreatDoor
open Go Go.RowKit F64
set_option maxRecDepth 100000

theorem wholeW_eq (way : Ieee.Toward) (x : Nat) : wholeW way x = wholeF way x := rfl
theorem callTrunc (x : Nat) (h : isNaN x = false) (w : World) : (callFunc 19 #[.float .f64 x]).run Tryz.prog w = .ok (.value (.float .f64 (wholeF .zero x))) w := by
  rw [run_callFunc_extern (e := Extern.MathFloor.toIntegral "math.archTrunc" .zero) Tryz.func19 (by kernel_rfl) (by kernel_rfl) (by kernel_rfl) (by kernel_rfl) _ w, whole_run _ _ x h]
  rfl
theorem trunc_num (x : Nat) (h : isNaN x = false) (w : World) : Calls Tryz.prog 10 #[.float .f64 x] w fun e w' => e = .returned (.float .f64 (wholeF .zero x)) ∧ w = w' := by
  have h1 := fun w => callTrunc x h w
  clear h
  go_enter Tryz.func10, Tryz.ntmps10
  go_wp2_with fail
  go_ret
  exact ⟨rfl, rfl⟩

set_option maxHeartbeats 4000000 in
theorem int_case (x t : Nat) (a1 a2 a3 a4 a5 : Bool) (n : Int) (r : Value) (w : World)
    (h1 : Hid (∀ w, Calls Tryz.prog 10 #[.float .f64 x] w fun e w' => e = .returned (.float .f64 t) ∧ w = w'))
    (p1 : (FloatKind.f64.format.order x 14069245235905429504 == some .gt) = a1) (p2 : (FloatKind.f64.format.order x 14069245235905429504 == some .eq) = a2)
    (p3 : (FloatKind.f64.format.order x 4845873199050653696 == some .lt) = a3) (p4 : (FloatKind.f64.format.order x 4845873199050653696 == some .eq) = a4)
    (p5 : (FloatKind.f64.format.order x t != some .eq) = a5)
    (hn : ((a1 || a2) && (a3 || a4) && !a5) = true → ∀ w, (convert 22 3 (.float .f64 x)).run Tryz.prog w = .ok (.int .i64 n) w)
    (hr : r = if ((a1 || a2) && (a3 || a4) && !a5) = true then .tuple #[.int .i64 n, .int .i64 0] else .tuple #[.int .i64 0, .int .i64 13]) :
    Calls Tryz.prog 4 #[.float .f64 x] w fun e w' => e = .returned r ∧ w = w' := by
  have HR := Lib.hid hr
  clear hr
  cases a1 <;> cases a2 <;> cases a3 <;> cases a4 <;> cases a5
  all_goals
    first
      | (have hn' := hn rfl
         clear hn
         go_enter Tryz.func4, Tryz.ntmps4
         go_wp2_with (go_at_call 10; refine (h1.out _).mono ?_; rintro e w1 ⟨rfl, rfl⟩)
         go_ret2
         exact ⟨by rw [HR.out]; rfl, rfl⟩)
      | (clear hn
         go_enter Tryz.func4, Tryz.ntmps4
         go_wp2_with (go_at_call 10; refine (h1.out _).mono ?_; rintro e w1 ⟨rfl, rfl⟩)
         go_ret2
         exact ⟨by rw [HR.out]; rfl, rfl⟩)

/-- Of a whole number is told which it is, up to 2^53. -/
def intN (x c : Nat) : Int := if sgn x = true then -(c : Int) else (c : Int)
theorem conv_whole {x c : Nat} (h : Whole x c) (hc : c ≤ 2 ^ 53) (w : World) : (convert 22 3 (.float .f64 x)).run Tryz.prog w = .ok (.int .i64 (intN x c)) w := by
  refine run_convert_float_int (hs := by rw [Tryz.underlying22]; rfl) (hd := Tryz.underlying3) (h := ?_) ..
  have e : (FloatKind.f64.decode x).toInt .zero = some (intN x c) := h.toInt .zero
  unfold floatToIntVal
  rw [e]
  have e1 : IntKind.i64.min = -9223372036854775808 := rfl
  have e2 : IntKind.i64.max = 9223372036854775807 := rfl
  dsimp only
  rw [if_pos (by rw [e1, e2]; unfold intN; split <;> omega)]
theorem ge_big {x : Nat} (hn : isNaN x = false) : ((FloatKind.f64.format.order x 14069245235905429504 == some .gt) || (FloatKind.f64.format.order x 14069245235905429504 == some .eq)) = decide (-(BIG : Int) ≤ K x) := by
  show ((Ieee.double.order x 14069245235905429504 == some .gt) || (Ieee.double.order x 14069245235905429504 == some .eq)) = _
  rw [order_gt hn (by decide +kernel), order_same hn (by decide +kernel), show K 14069245235905429504 = -(BIG : Int) by decide +kernel]
  by_cases h : -(BIG : Int) ≤ K x
  · rw [decide_eq_true h]
    rcases Int.lt_or_eq_of_le h with h1 | h1
    · rw [decide_eq_true h1]; rfl
    · rw [decide_eq_true h1.symm]; simp
  · rw [decide_eq_false h, decide_eq_false (show ¬ (-(BIG : Int) < K x) by omega), decide_eq_false (show ¬ (K x = -(BIG : Int)) by omega)]; rfl
theorem le_big {x : Nat} (hn : isNaN x = false) : ((FloatKind.f64.format.order x 4845873199050653696 == some .lt) || (FloatKind.f64.format.order x 4845873199050653696 == some .eq)) = decide (K x ≤ (BIG : Int)) := by
  show ((Ieee.double.order x 4845873199050653696 == some .lt) || (Ieee.double.order x 4845873199050653696 == some .eq)) = _
  rw [order_lt hn (by decide +kernel), order_same hn (by decide +kernel), show K 4845873199050653696 = (BIG : Int) by decide +kernel]
  by_cases h : K x ≤ (BIG : Int)
  · rw [decide_eq_true h]
    rcases Int.lt_or_eq_of_le h with h1 | h1
    · rw [decide_eq_true h1]; rfl
    · rw [decide_eq_true h1]; simp
  · rw [decide_eq_false h, decide_eq_false (show ¬ (K x < (BIG : Int)) by omega), decide_eq_false (show ¬ (K x = (BIG : Int)) by omega)]; rfl
theorem in_big {x : Nat} : (decide (-(BIG : Int) ≤ K x) && decide (K x ≤ (BIG : Int))) = decide (rg x ≤ BIG) := by
  rw [← Bool.decide_and, decide_eq_decide, K_rg]
  cases sgn x
  · simp only [Bool.false_eq_true, if_false]; omega
  · simp only [if_true]; omega

theorem int_whole_any {x c : Nat} (h : Whole x c) (hx : x < 2 ^ 64) (w : World) :
    Calls Tryz.prog 4 #[.float .f64 x] w fun e w' => e = .returned (if c ≤ 2 ^ 53 then .tuple #[.int .i64 (intN x c), .int .i64 0] else .tuple #[.int .i64 0, .int .i64 13]) ∧ w = w' := by
  have hn := h.num
  have ht : Hid (∀ w, Calls Tryz.prog 10 #[.float .f64 x] w fun e w' => e = .returned (.float .f64 x) ∧ w = w') := Lib.hid fun w => by
    have := trunc_num x hn w
    rw [h.fix hx] at this; exact this
  have hcond : (((FloatKind.f64.format.order x 14069245235905429504 == some .gt) || (FloatKind.f64.format.order x 14069245235905429504 == some .eq)) && ((FloatKind.f64.format.order x 4845873199050653696 == some .lt) || (FloatKind.f64.format.order x 4845873199050653696 == some .eq)) && !(FloatKind.f64.format.order x x != some .eq)) = decide (c ≤ 2 ^ 53) := by
    have e : decide (rg x ≤ BIG) = decide (c ≤ 2 ^ 53) := decide_eq_decide.2 h.small.symm
    rw [ge_big hn, le_big hn, in_big, ord_self_num hn, e]; simp
  refine int_case x x _ _ _ _ _ (intN x c) _ w ht rfl rfl rfl rfl rfl ?_ ?_
  · intro hh
    rw [hcond, decide_eq_true_eq] at hh
    exact conv_whole h hh
  · rw [hcond]
    by_cases hc : c ≤ 2 ^ 53
    · rw [if_pos hc, decide_eq_true hc, if_pos rfl]
    · rw [if_neg hc, decide_eq_false hc]; simp
end Go.Proofs.YtjepjheklnaidaaGreatDoor
