/-
  FtextWhole: the walk of the law: it returns true at every int and every number, in a world where the start-up code's tables lie.
-/
import Derived.Test.YtjepjheklnaidaaDoorInt
import Derived.Test.YtjepjheklnaidaaDoorBack
namespace Go.Proofs.YtjepjheklnaidaaDoor
open Go Go.RowKit F64
set_option maxRecDepth 100000

theorem whole_out (n : Int) (x : Nat) (o1 o2 : Bool) (w : World) (E : Env w) (q1 : decide (n < -9007199254740992) = o1) (q2 : decide (9007199254740992 < n) = o2) (q : (o1 || o2) = true) :
    Calls Tryd.prog 3 #[.int .i64 n, .float .f64 x] w fun e w' => e = .returned (.bool true) ∧ Below w.heap.size w w' := by
  cases o1 <;> cases o2
  all_goals first | (exfalso; exact absurd q (by decide)) | skip
  all_goals
    clear q
    go_enter Tryd.func3, Tryd.ntmps3
    go_wp2_with (go_at_call 8; refine (awake_any _ E).mono ?_; rintro e w5 ⟨rfl, b5⟩)
    go_ret
    exact ⟨rfl, b5⟩

theorem run_sub_some {a b r : Nat} (h : FloatKind.f64.format.sub a b = some r) (w : World) : (binOp .sub 22 (.float .f64 a) (.float .f64 b)).run Tryd.prog w = .ok (.float .f64 r) w := by
  simp [binOp, Op.floatArith, h]
theorem run_div_some {a b r : Nat} (h : FloatKind.f64.format.div a b = some r) (w : World) : (binOp .quo 22 (.float .f64 a) (.float .f64 b)).run Tryd.prog w = .ok (.float .f64 r) w := by
  simp [binOp, Op.floatArith, h]
def IntIs (x : Nat) (n e : Int) : Prop := ∀ w, Calls Tryd.prog 9 #[.float .f64 x] w fun e' w' => e' = .returned (.tuple #[.int .i64 n, .int .i64 e]) ∧ w = w'
def RoundIs (x r : Nat) : Prop := ∀ w, Calls Tryd.prog 10 #[.float .f64 x] w fun e' w' => e' = .returned (.float .f64 r) ∧ Below w.heap.size w w'

set_option maxHeartbeats 4000000 in
theorem whole_fin (n m f : Int) (x r d q1 q2 : Nat) (b1 b2 z s : Bool) (w : World) (E : Env w) (l1 : decide (n < -9007199254740992) = false) (l2 : decide (9007199254740992 < n) = false)
    (hI : IntIs (floatOfInt .f64 n) n 0) (hR : RoundIs x r) (hR2 : RoundIs r r) (hS : sameB r r = true)
    (o1 : (FloatKind.f64.format.order x x != some .eq) = false) (o2 : FloatKind.f64.format.sub x x = some 0) (o3 : (FloatKind.f64.format.order 0 0 != some .eq) = false)
    (o4 : FloatKind.f64.format.sub r x = some d) (o5 : (FloatKind.f64.format.order d 4602678819172646912 == some .gt) = false) (o6 : (FloatKind.f64.format.order d 13826050856027422720 == some .lt) = false)
    (hI2 : IntIs r m f) (hf : f = if (b1 && b2) = true then 0 else 13) (o7 : (b1 && b2) = true → (FloatKind.f64.format.order (floatOfInt .f64 m) r == some .eq) = true)
    (g1 : ((FloatKind.f64.format.order r 14069245235905429504 == some .gt) || (FloatKind.f64.format.order r 14069245235905429504 == some .eq)) = b1)
    (g2 : ((FloatKind.f64.format.order r 4845873199050653696 == some .lt) || (FloatKind.f64.format.order r 4845873199050653696 == some .eq)) = b2)
    (o8 : (FloatKind.f64.format.order r 0 != some .eq) = z) (o9 : z = false → FloatKind.f64.format.div 4607182418800017408 r = some q1) (o10 : FloatKind.f64.format.div 4607182418800017408 x = some q2)
    (o11 : (FloatKind.f64.format.order q1 0 == some .lt) = s) (o12 : (FloatKind.f64.format.order q2 0 == some .lt) = s) :
    Calls Tryd.prog 3 #[.int .i64 n, .float .f64 x] w fun e w' => e = .returned (.bool true) ∧ Below w.heap.size w w' := by
  have u2 := fun w => run_sub_some o2 w
  have u4 := fun w => run_sub_some o4 w
  have u10 := fun w => run_div_some o10 w
  have u9 : z = false → ∀ w, (binOp .quo 22 (.float .f64 4607182418800017408) (.float .f64 r)).run Tryd.prog w = .ok (.float .f64 q1) w := fun h w => run_div_some (o9 h) w
  clear o2 o4 o9 o10
  cases b1 <;> cases b2 <;> cases z <;> cases s
  all_goals
    simp only [Bool.and_self, Bool.and_true, Bool.and_false, Bool.false_eq_true, if_true, if_false] at hf
    subst hf
    try have o7' := o7 rfl
    try have u9' := u9 rfl
    clear o7 u9
    go_enter Tryd.func3, Tryd.ntmps3
    go_wp2_with (go_at_call 9; refine (hI _).mono ?_; rintro e w1 ⟨rfl, rfl⟩)
    refine (hR _).mono ?_
    rintro e w1 ⟨rfl, b1⟩
    go_wp2_with (go_at_call 10; refine (hR2 _).mono ?_)
    rintro e w2 ⟨rfl, b2⟩
    go_wp2_with (first
      | (go_at_call 11; refine (rsame_any _ _ _).mono ?_; rintro e w3 ⟨rfl, rfl⟩)
      | (go_at_call 9; refine (hI2 _).mono ?_; rintro e w3 ⟨rfl, rfl⟩)
      | (go_at_call 8; refine (awake_any _ ((E.below b1).below b2)).mono ?_; rintro e w5 ⟨rfl, b5⟩))
    go_ret
    exact ⟨rfl, below_trans (below_trans b1 b2) b5⟩

/-- A NaN, or an infinity. -/
theorem whole_nan (n : Int) (x r : Nat) (w : World) (E : Env w) (l1 : decide (n < -9007199254740992) = false) (l2 : decide (9007199254740992 < n) = false)
    (hI : IntIs (floatOfInt .f64 n) n 0) (hR : RoundIs x r) (hR2 : RoundIs r r) (hS : sameB r r = true) (hS2 : sameB r x = true)
    (o1 : (FloatKind.f64.format.order x x != some .eq) = true) :
    Calls Tryd.prog 3 #[.int .i64 n, .float .f64 x] w fun e w' => e = .returned (.bool true) ∧ Below w.heap.size w w' := by
  go_enter Tryd.func3, Tryd.ntmps3
  go_wp2_with (go_at_call 9; refine (hI _).mono ?_; rintro e w1 ⟨rfl, rfl⟩)
  refine (hR _).mono ?_
  rintro e w1 ⟨rfl, b1⟩
  go_wp2_with (go_at_call 10; refine (hR2 _).mono ?_)
  rintro e w2 ⟨rfl, b2⟩
  go_wp2_with (first
    | (go_at_call 11; refine (rsame_any _ _ _).mono ?_; rintro e w3 ⟨rfl, rfl⟩)
    | (go_at_call 8; refine (awake_any _ ((E.below b1).below b2)).mono ?_; rintro e w5 ⟨rfl, b5⟩))
  go_ret
  exact ⟨rfl, below_trans (below_trans b1 b2) b5⟩
/-- The NaN that an invalid operation gives. -/
def nanAt (w : World) (x y : Nat) : Nat := (Question.nanBits .f64 x y).cut (w.tape w.drawn (.nanBits .f64 x y))
theorem nanAt_nan (w : World) (x y : Nat) : isNaN (nanAt w x y) = true := by
  rw [isNaN_iff]
  unfold rg
  show INF < ((w.tape w.drawn (.nanBits .f64 x y)) % 2 * 2 ^ 63 + 0x7ff0000000000000 + 1 + ((w.tape w.drawn (.nanBits .f64 x y)) / 2) % (2 ^ 52 - 1)) % 2 ^ 63
  have hI := INF_val
  generalize w.tape w.drawn (.nanBits .f64 x y) = t
  have h2 : t / 2 % (2 ^ 52 - 1) < 2 ^ 52 - 1 := Nat.mod_lt _ (by decide)
  generalize t / 2 % (2 ^ 52 - 1) = r at *
  have h3 : t % 2 = 0 ∨ t % 2 = 1 := by omega
  rcases h3 with h3 | h3 <;> rw [h3] <;> omega
theorem run_sub_nan {x y : Nat} (h : Ieee.double.sub x y = none) (w : World) : (binOp .sub 22 (.float .f64 x) (.float .f64 y)).run Tryd.prog w = .ok (.float .f64 (nanAt w x y)) w.drew := by
  have h' : FloatKind.f64.format.sub x y = none := h
  have hf : (Question.nanBits .f64 x y).forced = false := rfl
  simp [binOp, Op.floatArith, h', nanAt, hf]
theorem nanAt_ne (w : World) (x y : Nat) : (FloatKind.f64.format.order (nanAt w x y) 0 != some .eq) = true := by
  show (Ieee.double.order (nanAt w x y) 0 != some .eq) = true
  rw [order_nan_left (nanAt_nan w x y)]; rfl
theorem whole_inf (n : Int) (x r : Nat) (w : World) (E : Env w) (l1 : decide (n < -9007199254740992) = false) (l2 : decide (9007199254740992 < n) = false)
    (hI : IntIs (floatOfInt .f64 n) n 0) (hR : RoundIs x r) (hR2 : RoundIs r r) (hS : sameB r r = true) (hS2 : sameB r x = true)
    (o1 : (FloatKind.f64.format.order x x != some .eq) = false) (o2 : Ieee.double.sub x x = none) :
    Calls Tryd.prog 3 #[.int .i64 n, .float .f64 x] w fun e w' => e = .returned (.bool true) ∧ Below w.heap.size w w' := by
  have u2 := fun w => run_sub_nan o2 w
  have u3 := fun w => nanAt_ne w x x
  clear o2
  go_enter Tryd.func3, Tryd.ntmps3
  go_wp2_with (go_at_call 9; refine (hI _).mono ?_; rintro e w1 ⟨rfl, rfl⟩)
  refine (hR _).mono ?_
  rintro e w1 ⟨rfl, b1⟩
  go_wp2_with (go_at_call 10; refine (hR2 _).mono ?_)
  rintro e w2 ⟨rfl, b2⟩
  go_wp2_with (first
    | (go_at_call 11; refine (rsame_any _ _ _).mono ?_; rintro e w3 ⟨rfl, rfl⟩)
    | (go_at_call 8; refine (awake_any _ (((E.below b1).below b2).below (Below.refl _ w2).drew)).mono ?_; rintro e w5 ⟨rfl, b5⟩))
  go_ret
  exact ⟨rfl, below_trans (below_trans (below_trans b1 b2) (Below.refl _ w2).drew) b5⟩
end Go.Proofs.YtjepjheklnaidaaDoor
