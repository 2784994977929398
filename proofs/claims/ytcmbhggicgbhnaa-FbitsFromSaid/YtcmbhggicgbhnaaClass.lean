/-
  FbitsClass: the walk of the law, from its callees' contracts: it returns true at every 64 bits. No condition.
-/
import Derived.Test.YtcmbhggicgbhnaaSign
namespace Go.Proofs.Ytcmbhggicgbhnaa
open Go.RowKit F64


set_option maxHeartbeats 1000000 in
theorem class_nan (n x : Nat) (w : World) (hx : x < 2 ^ 64) (hb : bitsF n = x)  (t0 : (FloatKind.f64.format.order x x != some .eq) = true) (t1 : clsF x = 1) :
    Calls Try.prog 5 #[.int .u64 (n : Int)] w fun e w' => e = .returned (.bool true) ∧ Below w.heap.size w w' := by
  have HX := Lib.hid hx
  have hL : bitsF 4503599627370496 = 4503599627370496 := by decide +kernel
  clear hx
  go_enter Try.func5, Try.ntmps5
  go_wp2_with (first | (go_at_call 11; refine (from_any _ _).mono ?_; rintro e w1 ⟨rfl, rfl⟩) | (go_at_call 12; refine (class_any _ _ HX.out).mono ?_; rintro e w1 ⟨rfl, rfl⟩) | (go_at_call 13; refine (awake_any _).mono ?_; rintro e w1 ⟨rfl, rfl⟩) | (go_at_call 16; refine (same_any _ _ _).mono ?_; rintro e w1 ⟨rfl, rfl⟩))
  all_goals (go_ret; exact ⟨rfl, by first | exact Below.refl _ _ | exact (Below.refl _ _).drew⟩)


set_option maxHeartbeats 1000000 in
theorem class_pz (n x : Nat) (w : World) (hx : x < 2 ^ 64) (hb : bitsF n = x)  (t0 : (FloatKind.f64.format.order x x != some .eq) = false) (t1 : (FloatKind.f64.format.order x 0 == some .eq) = true) (t2 : sameB x 0 = true) (t3 : clsF x = 6) :
    Calls Try.prog 5 #[.int .u64 (n : Int)] w fun e w' => e = .returned (.bool true) ∧ Below w.heap.size w w' := by
  have HX := Lib.hid hx
  have hL : bitsF 4503599627370496 = 4503599627370496 := by decide +kernel
  clear hx
  go_enter Try.func5, Try.ntmps5
  go_wp2_with (first | (go_at_call 11; refine (from_any _ _).mono ?_; rintro e w1 ⟨rfl, rfl⟩) | (go_at_call 12; refine (class_any _ _ HX.out).mono ?_; rintro e w1 ⟨rfl, rfl⟩) | (go_at_call 13; refine (awake_any _).mono ?_; rintro e w1 ⟨rfl, rfl⟩) | (go_at_call 16; refine (same_any _ _ _).mono ?_; rintro e w1 ⟨rfl, rfl⟩))
  all_goals (go_ret; exact ⟨rfl, by first | exact Below.refl _ _ | exact (Below.refl _ _).drew⟩)


set_option maxHeartbeats 1000000 in
theorem class_nz (n x : Nat) (w : World) (hx : x < 2 ^ 64) (hb : bitsF n = x)  (t0 : (FloatKind.f64.format.order x x != some .eq) = false) (t1 : (FloatKind.f64.format.order x 0 == some .eq) = true) (t2 : sameB x 0 = false) (t3 : clsF x = 5) (t4 : ∀ w : World, (binOp .quo 23 (.float .f64 4607182418800017408) (.float .f64 x)).run Try.prog w = .ok (.float .f64 18442240474082181120) w) (t5 : (FloatKind.f64.format.order 18442240474082181120 0 == some .lt) = true) :
    Calls Try.prog 5 #[.int .u64 (n : Int)] w fun e w' => e = .returned (.bool true) ∧ Below w.heap.size w w' := by
  have HX := Lib.hid hx
  have hL : bitsF 4503599627370496 = 4503599627370496 := by decide +kernel
  clear hx
  go_enter Try.func5, Try.ntmps5
  go_wp2_with (first | (go_at_call 11; refine (from_any _ _).mono ?_; rintro e w1 ⟨rfl, rfl⟩) | (go_at_call 12; refine (class_any _ _ HX.out).mono ?_; rintro e w1 ⟨rfl, rfl⟩) | (go_at_call 13; refine (awake_any _).mono ?_; rintro e w1 ⟨rfl, rfl⟩) | (go_at_call 16; refine (same_any _ _ _).mono ?_; rintro e w1 ⟨rfl, rfl⟩))
  all_goals (go_ret; exact ⟨rfl, by first | exact Below.refl _ _ | exact (Below.refl _ _).drew⟩)


set_option maxHeartbeats 1000000 in
theorem class_ps (n x : Nat) (w : World) (hx : x < 2 ^ 64) (hb : bitsF n = x)  (t0 : (FloatKind.f64.format.order x x != some .eq) = false) (t1 : (FloatKind.f64.format.order x 0 == some .eq) = false) (t2 : (FloatKind.f64.format.order x 0 == some .gt) = true) (t3 : (FloatKind.f64.format.order x 4503599627370496 == some .lt) = true) (t4 : clsF x = 7) :
    Calls Try.prog 5 #[.int .u64 (n : Int)] w fun e w' => e = .returned (.bool true) ∧ Below w.heap.size w w' := by
  have HX := Lib.hid hx
  have hL : bitsF 4503599627370496 = 4503599627370496 := by decide +kernel
  clear hx
  go_enter Try.func5, Try.ntmps5
  go_wp2_with (first | (go_at_call 11; refine (from_any _ _).mono ?_; rintro e w1 ⟨rfl, rfl⟩) | (go_at_call 12; refine (class_any _ _ HX.out).mono ?_; rintro e w1 ⟨rfl, rfl⟩) | (go_at_call 13; refine (awake_any _).mono ?_; rintro e w1 ⟨rfl, rfl⟩) | (go_at_call 16; refine (same_any _ _ _).mono ?_; rintro e w1 ⟨rfl, rfl⟩))
  all_goals (go_ret; exact ⟨rfl, by first | exact Below.refl _ _ | exact (Below.refl _ _).drew⟩)


set_option maxHeartbeats 1000000 in
theorem class_ns (n x : Nat) (w : World) (hx : x < 2 ^ 64) (hb : bitsF n = x)  (t0 : (FloatKind.f64.format.order x x != some .eq) = false) (t1 : (FloatKind.f64.format.order x 0 == some .eq) = false) (t2 : (FloatKind.f64.format.order x 0 == some .gt) = false) (t3 : (FloatKind.f64.format.order x 0 == some .lt) = true) (t4 : (FloatKind.f64.format.order x (negW 4503599627370496) == some .gt) = true) (t5 : clsF x = 4) :
    Calls Try.prog 5 #[.int .u64 (n : Int)] w fun e w' => e = .returned (.bool true) ∧ Below w.heap.size w w' := by
  have HX := Lib.hid hx
  have hL : bitsF 4503599627370496 = 4503599627370496 := by decide +kernel
  clear hx
  go_enter Try.func5, Try.ntmps5
  go_wp2_with (first | (go_at_call 11; refine (from_any _ _).mono ?_; rintro e w1 ⟨rfl, rfl⟩) | (go_at_call 12; refine (class_any _ _ HX.out).mono ?_; rintro e w1 ⟨rfl, rfl⟩) | (go_at_call 13; refine (awake_any _).mono ?_; rintro e w1 ⟨rfl, rfl⟩) | (go_at_call 16; refine (same_any _ _ _).mono ?_; rintro e w1 ⟨rfl, rfl⟩))
  all_goals (go_ret; exact ⟨rfl, by first | exact Below.refl _ _ | exact (Below.refl _ _).drew⟩)


set_option maxHeartbeats 1000000 in
theorem class_p (n x : Nat) (w : World) (hx : x < 2 ^ 64) (hb : bitsF n = x)  (t0 : (FloatKind.f64.format.order x x != some .eq) = false) (t1 : (FloatKind.f64.format.order x 0 == some .eq) = false) (t2 : (FloatKind.f64.format.order x 0 == some .gt) = true) (t3 : (FloatKind.f64.format.order x 0 == some .lt) = false) (t4 : (FloatKind.f64.format.order x 4503599627370496 == some .lt) = false) (t5 : ∀ w : World, (binOp .sub 23 (.float .f64 x) (.float .f64 x)).run Try.prog w = .ok (.float .f64 0) w) (t6 : (FloatKind.f64.format.order 0 0 != some .eq) = false) (t7 : clsF x = 8) :
    Calls Try.prog 5 #[.int .u64 (n : Int)] w fun e w' => e = .returned (.bool true) ∧ Below w.heap.size w w' := by
  have HX := Lib.hid hx
  have hL : bitsF 4503599627370496 = 4503599627370496 := by decide +kernel
  clear hx
  go_enter Try.func5, Try.ntmps5
  go_wp2_with (first | (go_at_call 11; refine (from_any _ _).mono ?_; rintro e w1 ⟨rfl, rfl⟩) | (go_at_call 12; refine (class_any _ _ HX.out).mono ?_; rintro e w1 ⟨rfl, rfl⟩) | (go_at_call 13; refine (awake_any _).mono ?_; rintro e w1 ⟨rfl, rfl⟩) | (go_at_call 16; refine (same_any _ _ _).mono ?_; rintro e w1 ⟨rfl, rfl⟩))
  all_goals (go_ret; exact ⟨rfl, by first | exact Below.refl _ _ | exact (Below.refl _ _).drew⟩)


set_option maxHeartbeats 1000000 in
theorem class_n (n x : Nat) (w : World) (hx : x < 2 ^ 64) (hb : bitsF n = x)  (t0 : (FloatKind.f64.format.order x x != some .eq) = false) (t1 : (FloatKind.f64.format.order x 0 == some .eq) = false) (t2 : (FloatKind.f64.format.order x 0 == some .gt) = false) (t3 : (FloatKind.f64.format.order x 0 == some .lt) = true) (t4 : (FloatKind.f64.format.order x (negW 4503599627370496) == some .gt) = false) (t5 : ∀ w : World, (binOp .sub 23 (.float .f64 x) (.float .f64 x)).run Try.prog w = .ok (.float .f64 0) w) (t6 : (FloatKind.f64.format.order 0 0 != some .eq) = false) (t7 : clsF x = 3) :
    Calls Try.prog 5 #[.int .u64 (n : Int)] w fun e w' => e = .returned (.bool true) ∧ Below w.heap.size w w' := by
  have HX := Lib.hid hx
  have hL : bitsF 4503599627370496 = 4503599627370496 := by decide +kernel
  clear hx
  go_enter Try.func5, Try.ntmps5
  go_wp2_with (first | (go_at_call 11; refine (from_any _ _).mono ?_; rintro e w1 ⟨rfl, rfl⟩) | (go_at_call 12; refine (class_any _ _ HX.out).mono ?_; rintro e w1 ⟨rfl, rfl⟩) | (go_at_call 13; refine (awake_any _).mono ?_; rintro e w1 ⟨rfl, rfl⟩) | (go_at_call 16; refine (same_any _ _ _).mono ?_; rintro e w1 ⟨rfl, rfl⟩))
  all_goals (go_ret; exact ⟨rfl, by first | exact Below.refl _ _ | exact (Below.refl _ _).drew⟩)


/-- The NaN that an invalid operation gives. -/
def nanAt (w : World) (x y : Nat) : Nat := (Question.nanBits .f64 x y).cut (w.tape w.drawn (.nanBits .f64 x y))
theorem nanAt_nan (w : World) (x y : Nat) : isNaN (nanAt w x y) = true := by
  rw [isNaN_iff]
  unfold rg
  show INF < ((w.tape w.drawn (.nanBits .f64 x y)) % 2 * 2 ^ 63 + 0x7ff0000000000000 + 1 + ((w.tape w.drawn (.nanBits .f64 x y)) / 2) % (2 ^ 52 - 1)) % 2 ^ 63
  have hI := INF_val
  generalize w.tape w.drawn (.nanBits .f64 x y) = t
  have h2 : t / 2 % (2 ^ 52 - 1) < 2 ^ 52 - 1 := Nat.mod_lt _ (by decide)
  generalize t / 2 % (2 ^ 52 - 1) = r at *
  have h3 : t % 2 = 0 ∨ t % 2 = 1 := by omega
  rcases h3 with h3 | h3 <;> rw [h3] <;> omega
theorem run_sub_nan {x y : Nat} (h : Ieee.double.sub x y = none) (w : World) : (binOp .sub 23 (.float .f64 x) (.float .f64 y)).run Try.prog w = .ok (.float .f64 (nanAt w x y)) w.drew := by
  have h' : FloatKind.f64.format.sub x y = none := h
  have hf : (Question.nanBits .f64 x y).forced = false := rfl
  simp [binOp, Op.floatArith, h', nanAt, hf]


set_option maxHeartbeats 1000000 in
theorem class_pi (n x : Nat) (w : World) (hx : x < 2 ^ 64) (hb : bitsF n = x)  (t0 : (FloatKind.f64.format.order x x != some .eq) = false) (t1 : (FloatKind.f64.format.order x 0 == some .eq) = false) (t2 : (FloatKind.f64.format.order x 0 == some .gt) = true) (t3 : (FloatKind.f64.format.order x 0 == some .lt) = false) (t4 : (FloatKind.f64.format.order x 4503599627370496 == some .lt) = false) (t5 : ∀ w : World, (binOp .sub 23 (.float .f64 x) (.float .f64 x)).run Try.prog w = .ok (.float .f64 (nanAt w x x)) w.drew) (t6 : ∀ w : World, (FloatKind.f64.format.order (nanAt w x x) 0 != some .eq) = true) (t7 : clsF x = 9) :
    Calls Try.prog 5 #[.int .u64 (n : Int)] w fun e w' => e = .returned (.bool true) ∧ Below w.heap.size w w' := by
  have HX := Lib.hid hx
  have hL : bitsF 4503599627370496 = 4503599627370496 := by decide +kernel
  clear hx
  go_enter Try.func5, Try.ntmps5
  go_wp2_with (first | (go_at_call 11; refine (from_any _ _).mono ?_; rintro e w1 ⟨rfl, rfl⟩) | (go_at_call 12; refine (class_any _ _ HX.out).mono ?_; rintro e w1 ⟨rfl, rfl⟩) | (go_at_call 13; refine (awake_any _).mono ?_; rintro e w1 ⟨rfl, rfl⟩) | (go_at_call 16; refine (same_any _ _ _).mono ?_; rintro e w1 ⟨rfl, rfl⟩))
  all_goals (go_ret; exact ⟨rfl, by first | exact Below.refl _ _ | exact (Below.refl _ _).drew⟩)


set_option maxHeartbeats 1000000 in
theorem class_ni (n x : Nat) (w : World) (hx : x < 2 ^ 64) (hb : bitsF n = x)  (t0 : (FloatKind.f64.format.order x x != some .eq) = false) (t1 : (FloatKind.f64.format.order x 0 == some .eq) = false) (t2 : (FloatKind.f64.format.order x 0 == some .gt) = false) (t3 : (FloatKind.f64.format.order x 0 == some .lt) = true) (t4 : (FloatKind.f64.format.order x (negW 4503599627370496) == some .gt) = false) (t5 : ∀ w : World, (binOp .sub 23 (.float .f64 x) (.float .f64 x)).run Try.prog w = .ok (.float .f64 (nanAt w x x)) w.drew) (t6 : ∀ w : World, (FloatKind.f64.format.order (nanAt w x x) 0 != some .eq) = true) (t7 : clsF x = 2) :
    Calls Try.prog 5 #[.int .u64 (n : Int)] w fun e w' => e = .returned (.bool true) ∧ Below w.heap.size w w' := by
  have HX := Lib.hid hx
  have hL : bitsF 4503599627370496 = 4503599627370496 := by decide +kernel
  clear hx
  go_enter Try.func5, Try.ntmps5
  go_wp2_with (first | (go_at_call 11; refine (from_any _ _).mono ?_; rintro e w1 ⟨rfl, rfl⟩) | (go_at_call 12; refine (class_any _ _ HX.out).mono ?_; rintro e w1 ⟨rfl, rfl⟩) | (go_at_call 13; refine (awake_any _).mono ?_; rintro e w1 ⟨rfl, rfl⟩) | (go_at_call 16; refine (same_any _ _ _).mono ?_; rintro e w1 ⟨rfl, rfl⟩))
  all_goals (go_ret; exact ⟨rfl, by first | exact Below.refl _ _ | exact (Below.refl _ _).drew⟩)


theorem sub_self {x : Nat} (h : rg x < INF) : Ieee.double.sub x x = some 0 := by
  rw [sub_eq_add]
  rcases add_finite (x := x) (y := opp x) h (by rw [rg_opp]; exact h) with ⟨_, e⟩ | ⟨e, _⟩
  · rw [e, sgn_opp]
    cases sgn x <;> rfl
  · rw [Sv_opp] at e; omega
theorem sub_self_inf {x : Nat} (h : rg x = INF) : Ieee.double.sub x x = none := by
  rw [sub_eq_add]
  exact add_inf_nan h (by rw [rg_opp]; exact h) (by rw [sgn_opp]; cases sgn x <;> simp)

theorem class_all (v : Int) (w : World) (h : (Lit.int .u64 v).wf = true) : Calls Try.prog 5 #[.int .u64 v] w fun e w' => e = .returned (.bool true) ∧ Below w.heap.size w w' := by
  obtain ⟨n, rfl, hn⟩ := u64_open h
  have hx := bitsF_lt hn
  have hI := INF_val
  generalize hb : bitsF n = x at hx
  have hbb : bitsF x = x := by rw [← hb]; exact bitsF_bitsF n
  cases hh : isNaN x
  · have ne := ord_self_num hh
    have hr := isNaN_false.1 hh
    have c0 : isNaN 0 = false := by decide +kernel
    have cL : isNaN 4503599627370496 = false := by decide +kernel
    have cN : isNaN (negW 4503599627370496) = false := by decide +kernel
    have k0 : K 0 = 0 := by decide +kernel
    have kL : K 4503599627370496 = 4503599627370496 := by decide +kernel
    have kN : K (negW 4503599627370496) = -4503599627370496 := by decide +kernel
    have eqv : ∀ b, decide (K x = K 0) = b → (FloatKind.f64.format.order x 0 == some .eq) = b := fun b hb => (order_same hh c0).trans hb
    have gtv : ∀ y b, isNaN y = false → decide (K y < K x) = b → (FloatKind.f64.format.order x y == some .gt) = b := fun y b hy hb => (order_gt hh hy).trans hb
    have ltv : ∀ y b, isNaN y = false → decide (K x < K y) = b → (FloatKind.f64.format.order x y == some .lt) = b := fun y b hy hb => (order_lt hh hy).trans hb
    have hK := K_of hx
    have cx : clsF x = if sgn x = true then 11 - magF x else magF x := by unfold clsF; rw [hh]; simp
    have mx : magF x = if rg x = 0 then 6 else if rg x < 2 ^ 52 then 7 else if rg x < INF then 8 else 9 := by unfold magF; rw [hh]; simp
    have s1 := sgn_true hx
    have s2 := sgn_false hx
    have hrg : rg x = x % 2 ^ 63 := by unfold rg; rfl
    by_cases z : K x = 0
    · have tz := eqv true (by rw [k0]; simpa using z)
      obtain ⟨zr, -⟩ := Sv_zero z
      cases hs : sgn x
      · have := s2.1 hs
        have e0 : x = 0 := by omega
        refine class_pz n x w hx hb ne tz ?_ ?_
        · rw [sameB_true, e0]
        · rw [cx, hs, mx, if_pos zr]; rfl
      · have := s1.1 hs
        have e0 : x = 9223372036854775808 := by omega
        refine class_nz n x w hx hb ne tz ?_ ?_ ?_ ?_
        · have : ¬ sameB x 0 = true := by rw [sameB_true, hbb, e0]; decide +kernel
          simpa using this
        · rw [cx, hs, mx, if_pos zr]; rfl
        · intro w; exact run_float_arith w .quo 23 .f64 _ _ _ (by rw [e0]; decide +kernel)
        · decide +kernel
    · have tz := eqv false (by rw [k0]; simpa using z)
      cases hs : sgn x
      · have hx63 := s2.1 hs
        rw [if_pos hx63] at hK
        rw [hs] at cx
        simp only [Bool.false_eq_true, if_false] at cx
        have g0 := gtv 0 true c0 (by rw [k0, decide_eq_true_iff]; omega)
        have l0 := ltv 0 false c0 (by rw [k0, decide_eq_false_iff_not]; omega)
        by_cases hl : rg x < 2 ^ 52
        · refine class_ps n x w hx hb ne tz g0 (ltv _ true cL (by rw [kL, decide_eq_true_iff]; omega)) ?_
          rw [cx, mx, if_neg (by omega), if_pos hl]
        · have lL := ltv _ false cL (by rw [kL, decide_eq_false_iff_not]; omega)
          by_cases hi : rg x < INF
          · refine class_p n x w hx hb ne tz g0 l0 lL ?_ (by decide +kernel) ?_
            · intro w; exact run_float_arith w .sub 23 .f64 _ _ _ (sub_self hi)
            · rw [cx, mx, if_neg (by omega), if_neg hl, if_pos hi]
          · refine class_pi n x w hx hb ne tz g0 l0 lL (run_sub_nan (sub_self_inf (by omega))) ?_ ?_
            · intro w
              show (Ieee.double.order _ _ != _) = true
              rw [order_nan_left (nanAt_nan w x x)]; rfl
            · rw [cx, mx, if_neg (by omega), if_neg hl, if_neg hi]
      · have hx63 := s1.1 hs
        rw [if_neg (by omega)] at hK
        rw [hs] at cx
        simp only [if_true] at cx
        have g0 := gtv 0 false c0 (by rw [k0, decide_eq_false_iff_not]; omega)
        have l0 := ltv 0 true c0 (by rw [k0, decide_eq_true_iff]; omega)
        by_cases hl : rg x < 2 ^ 52
        · refine class_ns n x w hx hb ne tz g0 l0 (gtv _ true cN (by rw [kN, decide_eq_true_iff]; omega)) ?_
          rw [cx, mx, if_neg (by omega), if_pos hl]; rfl
        · have lL := gtv _ false cN (by rw [kN, decide_eq_false_iff_not]; omega)
          by_cases hi : rg x < INF
          · refine class_n n x w hx hb ne tz g0 l0 lL ?_ (by decide +kernel) ?_
            · intro w; exact run_float_arith w .sub 23 .f64 _ _ _ (sub_self hi)
            · rw [cx, mx, if_neg (by omega), if_neg hl, if_pos hi]; rfl
          · refine class_ni n x w hx hb ne tz g0 l0 lL (run_sub_nan (sub_self_inf (by omega))) ?_ ?_
            · intro w
              show (Ieee.double.order _ _ != _) = true
              rw [order_nan_left (nanAt_nan w x x)]; rfl
            · rw [cx, mx, if_neg (by omega), if_neg hl, if_neg hi]; rfl
  · refine class_nan n x w hx hb (ord_self_nan hh) ?_
    unfold clsF; rw [hh]; rfl
end Go.Proofs.Ytcmbhggicgbhnaa
