/-
  FbitsNear: the walk of the law, from its callees' contracts: it returns true at every 64 bits. No condition.
-/
import Derived.Test.YtcmbhggicgbhnaaNext
namespace Go.Proofs.Ytcmbhggicgbhnaa
open Go.RowKit F64


set_option maxHeartbeats 2000000 in
theorem near_nan (n x y p  : Nat) (w : World) (hx : x < 2 ^ 64) (hb : bitsF n = x) (hy : nextF x = y) (hp : prevF x = p) (t0 : (clsF x == 1) = true) (t1 : (FloatKind.f64.format.order y y != some .eq) = true) (t2 : (FloatKind.f64.format.order p p != some .eq) = true) :
    Calls Try.prog 6 #[.int .u64 (n : Int)] w fun e w' => e = .returned (.bool true) ∧ Below w.heap.size w w' := by
  have HX := Lib.hid hx
  have HN : Hid (y < 2 ^ 64) := Lib.hid (by rw [← hy]; exact nextF_lt hx)
  have HP : Hid (p < 2 ^ 64) := Lib.hid (by rw [← hp]; exact prevF_lt)
  clear hx
  go_enter Try.func6, Try.ntmps6
  go_wp2_with (first | (go_at_call 11; refine (from_any _ _).mono ?_; rintro e w1 ⟨rfl, rfl⟩) | (go_at_call 17; refine (next_any _ _ (by first | exact HX.out | exact HP.out)).mono ?_; rintro e w1 ⟨rfl, rfl⟩) | (go_at_call 18; refine (prev_any _ _ (by first | exact HX.out | exact HN.out)).mono ?_; rintro e w1 ⟨rfl, rfl⟩) | (go_at_call 12; refine (class_any _ _ (by first | exact HX.out | exact HP.out | exact HN.out)).mono ?_; rintro e w1 ⟨rfl, rfl⟩) | (go_at_call 14; refine (bits_any _ _).mono ?_; rintro e w1 ⟨rfl, rfl⟩) | (go_at_call 13; refine (awake_any _).mono ?_; rintro e w1 ⟨rfl, rfl⟩))
  all_goals (go_ret; exact ⟨rfl, Below.refl _ _⟩)


set_option maxHeartbeats 2000000 in
theorem near_nz (n x y p  : Nat) (w : World) (hx : x < 2 ^ 64) (hb : bitsF n = x) (hy : nextF x = y) (hp : prevF x = p) (t0 : (clsF x == 1) = false) (t1 : (clsF x == 5) = true) (t2 : bitsF y = 1) (t3 : bitsF p = 9223372036854775809) :
    Calls Try.prog 6 #[.int .u64 (n : Int)] w fun e w' => e = .returned (.bool true) ∧ Below w.heap.size w w' := by
  have HX := Lib.hid hx
  have HN : Hid (y < 2 ^ 64) := Lib.hid (by rw [← hy]; exact nextF_lt hx)
  have HP : Hid (p < 2 ^ 64) := Lib.hid (by rw [← hp]; exact prevF_lt)
  clear hx
  go_enter Try.func6, Try.ntmps6
  go_wp2_with (first | (go_at_call 11; refine (from_any _ _).mono ?_; rintro e w1 ⟨rfl, rfl⟩) | (go_at_call 17; refine (next_any _ _ (by first | exact HX.out | exact HP.out)).mono ?_; rintro e w1 ⟨rfl, rfl⟩) | (go_at_call 18; refine (prev_any _ _ (by first | exact HX.out | exact HN.out)).mono ?_; rintro e w1 ⟨rfl, rfl⟩) | (go_at_call 12; refine (class_any _ _ (by first | exact HX.out | exact HP.out | exact HN.out)).mono ?_; rintro e w1 ⟨rfl, rfl⟩) | (go_at_call 14; refine (bits_any _ _).mono ?_; rintro e w1 ⟨rfl, rfl⟩) | (go_at_call 13; refine (awake_any _).mono ?_; rintro e w1 ⟨rfl, rfl⟩))
  all_goals (go_ret; exact ⟨rfl, Below.refl _ _⟩)


set_option maxHeartbeats 2000000 in
theorem near_pz (n x y p  : Nat) (w : World) (hx : x < 2 ^ 64) (hb : bitsF n = x) (hy : nextF x = y) (hp : prevF x = p) (t0 : (clsF x == 1) = false) (t1 : (clsF x == 5) = false) (t2 : (clsF x == 6) = true) (t3 : bitsF y = 1) (t4 : bitsF p = 9223372036854775809) :
    Calls Try.prog 6 #[.int .u64 (n : Int)] w fun e w' => e = .returned (.bool true) ∧ Below w.heap.size w w' := by
  have HX := Lib.hid hx
  have HN : Hid (y < 2 ^ 64) := Lib.hid (by rw [← hy]; exact nextF_lt hx)
  have HP : Hid (p < 2 ^ 64) := Lib.hid (by rw [← hp]; exact prevF_lt)
  clear hx
  go_enter Try.func6, Try.ntmps6
  go_wp2_with (first | (go_at_call 11; refine (from_any _ _).mono ?_; rintro e w1 ⟨rfl, rfl⟩) | (go_at_call 17; refine (next_any _ _ (by first | exact HX.out | exact HP.out)).mono ?_; rintro e w1 ⟨rfl, rfl⟩) | (go_at_call 18; refine (prev_any _ _ (by first | exact HX.out | exact HN.out)).mono ?_; rintro e w1 ⟨rfl, rfl⟩) | (go_at_call 12; refine (class_any _ _ (by first | exact HX.out | exact HP.out | exact HN.out)).mono ?_; rintro e w1 ⟨rfl, rfl⟩) | (go_at_call 14; refine (bits_any _ _).mono ?_; rintro e w1 ⟨rfl, rfl⟩) | (go_at_call 13; refine (awake_any _).mono ?_; rintro e w1 ⟨rfl, rfl⟩))
  all_goals (go_ret; exact ⟨rfl, Below.refl _ _⟩)


set_option maxHeartbeats 2000000 in
theorem near_pi (n x y p  : Nat) (w : World) (hx : x < 2 ^ 64) (hb : bitsF n = x) (hy : nextF x = y) (hp : prevF x = p) (t0 : (clsF x == 1) = false) (t1 : (clsF x == 5) = false) (t2 : (clsF x == 6) = false) (t3 : (clsF x == 9) = true) (t4 : (FloatKind.f64.format.order y x == some .eq) = true) (t5 : (FloatKind.f64.format.order p x == some .lt) = true) (t6 : (clsF p == 8) = true) :
    Calls Try.prog 6 #[.int .u64 (n : Int)] w fun e w' => e = .returned (.bool true) ∧ Below w.heap.size w w' := by
  have HX := Lib.hid hx
  have HN : Hid (y < 2 ^ 64) := Lib.hid (by rw [← hy]; exact nextF_lt hx)
  have HP : Hid (p < 2 ^ 64) := Lib.hid (by rw [← hp]; exact prevF_lt)
  clear hx
  go_enter Try.func6, Try.ntmps6
  go_wp2_with (first | (go_at_call 11; refine (from_any _ _).mono ?_; rintro e w1 ⟨rfl, rfl⟩) | (go_at_call 17; refine (next_any _ _ (by first | exact HX.out | exact HP.out)).mono ?_; rintro e w1 ⟨rfl, rfl⟩) | (go_at_call 18; refine (prev_any _ _ (by first | exact HX.out | exact HN.out)).mono ?_; rintro e w1 ⟨rfl, rfl⟩) | (go_at_call 12; refine (class_any _ _ (by first | exact HX.out | exact HP.out | exact HN.out)).mono ?_; rintro e w1 ⟨rfl, rfl⟩) | (go_at_call 14; refine (bits_any _ _).mono ?_; rintro e w1 ⟨rfl, rfl⟩) | (go_at_call 13; refine (awake_any _).mono ?_; rintro e w1 ⟨rfl, rfl⟩))
  all_goals (go_ret; exact ⟨rfl, Below.refl _ _⟩)


set_option maxHeartbeats 2000000 in
theorem near_ni (n x y p  : Nat) (w : World) (hx : x < 2 ^ 64) (hb : bitsF n = x) (hy : nextF x = y) (hp : prevF x = p) (t0 : (clsF x == 1) = false) (t1 : (clsF x == 5) = false) (t2 : (clsF x == 6) = false) (t3 : (clsF x == 9) = false) (t4 : (clsF x == 2) = true) (t5 : (FloatKind.f64.format.order p x == some .eq) = true) (t6 : (FloatKind.f64.format.order y x == some .gt) = true) (t7 : (clsF y == 3) = true) :
    Calls Try.prog 6 #[.int .u64 (n : Int)] w fun e w' => e = .returned (.bool true) ∧ Below w.heap.size w w' := by
  have HX := Lib.hid hx
  have HN : Hid (y < 2 ^ 64) := Lib.hid (by rw [← hy]; exact nextF_lt hx)
  have HP : Hid (p < 2 ^ 64) := Lib.hid (by rw [← hp]; exact prevF_lt)
  clear hx
  go_enter Try.func6, Try.ntmps6
  go_wp2_with (first | (go_at_call 11; refine (from_any _ _).mono ?_; rintro e w1 ⟨rfl, rfl⟩) | (go_at_call 17; refine (next_any _ _ (by first | exact HX.out | exact HP.out)).mono ?_; rintro e w1 ⟨rfl, rfl⟩) | (go_at_call 18; refine (prev_any _ _ (by first | exact HX.out | exact HN.out)).mono ?_; rintro e w1 ⟨rfl, rfl⟩) | (go_at_call 12; refine (class_any _ _ (by first | exact HX.out | exact HP.out | exact HN.out)).mono ?_; rintro e w1 ⟨rfl, rfl⟩) | (go_at_call 14; refine (bits_any _ _).mono ?_; rintro e w1 ⟨rfl, rfl⟩) | (go_at_call 13; refine (awake_any _).mono ?_; rintro e w1 ⟨rfl, rfl⟩))
  all_goals (go_ret; exact ⟨rfl, Below.refl _ _⟩)


set_option maxHeartbeats 2000000 in
theorem near_a (n x y p d g m : Nat) (w : World) (hx : x < 2 ^ 64) (hb : bitsF n = x) (hy : nextF x = y) (hp : prevF x = p) (t0 : (clsF x == 1) = false) (t1 : (clsF x == 5) = false) (t2 : (clsF x == 6) = false) (t3 : (clsF x == 9) = false) (t4 : (clsF x == 2) = false) (t5 : (FloatKind.f64.format.order p x == some .lt) = true) (t6 : (FloatKind.f64.format.order x y == some .lt) = true) (t7 : ∀ w : World, (binOp .sub 23 (.float .f64 y) (.float .f64 x)).run Try.prog w = .ok (.float .f64 d) w) (t8 : ∀ w : World, (binOp .quo 23 (.float .f64 d) (.float .f64 4611686018427387904)).run Try.prog w = .ok (.float .f64 g) w) (t9 : ∀ w : World, (binOp .add 23 (.float .f64 x) (.float .f64 g)).run Try.prog w = .ok (.float .f64 m) w) (t10 : (FloatKind.f64.format.order (prevF y) x == some .eq) = true) (t11 : (FloatKind.f64.format.order (nextF p) x == some .eq) = true) (t12 : (FloatKind.f64.format.order m x == some .eq) = true) :
    Calls Try.prog 6 #[.int .u64 (n : Int)] w fun e w' => e = .returned (.bool true) ∧ Below w.heap.size w w' := by
  have HX := Lib.hid hx
  have HN : Hid (y < 2 ^ 64) := Lib.hid (by rw [← hy]; exact nextF_lt hx)
  have HP : Hid (p < 2 ^ 64) := Lib.hid (by rw [← hp]; exact prevF_lt)
  clear hx
  go_enter Try.func6, Try.ntmps6
  go_wp2_with (first | (go_at_call 11; refine (from_any _ _).mono ?_; rintro e w1 ⟨rfl, rfl⟩) | (go_at_call 17; refine (next_any _ _ (by first | exact HX.out | exact HP.out)).mono ?_; rintro e w1 ⟨rfl, rfl⟩) | (go_at_call 18; refine (prev_any _ _ (by first | exact HX.out | exact HN.out)).mono ?_; rintro e w1 ⟨rfl, rfl⟩) | (go_at_call 12; refine (class_any _ _ (by first | exact HX.out | exact HP.out | exact HN.out)).mono ?_; rintro e w1 ⟨rfl, rfl⟩) | (go_at_call 14; refine (bits_any _ _).mono ?_; rintro e w1 ⟨rfl, rfl⟩) | (go_at_call 13; refine (awake_any _).mono ?_; rintro e w1 ⟨rfl, rfl⟩))
  all_goals (go_ret; exact ⟨rfl, Below.refl _ _⟩)


set_option maxHeartbeats 2000000 in
theorem near_b (n x y p d g m : Nat) (w : World) (hx : x < 2 ^ 64) (hb : bitsF n = x) (hy : nextF x = y) (hp : prevF x = p) (t0 : (clsF x == 1) = false) (t1 : (clsF x == 5) = false) (t2 : (clsF x == 6) = false) (t3 : (clsF x == 9) = false) (t4 : (clsF x == 2) = false) (t5 : (FloatKind.f64.format.order p x == some .lt) = true) (t6 : (FloatKind.f64.format.order x y == some .lt) = true) (t7 : ∀ w : World, (binOp .sub 23 (.float .f64 y) (.float .f64 x)).run Try.prog w = .ok (.float .f64 d) w) (t8 : ∀ w : World, (binOp .quo 23 (.float .f64 d) (.float .f64 4611686018427387904)).run Try.prog w = .ok (.float .f64 g) w) (t9 : ∀ w : World, (binOp .add 23 (.float .f64 x) (.float .f64 g)).run Try.prog w = .ok (.float .f64 m) w) (t10 : (FloatKind.f64.format.order (prevF y) x == some .eq) = true) (t11 : (FloatKind.f64.format.order (nextF p) x == some .eq) = true) (t12 : (FloatKind.f64.format.order m x == some .eq) = false) (t13 : (FloatKind.f64.format.order m y == some .eq) = true) :
    Calls Try.prog 6 #[.int .u64 (n : Int)] w fun e w' => e = .returned (.bool true) ∧ Below w.heap.size w w' := by
  have HX := Lib.hid hx
  have HN : Hid (y < 2 ^ 64) := Lib.hid (by rw [← hy]; exact nextF_lt hx)
  have HP : Hid (p < 2 ^ 64) := Lib.hid (by rw [← hp]; exact prevF_lt)
  clear hx
  go_enter Try.func6, Try.ntmps6
  go_wp2_with (first | (go_at_call 11; refine (from_any _ _).mono ?_; rintro e w1 ⟨rfl, rfl⟩) | (go_at_call 17; refine (next_any _ _ (by first | exact HX.out | exact HP.out)).mono ?_; rintro e w1 ⟨rfl, rfl⟩) | (go_at_call 18; refine (prev_any _ _ (by first | exact HX.out | exact HN.out)).mono ?_; rintro e w1 ⟨rfl, rfl⟩) | (go_at_call 12; refine (class_any _ _ (by first | exact HX.out | exact HP.out | exact HN.out)).mono ?_; rintro e w1 ⟨rfl, rfl⟩) | (go_at_call 14; refine (bits_any _ _).mono ?_; rintro e w1 ⟨rfl, rfl⟩) | (go_at_call 13; refine (awake_any _).mono ?_; rintro e w1 ⟨rfl, rfl⟩))
  all_goals (go_ret; exact ⟨rfl, Below.refl _ _⟩)


theorem ord_lt {a b : Nat} (ha : isNaN a = false) (hb : isNaN b = false) (h : K a < K b) : (FloatKind.f64.format.order a b == some .lt) = true :=
  (order_lt ha hb).trans (by simpa using h)
theorem ord_gt {a b : Nat} (ha : isNaN a = false) (hb : isNaN b = false) (h : K b < K a) : (FloatKind.f64.format.order a b == some .gt) = true :=
  (order_gt ha hb).trans (by simpa using h)
theorem ord_eq {a b : Nat} (ha : isNaN a = false) (hb : isNaN b = false) (h : K a = K b) : (FloatKind.f64.format.order a b == some .eq) = true :=
  (order_same ha hb).trans (by simpa using h)
theorem ord_ne {a b : Nat} (ha : isNaN a = false) (hb : isNaN b = false) (h : K a ≠ K b) : (FloatKind.f64.format.order a b == some .eq) = false :=
  (order_same ha hb).trans (by simpa using h)

theorem near_fin (n x : Nat) (w : World) (hx : x < 2 ^ 64) (hb : bitsF n = x) (h : isNaN x = false) (h0 : x % 2 ^ 63 ≠ 0) (h1 : x % 2 ^ 63 < INF) (hc : clsF x = 7 ∨ clsF x = 8 ∨ clsF x = 3 ∨ clsF x = 4) :
    Calls Try.prog 6 #[.int .u64 (n : Int)] w fun e w' => e = .returned (.bool true) ∧ Below w.heap.size w w' := by
  have hI := INF_val
  have hrg : rg x = x % 2 ^ 63 := by unfold rg; rfl
  have hy := nextF_num hx h
  have hyl := nextF_lt hx
  have hp := prevF_num h
  have hpl : prevF x < 2 ^ 64 := prevF_lt
  have hoI : opp INF = 2 ^ 63 + INF := by decide +kernel
  have ky := K_next hx h (by omega)
  have kp := K_prev hx h (by rw [hoI]; omega)
  have hK := K_of hx
  have hKy := K_of hyl
  have hKp := K_of hpl
  have k0 : K x ≠ 0 := by rw [hK]; split <;> omega
  have ky2 := K_prev hyl hy (by
    intro e
    rw [e, show K (opp INF) = -(INF : Int) from by decide +kernel] at ky
    rw [hK] at ky; split at ky <;> omega)
  have kp2 := K_next hpl hp (by
    intro e
    rw [e, show K INF = (INF : Int) from by decide +kernel] at kp
    rw [hK] at kp; split at kp <;> omega)
  obtain ⟨d, g, m, e1, e2, e3, e4, e5⟩ := mid_next hx (by omega) k0
  have r1 := fun w : World => run_float_arith (P := Try.prog) w .sub 23 .f64 _ _ _ e1
  have r2 := fun w : World => run_float_arith (P := Try.prog) w .quo 23 .f64 _ _ _ e2
  have r3 := fun w : World => run_float_arith (P := Try.prog) w .add 23 .f64 _ _ _ e3
  have cf : ∀ k, k = 1 ∨ k = 5 ∨ k = 6 ∨ k = 9 ∨ k = 2 → (clsF x == k) = false := by
    intro k hk; rw [beq_eq_false_iff_ne]; omega
  have o1 := ord_lt hp h (by omega)
  have o2 := ord_lt h hy (by omega)
  have o3 := ord_eq (prevF_num hy) h (by omega)
  have o4 := ord_eq (nextF_num hpl hp) h (by omega)
  by_cases e : K m = K x
  · exact near_a n x _ _ d g m w hx hb rfl rfl (cf _ (by omega)) (cf _ (by omega)) (cf _ (by omega)) (cf _ (by omega)) (cf _ (by omega)) o1 o2 r1 r2 r3 o3 o4 (ord_eq e4 h e)
  · exact near_b n x _ _ d g m w hx hb rfl rfl (cf _ (by omega)) (cf _ (by omega)) (cf _ (by omega)) (cf _ (by omega)) (cf _ (by omega)) o1 o2 r1 r2 r3 o3 o4 (ord_ne e4 h e) (ord_eq e4 hy (by omega))

theorem near_any (v : Int) (w : World) (h : (Lit.int .u64 v).wf = true) : Calls Try.prog 6 #[.int .u64 v] w fun e w' => e = .returned (.bool true) ∧ Below w.heap.size w w' := by
  obtain ⟨n, rfl, hn⟩ := u64_open h
  have hx := bitsF_lt hn
  have hI := INF_val
  have hbb : isNaN (bitsF n) = false → bitsF (bitsF n) = bitsF n := fun _ => bitsF_bitsF n
  generalize hb : bitsF n = x at *
  cases hh : isNaN x
  · have hr := isNaN_false.1 hh
    have hrg : rg x = x % 2 ^ 63 := by unfold rg; rfl
    rcases clsF_parts hx hh with ⟨a, c | c⟩ | ⟨a, c⟩ | ⟨a, c⟩ | ⟨a, b, c⟩ | ⟨a, b, b', c⟩
    · have hx2 : x = 0 ∨ x = 9223372036854775808 := by omega
      refine near_nz n x _ _ w hx hb rfl rfl (by rw [c]; rfl) (by rw [c]; rfl) ?_ ?_
      · rcases hx2 with e | e <;> rw [e] <;> decide +kernel
      · rcases hx2 with e | e <;> rw [e] <;> decide +kernel
    · have hx2 : x = 0 ∨ x = 9223372036854775808 := by omega
      refine near_pz n x _ _ w hx hb rfl rfl (by rw [c]; rfl) (by rw [c]; rfl) (by rw [c]; rfl) ?_ ?_
      · rcases hx2 with e | e <;> rw [e] <;> decide +kernel
      · rcases hx2 with e | e <;> rw [e] <;> decide +kernel
    · refine near_pi n x _ _ w hx hb rfl rfl (by rw [c]; rfl) (by rw [c]; rfl) (by rw [c]; rfl) (by rw [c]; rfl) ?_ ?_ ?_ <;> rw [a] <;> decide +kernel
    · have a' : x = 18442240474082181120 := by omega
      refine near_ni n x _ _ w hx hb rfl rfl (by rw [c]; rfl) (by rw [c]; rfl) (by rw [c]; rfl) (by rw [c]; rfl) (by rw [c]; rfl) ?_ ?_ ?_ <;> rw [a'] <;> decide +kernel
    · exact near_fin n x w hx hb hh a (by omega) (by omega)
    · exact near_fin n x w hx hb hh a (by omega) (by omega)
  · have e : clsF x = 1 := by unfold clsF; rw [hh]; rfl
    have e1 : nextF x = QNAN := nextF_nan hh
    have e2 : prevF x = QNAN := by unfold prevF; rw [hh]; rfl
    refine near_nan n x _ _ w hx hb rfl rfl (by rw [e]; rfl) ?_ ?_
    · rw [e1]; exact ord_self_nan (by decide +kernel)
    · rw [e2]; exact ord_self_nan (by decide +kernel)
end Go.Proofs.Ytcmbhggicgbhnaa
