/-
  FbitsLine: the walk of the law, from its callees' contracts: it returns true at every two numbers. No condition.
-/
import Derived.Test.YtcmbhggicgbhnaaBase
namespace Go.Proofs.Ytcmbhggicgbhnaa
open Go.RowKit F64

theorem f64_open {b : Nat} (h : (Lit.float .f64 b).wf = true) : b < 2 ^ 64 := by
  simp [Lit.wf] at h
  omega


set_option maxHeartbeats 1000000 in
theorem line_lt (x y : Nat) (w : World) (hx : x < 2 ^ 64) (hy : y < 2 ^ 64) (h1 : (FloatKind.f64.format.order x y == some .lt) = true) (h2 : decide (keyF x < keyF y) = true) :
    Calls Try.prog 4 #[.float .f64 x, .float .f64 y] w fun e w' => e = .returned (.bool true) ∧ Below w.heap.size w w' := by
  have HX := Lib.hid hx
  have HY := Lib.hid hy
  clear hx hy
  go_enter Try.func4, Try.ntmps4
  go_wp2_with (first | (go_at_call 15; refine (key_any _ _ (by first | exact HX.out | exact HY.out)).mono ?_; rintro e w1 ⟨rfl, rfl⟩) | (go_at_call 13; refine (awake_any _).mono ?_; rintro e w1 ⟨rfl, rfl⟩) | (go_at_call 16; refine (same_any _ _ _).mono ?_; rintro e w1 ⟨rfl, rfl⟩))
  all_goals (go_ret; exact ⟨rfl, Below.refl _ _⟩)


set_option maxHeartbeats 1000000 in
theorem line_gt (x y : Nat) (w : World) (hx : x < 2 ^ 64) (hy : y < 2 ^ 64) (h1 : (FloatKind.f64.format.order x y == some .lt) = false) (h2 : (FloatKind.f64.format.order x y == some .gt) = true) (h3 : decide (keyF y < keyF x) = true) :
    Calls Try.prog 4 #[.float .f64 x, .float .f64 y] w fun e w' => e = .returned (.bool true) ∧ Below w.heap.size w w' := by
  have HX := Lib.hid hx
  have HY := Lib.hid hy
  clear hx hy
  go_enter Try.func4, Try.ntmps4
  go_wp2_with (first | (go_at_call 15; refine (key_any _ _ (by first | exact HX.out | exact HY.out)).mono ?_; rintro e w1 ⟨rfl, rfl⟩) | (go_at_call 13; refine (awake_any _).mono ?_; rintro e w1 ⟨rfl, rfl⟩) | (go_at_call 16; refine (same_any _ _ _).mono ?_; rintro e w1 ⟨rfl, rfl⟩))
  all_goals (go_ret; exact ⟨rfl, Below.refl _ _⟩)


set_option maxHeartbeats 1000000 in
theorem line_nn (x y : Nat) (w : World) (hx : x < 2 ^ 64) (hy : y < 2 ^ 64) (h1 : (FloatKind.f64.format.order x y == some .lt) = false) (h2 : (FloatKind.f64.format.order x y == some .gt) = false) (h3 : (FloatKind.f64.format.order x x != some .eq) = true) (h4 : (FloatKind.f64.format.order y y != some .eq) = true) (h5 : (((keyF x : Nat) : Int) == ((keyF y : Nat) : Int)) = true) :
    Calls Try.prog 4 #[.float .f64 x, .float .f64 y] w fun e w' => e = .returned (.bool true) ∧ Below w.heap.size w w' := by
  have HX := Lib.hid hx
  have HY := Lib.hid hy
  clear hx hy
  go_enter Try.func4, Try.ntmps4
  go_wp2_with (first | (go_at_call 15; refine (key_any _ _ (by first | exact HX.out | exact HY.out)).mono ?_; rintro e w1 ⟨rfl, rfl⟩) | (go_at_call 13; refine (awake_any _).mono ?_; rintro e w1 ⟨rfl, rfl⟩) | (go_at_call 16; refine (same_any _ _ _).mono ?_; rintro e w1 ⟨rfl, rfl⟩))
  all_goals (go_ret; exact ⟨rfl, Below.refl _ _⟩)


set_option maxHeartbeats 1000000 in
theorem line_nx (x y : Nat) (w : World) (hx : x < 2 ^ 64) (hy : y < 2 ^ 64) (h1 : (FloatKind.f64.format.order x y == some .lt) = false) (h2 : (FloatKind.f64.format.order x y == some .gt) = false) (h3 : (FloatKind.f64.format.order x x != some .eq) = true) (h4 : (FloatKind.f64.format.order y y != some .eq) = false) (h5 : decide (keyF y < keyF x) = true) :
    Calls Try.prog 4 #[.float .f64 x, .float .f64 y] w fun e w' => e = .returned (.bool true) ∧ Below w.heap.size w w' := by
  have HX := Lib.hid hx
  have HY := Lib.hid hy
  clear hx hy
  go_enter Try.func4, Try.ntmps4
  go_wp2_with (first | (go_at_call 15; refine (key_any _ _ (by first | exact HX.out | exact HY.out)).mono ?_; rintro e w1 ⟨rfl, rfl⟩) | (go_at_call 13; refine (awake_any _).mono ?_; rintro e w1 ⟨rfl, rfl⟩) | (go_at_call 16; refine (same_any _ _ _).mono ?_; rintro e w1 ⟨rfl, rfl⟩))
  all_goals (go_ret; exact ⟨rfl, Below.refl _ _⟩)


set_option maxHeartbeats 1000000 in
theorem line_ny (x y : Nat) (w : World) (hx : x < 2 ^ 64) (hy : y < 2 ^ 64) (h1 : (FloatKind.f64.format.order x y == some .lt) = false) (h2 : (FloatKind.f64.format.order x y == some .gt) = false) (h3 : (FloatKind.f64.format.order x x != some .eq) = false) (h4 : (FloatKind.f64.format.order y y != some .eq) = true) (h5 : decide (keyF x < keyF y) = true) :
    Calls Try.prog 4 #[.float .f64 x, .float .f64 y] w fun e w' => e = .returned (.bool true) ∧ Below w.heap.size w w' := by
  have HX := Lib.hid hx
  have HY := Lib.hid hy
  clear hx hy
  go_enter Try.func4, Try.ntmps4
  go_wp2_with (first | (go_at_call 15; refine (key_any _ _ (by first | exact HX.out | exact HY.out)).mono ?_; rintro e w1 ⟨rfl, rfl⟩) | (go_at_call 13; refine (awake_any _).mono ?_; rintro e w1 ⟨rfl, rfl⟩) | (go_at_call 16; refine (same_any _ _ _).mono ?_; rintro e w1 ⟨rfl, rfl⟩))
  all_goals (go_ret; exact ⟨rfl, Below.refl _ _⟩)


set_option maxHeartbeats 1000000 in
theorem line_eq (x y : Nat) (w : World) (hx : x < 2 ^ 64) (hy : y < 2 ^ 64) (h1 : (FloatKind.f64.format.order x y == some .lt) = false) (h2 : (FloatKind.f64.format.order x y == some .gt) = false) (h3 : (FloatKind.f64.format.order x x != some .eq) = false) (h4 : (FloatKind.f64.format.order y y != some .eq) = false) (h5 : (((keyF x : Nat) : Int) == ((keyF y : Nat) : Int)) = true) (h6 : sameB x y = true) :
    Calls Try.prog 4 #[.float .f64 x, .float .f64 y] w fun e w' => e = .returned (.bool true) ∧ Below w.heap.size w w' := by
  have HX := Lib.hid hx
  have HY := Lib.hid hy
  clear hx hy
  go_enter Try.func4, Try.ntmps4
  go_wp2_with (first | (go_at_call 15; refine (key_any _ _ (by first | exact HX.out | exact HY.out)).mono ?_; rintro e w1 ⟨rfl, rfl⟩) | (go_at_call 13; refine (awake_any _).mono ?_; rintro e w1 ⟨rfl, rfl⟩) | (go_at_call 16; refine (same_any _ _ _).mono ?_; rintro e w1 ⟨rfl, rfl⟩))
  all_goals (go_ret; exact ⟨rfl, Below.refl _ _⟩)


set_option maxHeartbeats 1000000 in
theorem line_ne (x y : Nat) (w : World) (hx : x < 2 ^ 64) (hy : y < 2 ^ 64) (h1 : (FloatKind.f64.format.order x y == some .lt) = false) (h2 : (FloatKind.f64.format.order x y == some .gt) = false) (h3 : (FloatKind.f64.format.order x x != some .eq) = false) (h4 : (FloatKind.f64.format.order y y != some .eq) = false) (h5 : (((keyF x : Nat) : Int) == ((keyF y : Nat) : Int)) = false) (h6 : sameB x y = false) :
    Calls Try.prog 4 #[.float .f64 x, .float .f64 y] w fun e w' => e = .returned (.bool true) ∧ Below w.heap.size w w' := by
  have HX := Lib.hid hx
  have HY := Lib.hid hy
  clear hx hy
  go_enter Try.func4, Try.ntmps4
  go_wp2_with (first | (go_at_call 15; refine (key_any _ _ (by first | exact HX.out | exact HY.out)).mono ?_; rintro e w1 ⟨rfl, rfl⟩) | (go_at_call 13; refine (awake_any _).mono ?_; rintro e w1 ⟨rfl, rfl⟩) | (go_at_call 16; refine (same_any _ _ _).mono ?_; rintro e w1 ⟨rfl, rfl⟩))
  all_goals (go_ret; exact ⟨rfl, Below.refl _ _⟩)


theorem keyF_K {x : Nat} (hx : x < 2 ^ 64) (h : isNaN x = false) : (keyF x : Int) = if x < 2 ^ 63 then K x + 2 ^ 63 else K x + 2 ^ 63 - 1 := by
  unfold keyF
  rw [bitsF_num h, K_of hx]
  split <;> omega
theorem keyF_num {x : Nat} (hx : x < 2 ^ 64) (h : isNaN x = false) : keyF x ≤ 2 ^ 63 + INF := by
  have hI := INF_val
  have hr := isNaN_false.1 h
  unfold rg at hr
  unfold keyF
  rw [bitsF_num h]
  split <;> omega
theorem keyF_nan {x : Nat} (h : isNaN x = true) : keyF x = 2 ^ 63 + QNAN := by
  unfold keyF bitsF
  rw [if_pos h, if_pos (by decide)]
  exact Nat.add_comm _ _

theorem line_any (x y : Nat) (w : World) (hx' : (Lit.float .f64 x).wf = true) (hy' : (Lit.float .f64 y).wf = true) :
    Calls Try.prog 4 #[.float .f64 x, .float .f64 y] w fun e w' => e = .returned (.bool true) ∧ Below w.heap.size w w' := by
  have hx := f64_open hx'
  have hy := f64_open hy'
  have hI := INF_val
  have hQ : QNAN = 9221120237041090560 := rfl
  cases h : isNaN x <;> cases h' : isNaN y
  · have o1 := order_lt h h'
    have o2 := order_gt h h'
    have k1 := keyF_K hx h
    have k2 := keyF_K hy h'
    have K1 := K_of hx
    have K2 := K_of hy
    rcases Int.lt_trichotomy (K x) (K y) with hk | hk | hk
    · refine line_lt x y w hx hy (o1.trans (by simpa using hk)) ?_
      rw [decide_eq_true_iff]
      by_cases a : x < 2 ^ 63 <;> by_cases b : y < 2 ^ 63 <;> simp only [a, b, if_true, if_false] at k1 k2 K1 K2 <;> omega
    · have l1 : (Ieee.double.order x y == some .lt) = false := o1.trans (by simp [hk])
      have l2 : (Ieee.double.order x y == some .gt) = false := o2.trans (by simp [hk])
      by_cases e : x = y
      · refine line_eq x y w hx hy l1 l2 (ord_self_num h) (ord_self_num h') ?_ ?_
        · rw [e]; simp
        · rw [sameB_true, e]
      · have hz : K x = 0 := by
          by_cases hz : K x = 0
          · exact hz
          · exact absurd (eq_of_K hx hy hk (Or.inl hz)) e
        refine line_ne x y w hx hy l1 l2 (ord_self_num h) (ord_self_num h') ?_ ?_
        · rw [beq_eq_false_iff_ne]
          by_cases a : x < 2 ^ 63 <;> by_cases b : y < 2 ^ 63 <;> simp only [a, b, if_true, if_false] at k1 k2 K1 K2 <;> omega
        · have : ¬ sameB x y = true := by rw [sameB_true, bitsF_num h, bitsF_num h']; exact e
          simpa using this
    · refine line_gt x y w hx hy (o1.trans (by simp; omega)) (o2.trans (by simpa using hk)) ?_
      rw [decide_eq_true_iff]
      by_cases a : x < 2 ^ 63 <;> by_cases b : y < 2 ^ 63 <;> simp only [a, b, if_true, if_false] at k1 k2 K1 K2 <;> omega
  · have n := order_nan_right (x := x) h'
    have k1 := keyF_num hx h
    have k2 := keyF_nan h'
    refine line_ny x y w hx hy ?_ ?_ (ord_self_num h) (ord_self_nan h') ?_
    · show (Ieee.double.order x y == some .lt) = false; rw [n]; rfl
    · show (Ieee.double.order x y == some .gt) = false; rw [n]; rfl
    · rw [decide_eq_true_iff]; omega
  · have n := order_nan_left (y := y) h
    have k1 := keyF_num hy h'
    have k2 := keyF_nan h
    refine line_nx x y w hx hy ?_ ?_ (ord_self_nan h) (ord_self_num h') ?_
    · show (Ieee.double.order x y == some .lt) = false; rw [n]; rfl
    · show (Ieee.double.order x y == some .gt) = false; rw [n]; rfl
    · rw [decide_eq_true_iff]; omega
  · have n := order_nan_left (y := y) h
    refine line_nn x y w hx hy ?_ ?_ (ord_self_nan h) (ord_self_nan h') ?_
    · show (Ieee.double.order x y == some .lt) = false; rw [n]; rfl
    · show (Ieee.double.order x y == some .gt) = false; rw [n]; rfl
    · rw [keyF_nan h, keyF_nan h']; simp
end Go.Proofs.Ytcmbhggicgbhnaa
