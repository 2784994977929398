/-
  FbitsSteps: the walk of the law, from its callees' contracts: it returns true at every 64 bits and every int. No condition.
-/
import Derived.Test.YtcmbhggicgbhnaaNear
import Derived.LoopTactic
namespace Go.Proofs.Ytcmbhggicgbhnaa
open Go.RowKit F64

def itN : Nat → Nat → Nat
  | 0, x => x
  | k + 1, x => nextF (itN k x)
def itP : Nat → Nat → Nat
  | 0, x => x
  | k + 1, x => prevF (itP k x)
theorem itN_lt {x : Nat} (h : x < 2 ^ 64) : ∀ k, itN k x < 2 ^ 64
  | 0 => h
  | k + 1 => nextF_lt (itN_lt h k)
theorem itP_lt {x : Nat} (h : x < 2 ^ 64) : ∀ k, itP k x < 2 ^ 64
  | 0 => h
  | _ + 1 => prevF_lt
theorem itN_num {x : Nat} (h : x < 2 ^ 64) (hn : isNaN x = false) : ∀ k, isNaN (itN k x) = false
  | 0 => hn
  | k + 1 => nextF_num (itN_lt h k) (itN_num h hn k)
theorem itP_num {x : Nat} (hn : isNaN x = false) : ∀ k, isNaN (itP k x) = false
  | 0 => hn
  | k + 1 => prevF_num (itP_num hn k)
theorem itN_inf {x : Nat} (h : x < 2 ^ 64) (hn : isNaN x = false) (j k : Nat) (hj : itN j x = INF) (hk : j ≤ k) : itN k x = INF := by
  induction k with
  | zero => obtain rfl : j = 0 := by omega
            exact hj
  | succ k ih =>
    by_cases e : j = k + 1
    · rw [← e]; exact hj
    · have := ih (by omega)
      have hc := nextF_cases (itN_lt h k) (itN_num h hn k)
      show nextF (itN k x) = INF
      have hI := INF_val
      omega
theorem itN_K {x : Nat} (h : x < 2 ^ 64) (hn : isNaN x = false) (n : Nat) (hf : itN n x ≠ INF) : ∀ k, k ≤ n → K (itN k x) = K x + k
  | 0, _ => by simp [itN]
  | k + 1, hk => by
    have h1 := itN_K h hn n hf k (by omega)
    have h2 := K_next (itN_lt h k) (itN_num h hn k) (fun e => hf (itN_inf h hn k n e (by omega)))
    show K (nextF (itN k x)) = _
    rw [h2, h1]; omega
theorem itP_K {y : Nat} (h : y < 2 ^ 64) (hn : isNaN y = false) (n : Nat) (hf : -(INF : Int) ≤ K y - n) : ∀ k, k ≤ n → K (itP k y) = K y - k
  | 0, _ => by simp [itP]
  | k + 1, hk => by
    have h1 := itP_K h hn n hf k (by omega)
    have h2 := K_prev (itP_lt h k) (itP_num hn k) (fun e => by
      rw [e, show K (opp INF) = -(INF : Int) from by decide +kernel] at h1; omega)
    show K (prevF (itP k y)) = _
    rw [h2, h1]; omega


set_option maxHeartbeats 1000000 in
theorem steps_nan (v x : Nat) (n : Int) (w : World) (hb : bitsF v = x) (t0 : (FloatKind.f64.format.order x x != some .eq) = true) :
    Calls Try.prog 8 #[.int .u64 (v : Int), .int .i64 n] w fun e w' => e = .returned (.bool true) ∧ Below w.heap.size w w' := by
  go_enter Try.func8, Try.ntmps8
  go_wp2_with (first | (go_at_call 11; refine (from_any _ _).mono ?_; rintro e w1 ⟨rfl, rfl⟩) | (go_at_call 13; refine (awake_any _).mono ?_; rintro e w1 ⟨rfl, rfl⟩))
  all_goals (go_ret; exact ⟨rfl, Below.refl _ _⟩)


set_option maxHeartbeats 1000000 in
theorem steps_low (v x : Nat) (n : Int) (w : World) (hb : bitsF v = x) (t0 : (FloatKind.f64.format.order x x != some .eq) = false) (t1 : n < 0) :
    Calls Try.prog 8 #[.int .u64 (v : Int), .int .i64 n] w fun e w' => e = .returned (.bool true) ∧ Below w.heap.size w w' := by
  go_enter Try.func8, Try.ntmps8
  go_wp2_with (first | (go_at_call 11; refine (from_any _ _).mono ?_; rintro e w1 ⟨rfl, rfl⟩) | (go_at_call 13; refine (awake_any _).mono ?_; rintro e w1 ⟨rfl, rfl⟩))
  all_goals (go_ret; exact ⟨rfl, Below.refl _ _⟩)


set_option maxHeartbeats 1000000 in
theorem steps_high (v x : Nat) (n : Int) (w : World) (hb : bitsF v = x) (t0 : (FloatKind.f64.format.order x x != some .eq) = false) (t1 : ¬ n < 0) (t2 : 50 < n) :
    Calls Try.prog 8 #[.int .u64 (v : Int), .int .i64 n] w fun e w' => e = .returned (.bool true) ∧ Below w.heap.size w w' := by
  go_enter Try.func8, Try.ntmps8
  go_wp2_with (first | (go_at_call 11; refine (from_any _ _).mono ?_; rintro e w1 ⟨rfl, rfl⟩) | (go_at_call 13; refine (awake_any _).mono ?_; rintro e w1 ⟨rfl, rfl⟩))
  all_goals (go_ret; exact ⟨rfl, Below.refl _ _⟩)


set_option maxHeartbeats 2000000 in
theorem steps_inf (v x n : Nat) (w : World) (hx : x < 2 ^ 64) (hb : bitsF v = x) (h1 : (FloatKind.f64.format.order x x != some .eq) = false) (hn : n ≤ 50) (t0 : ∀ w : World, (binOp .sub 23 (.float .f64 (itN n x)) (.float .f64 (itN n x))).run Try.prog w = .ok (.float .f64 (nanAt w (itN n x) (itN n x))) w.drew) (t1 : ∀ w : World, (FloatKind.f64.format.order (nanAt w (itN n x) (itN n x)) 0 != some .eq) = true) :
    Calls Try.prog 8 #[.int .u64 (v : Int), .int .i64 (n : Int)] w fun e w' => e = .returned (.bool true) ∧ Below w.heap.size w w' := by
  have HX := Lib.hid hx
  have HIT : Hid (∀ k, itN k x < 2 ^ 64) := Lib.hid (itN_lt hx)
  have HBK : Hid (∀ k, itP k (itN n x) < 2 ^ 64) := Lib.hid (itP_lt (itN_lt hx n))
  clear hx
  go_enter Try.func8, Try.ntmps8
  go_wp2_with (first | (go_at_call 11; refine (from_any _ _).mono ?_; rintro e w1 ⟨rfl, rfl⟩))
  go_loop [6, 7] (fun y i => ∃ k : Nat, k ≤ n ∧ i = .int .i64 k ∧ y = .float .f64 (itN k x)) (fun _ i => n - (intOf i).toNat)
  case atStart => exact ⟨0, by omega, rfl, rfl⟩
  case round =>
    obtain ⟨k, hk, rfl, rfl⟩ := hrel
    by_cases hlt : k < n
    · go_wp2_with (first | (go_at_call 17; refine (next_any _ _ (HIT.out _)).mono ?_; rintro e w1 ⟨rfl, rfl⟩))
      go_round
      case rel => exact ⟨k + 1, by omega, by go_num, rfl⟩
      case measure => simp [intOf]; omega
    · obtain rfl : n = k := by omega
      clear hk hlt
      go_wp2_with (first | (go_at_call 13; refine (awake_any _).mono ?_; rintro e w1 ⟨rfl, rfl⟩))
      all_goals (go_ret; exact ⟨rfl, (Below.refl _ _).drew⟩)


set_option maxHeartbeats 2000000 in
theorem steps_sgn_a (v x n : Nat) (w : World) (hx : x < 2 ^ 64) (hb : bitsF v = x) (h1 : (FloatKind.f64.format.order x x != some .eq) = false) (hn : n ≤ 50) (t0 : ∀ w : World, (binOp .sub 23 (.float .f64 (itN n x)) (.float .f64 (itN n x))).run Try.prog w = .ok (.float .f64 0) w) (t1 : (FloatKind.f64.format.order 0 0 != some .eq) = false) (t2 : (FloatKind.f64.format.order x 0 == some .lt) = true) (t3 : (FloatKind.f64.format.order (itN n x) 0 == some .lt) = false) :
    Calls Try.prog 8 #[.int .u64 (v : Int), .int .i64 (n : Int)] w fun e w' => e = .returned (.bool true) ∧ Below w.heap.size w w' := by
  have HX := Lib.hid hx
  have HIT : Hid (∀ k, itN k x < 2 ^ 64) := Lib.hid (itN_lt hx)
  have HBK : Hid (∀ k, itP k (itN n x) < 2 ^ 64) := Lib.hid (itP_lt (itN_lt hx n))
  clear hx
  go_enter Try.func8, Try.ntmps8
  go_wp2_with (first | (go_at_call 11; refine (from_any _ _).mono ?_; rintro e w1 ⟨rfl, rfl⟩))
  go_loop [6, 7] (fun y i => ∃ k : Nat, k ≤ n ∧ i = .int .i64 k ∧ y = .float .f64 (itN k x)) (fun _ i => n - (intOf i).toNat)
  case atStart => exact ⟨0, by omega, rfl, rfl⟩
  case round =>
    obtain ⟨k, hk, rfl, rfl⟩ := hrel
    by_cases hlt : k < n
    · go_wp2_with (first | (go_at_call 17; refine (next_any _ _ (HIT.out _)).mono ?_; rintro e w1 ⟨rfl, rfl⟩))
      go_round
      case rel => exact ⟨k + 1, by omega, by go_num, rfl⟩
      case measure => simp [intOf]; omega
    · obtain rfl : n = k := by omega
      clear hk hlt
      go_wp2_with (first | (go_at_call 13; refine (awake_any _).mono ?_; rintro e w1 ⟨rfl, rfl⟩))
      all_goals (go_ret; exact ⟨rfl, Below.refl _ _⟩)


set_option maxHeartbeats 2000000 in
theorem steps_sgn_b (v x n : Nat) (w : World) (hx : x < 2 ^ 64) (hb : bitsF v = x) (h1 : (FloatKind.f64.format.order x x != some .eq) = false) (hn : n ≤ 50) (t0 : ∀ w : World, (binOp .sub 23 (.float .f64 (itN n x)) (.float .f64 (itN n x))).run Try.prog w = .ok (.float .f64 0) w) (t1 : (FloatKind.f64.format.order 0 0 != some .eq) = false) (t2 : (FloatKind.f64.format.order x 0 == some .lt) = false) (t3 : (FloatKind.f64.format.order (itN n x) 0 == some .lt) = true) :
    Calls Try.prog 8 #[.int .u64 (v : Int), .int .i64 (n : Int)] w fun e w' => e = .returned (.bool true) ∧ Below w.heap.size w w' := by
  have HX := Lib.hid hx
  have HIT : Hid (∀ k, itN k x < 2 ^ 64) := Lib.hid (itN_lt hx)
  have HBK : Hid (∀ k, itP k (itN n x) < 2 ^ 64) := Lib.hid (itP_lt (itN_lt hx n))
  clear hx
  go_enter Try.func8, Try.ntmps8
  go_wp2_with (first | (go_at_call 11; refine (from_any _ _).mono ?_; rintro e w1 ⟨rfl, rfl⟩))
  go_loop [6, 7] (fun y i => ∃ k : Nat, k ≤ n ∧ i = .int .i64 k ∧ y = .float .f64 (itN k x)) (fun _ i => n - (intOf i).toNat)
  case atStart => exact ⟨0, by omega, rfl, rfl⟩
  case round =>
    obtain ⟨k, hk, rfl, rfl⟩ := hrel
    by_cases hlt : k < n
    · go_wp2_with (first | (go_at_call 17; refine (next_any _ _ (HIT.out _)).mono ?_; rintro e w1 ⟨rfl, rfl⟩))
      go_round
      case rel => exact ⟨k + 1, by omega, by go_num, rfl⟩
      case measure => simp [intOf]; omega
    · obtain rfl : n = k := by omega
      clear hk hlt
      go_wp2_with (first | (go_at_call 13; refine (awake_any _).mono ?_; rintro e w1 ⟨rfl, rfl⟩))
      all_goals (go_ret; exact ⟨rfl, Below.refl _ _⟩)


set_option maxHeartbeats 2000000 in
theorem steps_zero_t (v x n : Nat) (w : World) (hx : x < 2 ^ 64) (hb : bitsF v = x) (h1 : (FloatKind.f64.format.order x x != some .eq) = false) (hn : n ≤ 50) (t0 : ∀ w : World, (binOp .sub 23 (.float .f64 (itN n x)) (.float .f64 (itN n x))).run Try.prog w = .ok (.float .f64 0) w) (t1 : (FloatKind.f64.format.order 0 0 != some .eq) = false) (t2 : (FloatKind.f64.format.order x 0 == some .lt) = true) (t3 : (FloatKind.f64.format.order (itN n x) 0 == some .lt) = true) (t4 : (FloatKind.f64.format.order x 0 == some .eq) = true) :
    Calls Try.prog 8 #[.int .u64 (v : Int), .int .i64 (n : Int)] w fun e w' => e = .returned (.bool true) ∧ Below w.heap.size w w' := by
  have HX := Lib.hid hx
  have HIT : Hid (∀ k, itN k x < 2 ^ 64) := Lib.hid (itN_lt hx)
  have HBK : Hid (∀ k, itP k (itN n x) < 2 ^ 64) := Lib.hid (itP_lt (itN_lt hx n))
  clear hx
  go_enter Try.func8, Try.ntmps8
  go_wp2_with (first | (go_at_call 11; refine (from_any _ _).mono ?_; rintro e w1 ⟨rfl, rfl⟩))
  go_loop [6, 7] (fun y i => ∃ k : Nat, k ≤ n ∧ i = .int .i64 k ∧ y = .float .f64 (itN k x)) (fun _ i => n - (intOf i).toNat)
  case atStart => exact ⟨0, by omega, rfl, rfl⟩
  case round =>
    obtain ⟨k, hk, rfl, rfl⟩ := hrel
    by_cases hlt : k < n
    · go_wp2_with (first | (go_at_call 17; refine (next_any _ _ (HIT.out _)).mono ?_; rintro e w1 ⟨rfl, rfl⟩))
      go_round
      case rel => exact ⟨k + 1, by omega, by go_num, rfl⟩
      case measure => simp [intOf]; omega
    · obtain rfl : n = k := by omega
      clear hk hlt
      go_wp2_with (first | (go_at_call 13; refine (awake_any _).mono ?_; rintro e w1 ⟨rfl, rfl⟩))
      all_goals (go_ret; exact ⟨rfl, Below.refl _ _⟩)


set_option maxHeartbeats 2000000 in
theorem steps_zero_f (v x n : Nat) (w : World) (hx : x < 2 ^ 64) (hb : bitsF v = x) (h1 : (FloatKind.f64.format.order x x != some .eq) = false) (hn : n ≤ 50) (t0 : ∀ w : World, (binOp .sub 23 (.float .f64 (itN n x)) (.float .f64 (itN n x))).run Try.prog w = .ok (.float .f64 0) w) (t1 : (FloatKind.f64.format.order 0 0 != some .eq) = false) (t2 : (FloatKind.f64.format.order x 0 == some .lt) = false) (t3 : (FloatKind.f64.format.order (itN n x) 0 == some .lt) = false) (t4 : (FloatKind.f64.format.order x 0 == some .eq) = true) :
    Calls Try.prog 8 #[.int .u64 (v : Int), .int .i64 (n : Int)] w fun e w' => e = .returned (.bool true) ∧ Below w.heap.size w w' := by
  have HX := Lib.hid hx
  have HIT : Hid (∀ k, itN k x < 2 ^ 64) := Lib.hid (itN_lt hx)
  have HBK : Hid (∀ k, itP k (itN n x) < 2 ^ 64) := Lib.hid (itP_lt (itN_lt hx n))
  clear hx
  go_enter Try.func8, Try.ntmps8
  go_wp2_with (first | (go_at_call 11; refine (from_any _ _).mono ?_; rintro e w1 ⟨rfl, rfl⟩))
  go_loop [6, 7] (fun y i => ∃ k : Nat, k ≤ n ∧ i = .int .i64 k ∧ y = .float .f64 (itN k x)) (fun _ i => n - (intOf i).toNat)
  case atStart => exact ⟨0, by omega, rfl, rfl⟩
  case round =>
    obtain ⟨k, hk, rfl, rfl⟩ := hrel
    by_cases hlt : k < n
    · go_wp2_with (first | (go_at_call 17; refine (next_any _ _ (HIT.out _)).mono ?_; rintro e w1 ⟨rfl, rfl⟩))
      go_round
      case rel => exact ⟨k + 1, by omega, by go_num, rfl⟩
      case measure => simp [intOf]; omega
    · obtain rfl : n = k := by omega
      clear hk hlt
      go_wp2_with (first | (go_at_call 13; refine (awake_any _).mono ?_; rintro e w1 ⟨rfl, rfl⟩))
      all_goals (go_ret; exact ⟨rfl, Below.refl _ _⟩)


set_option maxHeartbeats 2000000 in
theorem steps_go_t (v x n : Nat) (w : World) (hx : x < 2 ^ 64) (hb : bitsF v = x) (h1 : (FloatKind.f64.format.order x x != some .eq) = false) (hn : n ≤ 50) (t0 : ∀ w : World, (binOp .sub 23 (.float .f64 (itN n x)) (.float .f64 (itN n x))).run Try.prog w = .ok (.float .f64 0) w) (t1 : (FloatKind.f64.format.order 0 0 != some .eq) = false) (t2 : (FloatKind.f64.format.order x 0 == some .lt) = true) (t3 : (FloatKind.f64.format.order (itN n x) 0 == some .lt) = true) (t4 : (FloatKind.f64.format.order x 0 == some .eq) = false) (t5 : IntKind.u64.wrap ((keyF x : Int) + (n : Int)) = ((keyF (itN n x) : Nat) : Int)) (t6 : sameB x (itP n (itN n x)) = true) :
    Calls Try.prog 8 #[.int .u64 (v : Int), .int .i64 (n : Int)] w fun e w' => e = .returned (.bool true) ∧ Below w.heap.size w w' := by
  have HX := Lib.hid hx
  have HIT : Hid (∀ k, itN k x < 2 ^ 64) := Lib.hid (itN_lt hx)
  have HBK : Hid (∀ k, itP k (itN n x) < 2 ^ 64) := Lib.hid (itP_lt (itN_lt hx n))
  clear hx
  go_enter Try.func8, Try.ntmps8
  go_wp2_with (first | (go_at_call 11; refine (from_any _ _).mono ?_; rintro e w1 ⟨rfl, rfl⟩))
  go_loop [6, 7] (fun y i => ∃ k : Nat, k ≤ n ∧ i = .int .i64 k ∧ y = .float .f64 (itN k x)) (fun _ i => n - (intOf i).toNat)
  case atStart => exact ⟨0, by omega, rfl, rfl⟩
  case round =>
    obtain ⟨k, hk, rfl, rfl⟩ := hrel
    by_cases hlt : k < n
    · go_wp2_with (first | (go_at_call 17; refine (next_any _ _ (HIT.out _)).mono ?_; rintro e w1 ⟨rfl, rfl⟩))
      go_round
      case rel => exact ⟨k + 1, by omega, by go_num, rfl⟩
      case measure => simp [intOf]; omega
    · obtain rfl : n = k := by omega
      clear hk hlt
      go_wp2_with (first | (go_at_call 15; refine (key_any _ _ (by first | exact HX.out | exact HIT.out _)).mono ?_; rintro e w1 ⟨rfl, rfl⟩))
      go_loop [6, 8] (fun y i => ∃ k : Nat, k ≤ n ∧ i = .int .i64 k ∧ y = .float .f64 (itP k (itN n x))) (fun _ i => n - (intOf i).toNat)
      case atStart => exact ⟨0, by omega, rfl, rfl⟩
      case round =>
        obtain ⟨k, hk, rfl, rfl⟩ := hrel
        by_cases hlt : k < n
        · go_wp2_with (first | (go_at_call 18; refine (prev_any _ _ (HBK.out _)).mono ?_; rintro e w1 ⟨rfl, rfl⟩))
          go_round
          case rel => exact ⟨k + 1, by omega, by go_num, rfl⟩
          case measure => simp [intOf]; omega
        · obtain rfl : n = k := by omega
          go_wp2_with (first | (go_at_call 16; refine (same_any _ _ _).mono ?_; rintro e w1 ⟨rfl, rfl⟩) | (go_at_call 13; refine (awake_any _).mono ?_; rintro e w1 ⟨rfl, rfl⟩))
          all_goals (go_ret; exact ⟨rfl, Below.refl _ _⟩)


set_option maxHeartbeats 2000000 in
theorem steps_go_f (v x n : Nat) (w : World) (hx : x < 2 ^ 64) (hb : bitsF v = x) (h1 : (FloatKind.f64.format.order x x != some .eq) = false) (hn : n ≤ 50) (t0 : ∀ w : World, (binOp .sub 23 (.float .f64 (itN n x)) (.float .f64 (itN n x))).run Try.prog w = .ok (.float .f64 0) w) (t1 : (FloatKind.f64.format.order 0 0 != some .eq) = false) (t2 : (FloatKind.f64.format.order x 0 == some .lt) = false) (t3 : (FloatKind.f64.format.order (itN n x) 0 == some .lt) = false) (t4 : (FloatKind.f64.format.order x 0 == some .eq) = false) (t5 : IntKind.u64.wrap ((keyF x : Int) + (n : Int)) = ((keyF (itN n x) : Nat) : Int)) (t6 : sameB x (itP n (itN n x)) = true) :
    Calls Try.prog 8 #[.int .u64 (v : Int), .int .i64 (n : Int)] w fun e w' => e = .returned (.bool true) ∧ Below w.heap.size w w' := by
  have HX := Lib.hid hx
  have HIT : Hid (∀ k, itN k x < 2 ^ 64) := Lib.hid (itN_lt hx)
  have HBK : Hid (∀ k, itP k (itN n x) < 2 ^ 64) := Lib.hid (itP_lt (itN_lt hx n))
  clear hx
  go_enter Try.func8, Try.ntmps8
  go_wp2_with (first | (go_at_call 11; refine (from_any _ _).mono ?_; rintro e w1 ⟨rfl, rfl⟩))
  go_loop [6, 7] (fun y i => ∃ k : Nat, k ≤ n ∧ i = .int .i64 k ∧ y = .float .f64 (itN k x)) (fun _ i => n - (intOf i).toNat)
  case atStart => exact ⟨0, by omega, rfl, rfl⟩
  case round =>
    obtain ⟨k, hk, rfl, rfl⟩ := hrel
    by_cases hlt : k < n
    · go_wp2_with (first | (go_at_call 17; refine (next_any _ _ (HIT.out _)).mono ?_; rintro e w1 ⟨rfl, rfl⟩))
      go_round
      case rel => exact ⟨k + 1, by omega, by go_num, rfl⟩
      case measure => simp [intOf]; omega
    · obtain rfl : n = k := by omega
      clear hk hlt
      go_wp2_with (first | (go_at_call 15; refine (key_any _ _ (by first | exact HX.out | exact HIT.out _)).mono ?_; rintro e w1 ⟨rfl, rfl⟩))
      go_loop [6, 8] (fun y i => ∃ k : Nat, k ≤ n ∧ i = .int .i64 k ∧ y = .float .f64 (itP k (itN n x))) (fun _ i => n - (intOf i).toNat)
      case atStart => exact ⟨0, by omega, rfl, rfl⟩
      case round =>
        obtain ⟨k, hk, rfl, rfl⟩ := hrel
        by_cases hlt : k < n
        · go_wp2_with (first | (go_at_call 18; refine (prev_any _ _ (HBK.out _)).mono ?_; rintro e w1 ⟨rfl, rfl⟩))
          go_round
          case rel => exact ⟨k + 1, by omega, by go_num, rfl⟩
          case measure => simp [intOf]; omega
        · obtain rfl : n = k := by omega
          go_wp2_with (first | (go_at_call 16; refine (same_any _ _ _).mono ?_; rintro e w1 ⟨rfl, rfl⟩) | (go_at_call 13; refine (awake_any _).mono ?_; rintro e w1 ⟨rfl, rfl⟩))
          all_goals (go_ret; exact ⟨rfl, Below.refl _ _⟩)


theorem steps_any (v : Int) (m : Int) (w : World) (hv : (Lit.int .u64 v).wf = true) (_ : (Lit.int .i64 m).wf = true) :
    Calls Try.prog 8 #[.int .u64 v, .int .i64 m] w fun e w' => e = .returned (.bool true) ∧ Below w.heap.size w w' := by
  obtain ⟨v, rfl, hv2⟩ := u64_open hv
  have hx := bitsF_lt hv2
  have hI := INF_val
  generalize hb : bitsF v = x at *
  cases hh : isNaN x
  · have h1 := ord_self_num hh
    by_cases m0 : m < 0
    · exact steps_low v x m w hb h1 m0
    by_cases m1 : 50 < m
    · exact steps_high v x m w hb h1 m0 m1
    obtain ⟨n, rfl⟩ := Int.eq_ofNat_of_zero_le (Int.not_lt.1 m0)
    have hn : n ≤ 50 := by omega
    have yl := itN_lt hx n
    have yn := itN_num hx hh n
    have yr := isNaN_false.1 yn
    have c0 : isNaN 0 = false := by decide +kernel
    have k0 : K 0 = 0 := by decide +kernel
    by_cases yf : rg (itN n x) < INF
    · have run : ∀ w : World, (binOp .sub 23 (.float .f64 (itN n x)) (.float .f64 (itN n x))).run Try.prog w = .ok (.float .f64 0) w := fun w => run_float_arith w .sub 23 .f64 _ _ _ (sub_self yf)
      have z0 : (FloatKind.f64.format.order 0 0 != some .eq) = false := by decide +kernel
      have lx : (FloatKind.f64.format.order x 0 == some .lt) = decide (K x < 0) := by rw [← k0]; exact order_lt hh c0
      have ly : (FloatKind.f64.format.order (itN n x) 0 == some .lt) = decide (K (itN n x) < 0) := by rw [← k0]; exact order_lt yn c0
      have ex : (FloatKind.f64.format.order x 0 == some .eq) = decide (K x = 0) := by rw [← k0]; exact order_same hh c0
      have hyI : itN n x ≠ INF := by intro e; rw [e] at yf; exact absurd yf (by decide +kernel)
      have hK := itN_K hx hh n hyI n (Nat.le_refl _)
      have Kx := K_of hx
      have Ky := K_of yl
      have rx := isNaN_false.1 hh
      have erg : ∀ a, rg a = a % 2 ^ 63 := fun a => by unfold rg; rfl
      rw [erg] at rx yf
      by_cases a : K x < 0
      · by_cases b : K (itN n x) < 0
        · have kx : keyF x = 2 ^ 64 - 1 - x := by unfold keyF; rw [bitsF_num hh, if_neg]; intro q; rw [if_pos q] at Kx; omega
          have ky : keyF (itN n x) = 2 ^ 64 - 1 - (itN n x) := by unfold keyF; rw [bitsF_num yn, if_neg]; intro q; rw [if_pos q] at Ky; omega
          have x63 : ¬ x < 2 ^ 63 := by intro q; rw [if_pos q] at Kx; omega
          have y63 : ¬ (itN n x) < 2 ^ 63 := by intro q; rw [if_pos q] at Ky; omega
          rw [if_neg x63] at Kx
          rw [if_neg y63] at Ky
          refine steps_go_t v x n w hx hb h1 hn run z0 (lx.trans (by simpa using a)) (ly.trans (by simpa using b)) (ex.trans (by simp; omega)) ?_ ?_
          · rw [IntKind.wrap_u64, kx, ky]; omega
          · have hP := itP_K yl yn n (by omega) n (Nat.le_refl _)
            rw [sameB_true]; exact congrArg bitsF (eq_of_K hx (itP_lt yl n) (y := itP n (itN n x)) (by omega) (Or.inl (by omega)))
        · exact steps_sgn_a v x n w hx hb h1 hn run z0 (lx.trans (by simpa using a)) (ly.trans (by simpa using b))
      · by_cases b : K (itN n x) < 0
        · exact steps_sgn_b v x n w hx hb h1 hn run z0 (lx.trans (by simpa using a)) (ly.trans (by simpa using b))
        · by_cases c : K x = 0
          · exact steps_zero_f v x n w hx hb h1 hn run z0 (lx.trans (by simpa using a)) (ly.trans (by simpa using b)) (ex.trans (by simpa using c))
          · have x63 : x < 2 ^ 63 := by
              by_cases q : x < 2 ^ 63
              · exact q
              · rw [if_neg q] at Kx; omega
            have y63 : (itN n x) < 2 ^ 63 := by
              by_cases q : (itN n x) < 2 ^ 63
              · exact q
              · rw [if_neg q] at Ky; omega
            have kx : keyF x = x + 2 ^ 63 := by unfold keyF; rw [bitsF_num hh, if_pos x63]
            have ky : keyF (itN n x) = (itN n x) + 2 ^ 63 := by unfold keyF; rw [bitsF_num yn, if_pos y63]
            rw [if_pos x63] at Kx
            rw [if_pos y63] at Ky
            refine steps_go_f v x n w hx hb h1 hn run z0 (lx.trans (by simpa using a)) (ly.trans (by simpa using b)) (ex.trans (by simpa using c)) ?_ ?_
            · rw [IntKind.wrap_u64, kx, ky]; omega
            · have hP := itP_K yl yn n (by omega) n (Nat.le_refl _)
              rw [sameB_true]; exact congrArg bitsF (eq_of_K hx (itP_lt yl n) (y := itP n (itN n x)) (by omega) (Or.inl c))
    · refine steps_inf v x n w hx hb h1 hn (run_sub_nan (sub_self_inf (by omega))) ?_
      intro w
      show (Ieee.double.order _ _ != _) = true
      rw [order_nan_left (nanAt_nan w _ _)]; rfl
  · exact steps_nan v x m w hb (ord_self_nan hh)
end Go.Proofs.Ytcmbhggicgbhnaa
