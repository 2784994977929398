/-
  The contracts of Fill, of the program and of its reference, and of the float functions that they call. Conditions: a geometry that is valid ('.._yes') or not ('.._no').
-/
import Derived.Test.YtmcjlellgkjehaaBase
import Derived.Test.YtmcjlellgkjehaaNum
import Derived.Laws.FloatArith
import Derived.Laws.Externs
namespace Go.Proofs.Ytmcjlellgkjehaa
open Go.RowKit F64

theorem ord_self_nan {x : Nat} (h : isNaN x = true) : (FloatKind.f64.format.order x x != some .eq) = true := by
  show (Ieee.double.order x x != some .eq) = true
  rw [order_nan_left h]; rfl
theorem ord_self_num {x : Nat} (h : isNaN x = false) : (FloatKind.f64.format.order x x != some .eq) = false := by
  show (Ieee.double.order x x != some .eq) = false
  rw [order_eq h h, compare_same]; rfl

@[go_sem] theorem call26 (v : Int) (w : World) : (callFunc 26 #[.int .u64 v]).run Try.prog w = .ok (.value (.float .f64 v.toNat)) w :=
  (run_callFunc_extern (e := Extern.MathFloatBits.float64frombits) Try.func26 (by kernel_rfl) (by kernel_rfl) (by kernel_rfl) (by kernel_rfl) _ w).trans rfl
@[go_sem] theorem call27 (b : Nat) (w : World) : (callFunc 27 #[.float .f64 b]).run Try.prog w = .ok (.value (.int .u64 (b : Int))) w :=
  (run_callFunc_extern (e := Extern.MathFloatBits.float64bits) Try.func27 (by kernel_rfl) (by kernel_rfl) (by kernel_rfl) (by kernel_rfl) _ w).trans rfl

set_option maxHeartbeats 400000 in
theorem bits_any (x : Nat) (w : World) : Calls Try.prog 23 #[.float .f64 x] w fun e w' => e = .returned (.int .u64 (bitsF x : Nat)) ∧ w = w' := by
  cases h : isNaN x
  · have e : bitsF x = x := by unfold bitsF; simp [h]
    rw [e]
    have h1 := ord_self_num h
    clear h e
    go_enter Try.func23, Try.ntmps23
    go_wp2
    go_ret
    exact ⟨rfl, rfl⟩
  · have e : bitsF x = QNAN := by unfold bitsF; simp [h]
    rw [e]
    have h1 := ord_self_nan h
    clear h e
    go_enter Try.func23, Try.ntmps23
    go_wp2
    go_ret
    exact ⟨rfl, rfl⟩

set_option maxHeartbeats 400000 in
theorem rbits_any (x : Nat) (w : World) : Calls Try.prog 25 #[.float .f64 x] w fun e w' => e = .returned (.int .u64 (bitsF x : Nat)) ∧ w = w' := by
  cases h : isNaN x
  · have e : bitsF x = x := by unfold bitsF; simp [h]
    rw [e]
    have h1 := ord_self_num h
    clear h e
    go_enter Try.func25, Try.ntmps25
    go_wp2
    go_ret
    exact ⟨rfl, rfl⟩
  · have e : bitsF x = QNAN := by unfold bitsF; simp [h]
    rw [e]
    have h1 := ord_self_nan h
    clear h e
    go_enter Try.func25, Try.ntmps25
    go_wp2
    go_ret
    exact ⟨rfl, rfl⟩

set_option maxHeartbeats 400000 in
theorem from_any (v : Int) (w : World) : Calls Try.prog 22 #[.int .u64 v] w fun e w' => e = .returned (.float .f64 (bitsF v.toNat)) ∧ w = w' := by
  go_enter Try.func22, Try.ntmps22
  go_wp2_with (go_at_call 23; refine (bits_any _ _).mono ?_; rintro e w1 ⟨rfl, rfl⟩)
  go_ret
  exact ⟨rfl, rfl⟩

theorem beyond {n : Nat} (hn : n < 2 ^ 64) : decide (9218868437227405312 < bits .andNot .u64 (n : Int) 9223372036854775808) = isNaN n := by
  rw [andNot_sign hn]
  have h := @isNaN_iff n
  have hI := INF_val
  cases hh : isNaN n
  · rw [decide_eq_false_iff_not]
    have := isNaN_false.1 hh; omega
  · rw [decide_eq_true_iff]
    have := h.1 hh; omega

set_option maxHeartbeats 400000 in
theorem rfrom_any (n : Nat) (w : World) (hn : n < 2 ^ 64) : Calls Try.prog 24 #[.int .u64 (n : Int)] w fun e w' => e = .returned (.float .f64 (bitsF n)) ∧ w = w' := by
  have h1 := beyond hn
  clear hn
  cases h : isNaN n
  · have e : bitsF n = n := by unfold bitsF; simp [h]
    rw [e]
    rw [h] at h1
    clear h e
    go_enter Try.func24, Try.ntmps24
    go_wp2
    go_ret
    exact ⟨rfl, rfl⟩
  · have e : bitsF n = QNAN := by unfold bitsF; simp [h]
    rw [e]
    rw [h] at h1
    clear h e
    go_enter Try.func24, Try.ntmps24
    go_wp2
    go_ret
    exact ⟨rfl, rfl⟩

set_option maxHeartbeats 400000 in
theorem rsame_any (x y : Nat) (w : World) : Calls Try.prog 21 #[.float .f64 x, .float .f64 y] w fun e w' => e = .returned (.bool (sameB x y)) ∧ w = w' := by
  go_enter Try.func21, Try.ntmps21
  go_wp2_with (go_at_call 25; refine (rbits_any _ _).mono ?_; rintro e w1 ⟨rfl, rfl⟩)
  go_ret
  exact ⟨by unfold sameB; rfl, rfl⟩

/-- What a float product and a float quotient of two words are, where they are numbers. -/
theorem run_mul {x y p : Nat} (h : Ieee.double.mul x y = some p) (w : World) : (binOp .mul 36 (.float .f64 x) (.float .f64 y)).run Try.prog w = .ok (.float .f64 p) w := run_float_arith w .mul 36 .f64 x y p h
theorem run_quo {x y p : Nat} (h : Ieee.double.div x y = some p) (w : World) : (binOp .quo 36 (.float .f64 x) (.float .f64 y)).run Try.prog w = .ok (.float .f64 p) w := run_float_arith w .quo 36 .f64 x y p h


set_option maxHeartbeats 1000000 in
theorem fill_yes (u v z s : Int) (p d q : Nat) (w : World) (h : mayB z s = true) (hp : Ieee.double.mul (floatOfInt .f64 u) (floatOfInt .f64 v) = some p) (hd : Ieee.double.mul (floatOfInt .f64 z) (floatOfInt .f64 s) = some d) (hq : Ieee.double.div p d = some q) (hl : q < 2 ^ 64) :
    Calls Try.prog 19 #[.agg #[.int .i64 u, .int .i64 v], .agg #[.int .i64 z, .int .i64 s]] w fun e w' => e = .returned (.tuple #[.float .f64 (bitsF q), .int .i64 0]) ∧ Below w.heap.size w w' := by
  have m1 := run_mul hp
  have m2 := run_mul hd
  have m3 := run_quo hq
  have m4 := bitsF_bitsF q
  have H := Lib.hid h
  have HQ := Lib.hid hl
  clear h hp hd hq hl
  go_enter Try.func19, Try.ntmps19
  go_wp2_with (first | (go_at_call 9; refine (may_yes _ _ _ H.out).mono ?_; rintro e w1 ⟨rfl, hb⟩; obtain ⟨hc, hf⟩ := bcell hb; have hz : w.heap.size + 1 < w1.heap.size := by have := hb.size; simp at this; omega) | (go_at_call 23; refine (bits_any _ _).mono ?_; rintro e w1 ⟨rfl, rfl⟩) | (go_at_call 22; refine (from_any _ _).mono ?_; rintro e w1 ⟨rfl, rfl⟩))
  go_ret2
  exact ⟨rfl, (((Below.refl _ _).alloc (Nat.le_refl _) _).alloc (by simp) _).trans (hb.mono (by simp; omega))⟩

set_option maxHeartbeats 1000000 in
theorem fill_no (u v z s : Int) (w : World) (h : mayB z s = false) :
    Calls Try.prog 19 #[.agg #[.int .i64 u, .int .i64 v], .agg #[.int .i64 z, .int .i64 s]] w fun e w' => e = .returned (.tuple #[.float .f64 0, .int .i64 1]) ∧ Below w.heap.size w w' := by
  have H := Lib.hid h
  clear h
  go_enter Try.func19, Try.ntmps19
  go_wp2_with (go_at_call 9; refine (may_no _ _ _ H.out).mono ?_; rintro e w1 ⟨rfl, hb⟩; obtain ⟨hc, hf⟩ := bcell hb; have hz : w.heap.size + 1 < w1.heap.size := by have := hb.size; simp at this; omega)
  go_ret2
  exact ⟨rfl, (((Below.refl _ _).alloc (Nat.le_refl _) _).alloc (by simp) _).trans (hb.mono (by simp; omega))⟩


set_option maxHeartbeats 1000000 in
theorem rfill_yes (u v z s : Int) (p d q : Nat) (w : World) (h : mayB z s = true) (hp : Ieee.double.mul (floatOfInt .f64 u) (floatOfInt .f64 v) = some p) (hd : Ieee.double.mul (floatOfInt .f64 z) (floatOfInt .f64 s) = some d) (hq : Ieee.double.div p d = some q) (hl : q < 2 ^ 64) :
    Calls Try.prog 20 #[.agg #[.int .i64 u, .int .i64 v], .agg #[.int .i64 z, .int .i64 s]] w fun e w' => e = .returned (.tuple #[.float .f64 (bitsF q), .int .i64 0]) ∧ Below w.heap.size w w' := by
  have m1 := run_mul hp
  have m2 := run_mul hd
  have m3 := run_quo hq
  have m4 := bitsF_bitsF q
  have H := Lib.hid h
  have HQ := Lib.hid hl
  clear h hp hd hq hl
  go_enter Try.func20, Try.ntmps20
  go_wp2_with (first | (go_at_call 14; refine (rmay_yes _ _ _ H.out).mono ?_; rintro e w1 ⟨rfl, hb⟩; obtain ⟨hc, hf⟩ := bcell hb; have hz : w.heap.size + 1 < w1.heap.size := by have := hb.size; simp at this; omega) | (go_at_call 25; refine (rbits_any _ _).mono ?_; rintro e w1 ⟨rfl, rfl⟩) | (go_at_call 24; refine (rfrom_any _ _ (bitsF_lt HQ.out)).mono ?_; rintro e w1 ⟨rfl, rfl⟩))
  go_ret2
  exact ⟨rfl, (((Below.refl _ _).alloc (Nat.le_refl _) _).alloc (by simp) _).trans (hb.mono (by simp; omega))⟩

set_option maxHeartbeats 1000000 in
theorem rfill_no (u v z s : Int) (w : World) (h : mayB z s = false) :
    Calls Try.prog 20 #[.agg #[.int .i64 u, .int .i64 v], .agg #[.int .i64 z, .int .i64 s]] w fun e w' => e = .returned (.tuple #[.float .f64 0, .int .i64 1]) ∧ Below w.heap.size w w' := by
  have H := Lib.hid h
  clear h
  go_enter Try.func20, Try.ntmps20
  go_wp2_with (go_at_call 14; refine (rmay_no _ _ _ H.out).mono ?_; rintro e w1 ⟨rfl, hb⟩; obtain ⟨hc, hf⟩ := bcell hb; have hz : w.heap.size + 1 < w1.heap.size := by have := hb.size; simp at this; omega)
  go_ret2
  exact ⟨rfl, (((Below.refl _ _).alloc (Nat.le_refl _) _).alloc (by simp) _).trans (hb.mono (by simp; omega))⟩


end Go.Proofs.Ytmcjlellgkjehaa
