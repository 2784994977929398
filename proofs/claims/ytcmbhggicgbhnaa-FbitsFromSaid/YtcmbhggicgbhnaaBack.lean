/-
  FbitsBack: the walk of the law, from its callees' contracts: it returns true at every 64 bits. No condition.
-/
import Derived.Test.YtcmbhggicgbhnaaCode
namespace Go.Proofs.Ytcmbhggicgbhnaa
open Go.RowKit F64


set_option maxHeartbeats 1000000 in
theorem back_nan (n : Nat) (w : World) (hx : 9221120237041090560 < 2 ^ 64) (hb : bitsF n = 9221120237041090560) (t0 : decide (9218868437227405312 < bits .andNot .u64 (n : Int) 9223372036854775808) = true) (t1 : (FloatKind.f64.format.order 9221120237041090560 9221120237041090560 != some .eq) = true) (t2 : clsF 9221120237041090560 = 1) :
    Calls Try.prog 10 #[.int .u64 (n : Int)] w fun e w' => e = .returned (.bool true) ∧ Below w.heap.size w w' := by
  have HX := Lib.hid hx
  have hbb : bitsF 9221120237041090560 = 9221120237041090560 := by rw [← hb]; exact bitsF_bitsF n
  have hS : sameB 9221120237041090560 9221120237041090560 = true := by rw [sameB_true]
  have hW : decW 9221120237041090560 = 9221120237041090560 := by unfold decW; rw [if_pos hbb]
  have hE : decE 9221120237041090560 = 0 := by unfold decE; rw [if_pos hbb]
  have HV : Hid (dv (enc 9221120237041090560) 8 = 9221120237041090560) := Lib.hid (by rw [dv_enc hx, hbb])
  clear hx
  go_enter Try.func10, Try.ntmps10
  go_wp2_with (first | (go_at_call 11; refine (from_any _ _).mono ?_; rintro e w1 ⟨rfl, rfl⟩))
  refine (encode_any _ _).mono ?_
  rintro e w1 ⟨rfl, hbl, henc, hsz⟩
  have HB := Lib.hid hbl
  have HE := Lib.hid henc
  clear hbl henc
  go_wp2_with fail
  refine (decode_any (enc 9221120237041090560) _ _ _ _ (enc_lt 9221120237041090560) HE.out).mono ?_
  rintro e w2 ⟨rfl, rfl⟩
  rw [HV.out]
  go_wp2_with (first | (go_at_call 16; refine (same_any _ _ _).mono ?_; rintro e w1 ⟨rfl, rfl⟩) | (go_at_call 14; refine (bits_any _ _).mono ?_; rintro e w1 ⟨rfl, rfl⟩) | (go_at_call 12; refine (class_any _ _ HX.out).mono ?_; rintro e w1 ⟨rfl, rfl⟩) | (go_at_call 13; refine (awake_any _).mono ?_; rintro e w1 ⟨rfl, rfl⟩))
  all_goals (go_ret; exact ⟨rfl, HB.out⟩)


set_option maxHeartbeats 1000000 in
theorem back_num (x : Nat) (w : World) (hx : x < 2 ^ 64) (hb : bitsF x = x) (t0 : decide (9218868437227405312 < bits .andNot .u64 (x : Int) 9223372036854775808) = false) (t1 : (FloatKind.f64.format.order x x == some .eq) = true) :
    Calls Try.prog 10 #[.int .u64 (x : Int)] w fun e w' => e = .returned (.bool true) ∧ Below w.heap.size w w' := by
  have HX := Lib.hid hx
  have hbb : bitsF x = x := hb
  have hS : sameB x x = true := by rw [sameB_true]
  have hW : decW x = x := by unfold decW; rw [if_pos hbb]
  have hE : decE x = 0 := by unfold decE; rw [if_pos hbb]
  have HV : Hid (dv (enc x) 8 = x) := Lib.hid (by rw [dv_enc hx, hbb])
  clear hx hb
  go_enter Try.func10, Try.ntmps10
  go_wp2_with (first | (go_at_call 11; refine (from_any _ _).mono ?_; rintro e w1 ⟨rfl, rfl⟩))
  refine (encode_any _ _).mono ?_
  rintro e w1 ⟨rfl, hbl, henc, hsz⟩
  have HB := Lib.hid hbl
  have HE := Lib.hid henc
  clear hbl henc
  go_wp2_with fail
  refine (decode_any (enc x) _ _ _ _ (enc_lt x) HE.out).mono ?_
  rintro e w2 ⟨rfl, rfl⟩
  rw [HV.out]
  go_wp2_with (first | (go_at_call 16; refine (same_any _ _ _).mono ?_; rintro e w1 ⟨rfl, rfl⟩) | (go_at_call 14; refine (bits_any _ _).mono ?_; rintro e w1 ⟨rfl, rfl⟩) | (go_at_call 12; refine (class_any _ _ HX.out).mono ?_; rintro e w1 ⟨rfl, rfl⟩) | (go_at_call 13; refine (awake_any _).mono ?_; rintro e w1 ⟨rfl, rfl⟩))
  all_goals (go_ret; exact ⟨rfl, HB.out⟩)


theorem back_any (v : Int) (w : World) (h : (Lit.int .u64 v).wf = true) : Calls Try.prog 10 #[.int .u64 v] w fun e w' => e = .returned (.bool true) ∧ Below w.heap.size w w' := by
  obtain ⟨n, rfl, hn⟩ := u64_open h
  cases hh : isNaN n
  · have e := bitsF_num hh
    exact back_num n w hn e (by rw [beyond hn, hh]) ((order_same hh hh).trans (by simp))
  · have e : bitsF n = QNAN := by unfold bitsF; rw [hh]; rfl
    exact back_nan n w (by decide) e (by rw [beyond hn, hh]) (ord_self_nan (by decide +kernel)) (by decide +kernel)
end Go.Proofs.Ytcmbhggicgbhnaa
