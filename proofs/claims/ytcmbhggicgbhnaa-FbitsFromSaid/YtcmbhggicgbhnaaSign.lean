/-
  FbitsSign: the walk of the law, from its callees' contracts: it returns true at every 64 bits. No condition.
-/
import Derived.Test.YtcmbhggicgbhnaaBase
namespace Go.Proofs.Ytcmbhggicgbhnaa
open Go.RowKit F64

theorem u64_open {v : Int} (h : (Lit.int .u64 v).wf = true) : ∃ n : Nat, v = n ∧ n < 2 ^ 64 := by
  have : 0 ≤ v ∧ v ≤ 18446744073709551615 := by simpa [Lit.wf, IntKind.min, IntKind.max, IntKind.signed, IntKind.bits] using h
  exact ⟨v.toNat, by omega, by omega⟩

set_option maxHeartbeats 400000 in
theorem sign_nan (n : Nat) (w : World) (h : isNaN n = true) : Calls Try.prog 3 #[.int .u64 (n : Int)] w fun e w' => e = .returned (.bool true) ∧ Below w.heap.size w w' := by
  have e : bitsF n = QNAN := by unfold bitsF; simp [h]
  have h1 := ord_self_nan (x := QNAN) (by decide +kernel)
  have h2 : clsF (negW QNAN) = 1 := by decide +kernel
  clear h
  go_enter Try.func3, Try.ntmps3
  go_wp2_with (first | (go_at_call 11; refine (from_any _ _).mono ?_; rintro e w1 ⟨rfl, rfl⟩) | (go_at_call 13; refine (awake_any _).mono ?_; rintro e w1 ⟨rfl, rfl⟩) | (go_at_call 12; refine (class_any _ _ (by decide +kernel)).mono ?_; rintro e w1 ⟨rfl, rfl⟩))
  go_ret
  exact ⟨rfl, Below.refl _ _⟩

set_option maxHeartbeats 1000000 in
theorem sign_num (n : Nat) (w : World) (hn : n < 2 ^ 64) (h : isNaN n = false) : Calls Try.prog 3 #[.int .u64 (n : Int)] w fun e w' => e = .returned (.bool true) ∧ Below w.heap.size w w' := by
  have e : bitsF n = n := bitsF_num h
  obtain ⟨hb1, hb2⟩ := clsF_bounds n
  obtain ⟨hb3, hb4⟩ := clsF_bounds (negW n)
  have ho : isNaN (opp n) = false := by rw [isNaN_opp]; exact h
  have h2 : (((bitsF (negW n) : Nat) : Int) == bits .xor .u64 (n : Int) 9223372036854775808) = true := by
    rw [negW_opp hn, xor_top hn, bitsF_num ho]; simp
  have h3 : (clsF (negW n) + clsF n == 11) = true := by rw [negW_opp hn, clsF_opp h]; rfl
  have HK : Hid (((keyF (negW n) : Nat) : Int) = bits .xor .u64 IntKind.u64.max ((keyF n : Nat) : Int)) := by
    refine Lib.hid ?_
    rw [negW_opp hn, keyF_opp hn h, not_u64 (keyF_lt hn)]
  have h1 := ord_self_num h
  have HN := Lib.hid hn
  have HM := Lib.hid (negW_lt hn)
  clear hn h ho
  go_enter Try.func3, Try.ntmps3
  go_wp2_with (first | (go_at_call 11; refine (from_any _ _).mono ?_; rintro e w1 ⟨rfl, rfl⟩) | (go_at_call 13; refine (awake_any _).mono ?_; rintro e w1 ⟨rfl, rfl⟩) | (go_at_call 12; refine (class_any _ _ (by first | exact HM.out | exact HN.out)).mono ?_; rintro e w1 ⟨rfl, rfl⟩) | (go_at_call 14; refine (bits_any _ _).mono ?_; rintro e w1 ⟨rfl, rfl⟩) | (go_at_call 15; refine (key_any _ _ (by first | exact HM.out | exact HN.out)).mono ?_; rintro e w1 ⟨rfl, rfl⟩))
  all_goals (go_ret; exact ⟨rfl, Below.refl _ _⟩)

theorem sign_any (v : Int) (w : World) (h : (Lit.int .u64 v).wf = true) : Calls Try.prog 3 #[.int .u64 v] w fun e w' => e = .returned (.bool true) ∧ Below w.heap.size w w' := by
  obtain ⟨n, rfl, hn⟩ := u64_open h
  cases hh : isNaN n
  · exact sign_num n w hn hh
  · exact sign_nan n w hh
end Go.Proofs.Ytcmbhggicgbhnaa
