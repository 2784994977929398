/-
  The reference's Text: the other cases, and all together.
-/
import Derived.Test.YtjepjheklnaidaaDoorRtext
import Derived.LoopN
namespace Go.Proofs.YtjepjheklnaidaaDoor
open Go Go.RowKit F64
set_option maxRecDepth 100000

set_option maxHeartbeats 1000000 in
theorem rtext_nan (x : Nat) (w : World) (hb : bitsF x = QNAN) :
    Calls Tryd.prog 15 #[.float .f64 x] w fun e' w' => e' = .returned (.string ⟨#[110, 97, 110]⟩) ∧ w = w' := by
  have hm : bits .andNot .u64 9221120237041090560 9223372036854775808 = 9221120237041090560 := by decide +kernel
  go_enter Tryd.func15, Tryd.ntmps15
  go_wp2_with (go_at_call 21; refine (rbits_any _ _).mono ?_; rintro e w1 ⟨rfl, rfl⟩; rw [hb])
  go_ret
  exact ⟨rfl, rfl⟩
set_option maxHeartbeats 2000000 in
theorem rtext_word (x m : Nat) (s i z : Bool) (w : World) (hb : bitsF x = x) (hm : bits .andNot .u64 (x : Int) 9223372036854775808 = (m : Int)) (h1 : decide (9218868437227405312 < (m : Int)) = false)
    (h2 : (bits .and .u64 (x : Int) 9223372036854775808 != 0) = s) (h3 : ((m : Int) == 9218868437227405312) = i) (h4 : ((m : Int) == 0) = z) (hiz : (i || z) = true) :
    Calls Tryd.prog 15 #[.float .f64 x] w fun e' w' => e' = .returned (.string ⟨((if s = true then [45] else []) ++ (if i = true then [105, 110, 102] else [48]) : List UInt8).toArray⟩) ∧ w = w' := by
  have hap := ba_append
  cases s <;> cases i <;> cases z
  all_goals first | (exfalso; exact absurd hiz (by decide)) | skip
  all_goals
    clear hiz
    go_enter Tryd.func15, Tryd.ntmps15
    go_wp2_with (go_at_call 21; refine (rbits_any _ _).mono ?_; rintro e w1 ⟨rfl, rfl⟩; rw [hb])
    go_ret
    exact ⟨rfl, rfl⟩

set_option maxHeartbeats 4000000 in
theorem rtext_flat (x m e : Nat) (s ez : Bool) (w : World) (hb : bitsF x = x) (hm : bits .andNot .u64 (x : Int) 9223372036854775808 = (m : Int)) (h1 : decide (9218868437227405312 < (m : Int)) = false)
    (h2 : (bits .and .u64 (x : Int) 9223372036854775808 != 0) = s) (h3 : ((m : Int) == 9218868437227405312) = false) (h4 : ((m : Int) == 0) = false) (he : (m : Int) / 4503599627370496 = (e : Int)) (he2 : e < 2047)
    (h5 : ((e : Int) - 1023 == -1023) = ez) (hf : bits .and .u64 (m : Int) 4503599627370495 = 0) (it : List UInt8) (hil : it.length ≤ 64)
    (HIT : Hid (∀ w, Calls Tryd.prog 27 #[.int .i64 (if ez = true then -1022 else (e : Int) - 1023)] w fun e w' => e = .returned (.string ⟨it.toArray⟩) ∧ Below w.heap.size w w')) :
    Calls Tryd.prog 15 #[.float .f64 x] w fun e' w' => e' = .returned (.string ⟨((if s = true then [45] else []) ++ (if ez = true then [48] else [49]) ++ 112 :: it : List UInt8).toArray⟩) ∧ Below w.heap.size w w' := by
  have hap := ba_append
  cases s <;> cases ez
  all_goals
    simp only [Bool.false_eq_true, if_true, if_false] at HIT
    go_enter Tryd.func15, Tryd.ntmps15
    go_wp2_with (go_at_call 21; refine (rbits_any _ _).mono ?_; rintro e w1 ⟨rfl, rfl⟩; rw [hb])
    refine wp_loop_rounds 1 ?_
    rw [rounds_succ]
    go_wp2_with (go_at_call 27; refine (HIT.out _).mono ?_; rintro e w2 ⟨rfl, b2⟩)
    go_ret
    exact ⟨rfl, b2⟩

/-- The reference's text is the program's. -/
theorem rtext_any (x : Nat) (hx : x < 2 ^ 64) (w : World) :
    Calls Tryd.prog 15 #[.float .f64 x] w fun e w' => e = .returned (.string ⟨(textF x).toArray⟩) ∧ Below w.heap.size w w' := by
  have hI := INF_val
  cases hn : isNaN x
  · have hr := isNaN_false.1 hn
    have hb := bitsF_num hn
    have hm := andNot_sign hx
    have h1 : decide (9218868437227405312 < ((rg x : Nat) : Int)) = false := decide_eq_false (by omega)
    have h2 : (bits .and .u64 (x : Int) 9223372036854775808 != 0) = sgn x := by
      cases hs : sgn x
      · exact and_sign_f hx hs
      · exact and_sign_t hx hs
    rw [textF_num hn]
    by_cases hw : rg x = INF ∨ rg x = 0
    · refine (rtext_word x (rg x) (sgn x) _ _ w hb hm h1 h2 rfl rfl (by rcases hw with h | h <;> rw [h] <;> rfl)).mono fun e w' ⟨g1, g2⟩ => ⟨?_, g2 ▸ Below.refl _ _⟩
      rw [g1]
      rcases hw with h | h
      · rw [h, textAbs_inf]; rfl
      · rw [h, textAbs_zero]; rfl
    · have e1 : rg x / 2 ^ 52 ≠ 2047 := by omega
      have e0 : rg x ≠ 0 := by omega
      have h3 : (((rg x : Nat) : Int) == 9218868437227405312) = false := by rw [beq_eq_false_iff_ne]; omega
      have h4 : (((rg x : Nat) : Int) == 0) = false := by rw [beq_eq_false_iff_ne]; omega
      have he : ((rg x : Nat) : Int) / 4503599627370496 = ((rg x / 2 ^ 52 : Nat) : Int) := by omega
      have hf : bits .and .u64 ((rg x : Nat) : Int) 4503599627370495 = ((rg x % 2 ^ 52 : Nat) : Int) := by
        have := and_frac (x := rg x) (by have := rg_lt x; omega)
        rw [rg_rg] at this; exact this
      have hez : (((rg x / 2 ^ 52 : Nat) : Int) - 1023 == -1023) = decide (rg x / 2 ^ 52 = 0) := by
        by_cases h : rg x / 2 ^ 52 = 0
        · rw [h]; rfl
        · rw [decide_eq_false h, beq_eq_false_iff_ne]; omega
      have hE : (if decide (rg x / 2 ^ 52 = 0) = true then (-1022 : Int) else ((rg x / 2 ^ 52 : Nat) : Int) - 1023) = expI (rg x / 2 ^ 52) := by
        unfold expI; by_cases h : rg x / 2 ^ 52 = 0
        · simp [h]
        · rw [if_neg (by simpa using h), if_neg h]
      rw [textAbs_num e0 e1]
      by_cases hf0 : rg x % 2 ^ 52 = 0
      · refine (rtext_flat x (rg x) (rg x / 2 ^ 52) (sgn x) _ w hb hm h1 h2 h3 h4 he (by omega) hez (by rw [hf, hf0]; rfl) (Lib.itoa (expI (rg x / 2 ^ 52))) (itoa_len _ (by rw [← hE]; split <;> omega) (by rw [← hE]; split <;> omega)) (Lib.hid fun w => by rw [hE]; exact dec_any _ (by rw [← hE]; split <;> omega) (by rw [← hE]; split <;> omega) w)).mono fun e w' ⟨g1, g2⟩ => ⟨?_, g2⟩
        rw [g1]; unfold headL
        simp [hf0]
      · refine (rtext_num x (rg x) (rg x % 2 ^ 52) (rg x / 2 ^ 52) (sgn x) _ w hb hm h1 h2 h3 h4 he (by omega) hez hf (by rw [bne_iff_ne]; omega) (by omega)).mono fun e w' ⟨g1, g2⟩ => ⟨?_, g2⟩
        rw [g1, hE]; unfold headL
        simp [hf0]
  · rw [textF_nan hn]
    exact (rtext_nan x w (by unfold bitsF; rw [if_pos hn])).mono fun e w' ⟨g1, g2⟩ => ⟨g1, g2 ▸ Below.refl _ _⟩
end Go.Proofs.YtjepjheklnaidaaDoor
