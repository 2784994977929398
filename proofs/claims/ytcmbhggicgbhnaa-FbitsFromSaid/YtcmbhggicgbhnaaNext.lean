/-
  The contracts of fbits's Next and Prev: each is the plain function of 'Num'. Condition: an argument that is a float64's word.
-/
import Derived.Test.YtcmbhggicgbhnaaClass
namespace Go.Proofs.Ytcmbhggicgbhnaa
open Go.RowKit F64


set_option maxHeartbeats 400000 in
theorem next_nan (x r : Nat) (w : World) (hx : x < 2 ^ 64) (t0 : (clsF x == 1) = true) (t1 : bitsF (bitsF x) = r) :
    Calls Try.prog 17 #[.float .f64 x] w fun e w' => e = .returned (.float .f64 r) ∧ w = w' := by
  have HX := Lib.hid hx
  clear hx
  go_enter Try.func17, Try.ntmps17
  go_wp2_with (first | (go_at_call 12; refine (class_any _ _ HX.out).mono ?_; rintro e w1 ⟨rfl, rfl⟩) | (go_at_call 14; refine (bits_any _ _).mono ?_; rintro e w1 ⟨rfl, rfl⟩) | (go_at_call 11; refine (from_any _ _).mono ?_; rintro e w1 ⟨rfl, rfl⟩))
  all_goals (go_ret; exact ⟨rfl, rfl⟩)


set_option maxHeartbeats 400000 in
theorem next_inf (x r : Nat) (w : World) (hx : x < 2 ^ 64) (t0 : (clsF x == 1) = false) (t1 : (clsF x == 9) = true) (t2 : bitsF (bitsF x) = r) :
    Calls Try.prog 17 #[.float .f64 x] w fun e w' => e = .returned (.float .f64 r) ∧ w = w' := by
  have HX := Lib.hid hx
  clear hx
  go_enter Try.func17, Try.ntmps17
  go_wp2_with (first | (go_at_call 12; refine (class_any _ _ HX.out).mono ?_; rintro e w1 ⟨rfl, rfl⟩) | (go_at_call 14; refine (bits_any _ _).mono ?_; rintro e w1 ⟨rfl, rfl⟩) | (go_at_call 11; refine (from_any _ _).mono ?_; rintro e w1 ⟨rfl, rfl⟩))
  all_goals (go_ret; exact ⟨rfl, rfl⟩)


set_option maxHeartbeats 400000 in
theorem next_nz (x r : Nat) (w : World) (hx : x < 2 ^ 64) (t0 : (clsF x == 1) = false) (t1 : (clsF x == 9) = false) (t2 : (clsF x == 5) = true) (t3 : bitsF 1 = r) :
    Calls Try.prog 17 #[.float .f64 x] w fun e w' => e = .returned (.float .f64 r) ∧ w = w' := by
  have HX := Lib.hid hx
  clear hx
  go_enter Try.func17, Try.ntmps17
  go_wp2_with (first | (go_at_call 12; refine (class_any _ _ HX.out).mono ?_; rintro e w1 ⟨rfl, rfl⟩) | (go_at_call 14; refine (bits_any _ _).mono ?_; rintro e w1 ⟨rfl, rfl⟩) | (go_at_call 11; refine (from_any _ _).mono ?_; rintro e w1 ⟨rfl, rfl⟩))
  all_goals (go_ret; exact ⟨rfl, rfl⟩)


set_option maxHeartbeats 400000 in
theorem next_pz (x r : Nat) (w : World) (hx : x < 2 ^ 64) (t0 : (clsF x == 1) = false) (t1 : (clsF x == 9) = false) (t2 : (clsF x == 5) = false) (t3 : (clsF x == 6) = true) (t4 : bitsF 1 = r) :
    Calls Try.prog 17 #[.float .f64 x] w fun e w' => e = .returned (.float .f64 r) ∧ w = w' := by
  have HX := Lib.hid hx
  clear hx
  go_enter Try.func17, Try.ntmps17
  go_wp2_with (first | (go_at_call 12; refine (class_any _ _ HX.out).mono ?_; rintro e w1 ⟨rfl, rfl⟩) | (go_at_call 14; refine (bits_any _ _).mono ?_; rintro e w1 ⟨rfl, rfl⟩) | (go_at_call 11; refine (from_any _ _).mono ?_; rintro e w1 ⟨rfl, rfl⟩))
  all_goals (go_ret; exact ⟨rfl, rfl⟩)


set_option maxHeartbeats 400000 in
theorem next_neg (x r : Nat) (w : World) (hx : x < 2 ^ 64) (t0 : (clsF x == 1) = false) (t1 : (clsF x == 9) = false) (t2 : (clsF x == 5) = false) (t3 : (clsF x == 6) = false) (t4 : bitsF x = x) (t5 : (bits .and .u64 (x : Int) 9223372036854775808 != 0) = true) (t6 : IntKind.u64.wrap ((x : Int) - 1) = (r : Int)) (t7 : bitsF r = r) :
    Calls Try.prog 17 #[.float .f64 x] w fun e w' => e = .returned (.float .f64 r) ∧ w = w' := by
  have HX := Lib.hid hx
  clear hx
  go_enter Try.func17, Try.ntmps17
  go_wp2_with (first | (go_at_call 12; refine (class_any _ _ HX.out).mono ?_; rintro e w1 ⟨rfl, rfl⟩) | (go_at_call 14; refine (bits_any _ _).mono ?_; rintro e w1 ⟨rfl, rfl⟩) | (go_at_call 11; refine (from_any _ _).mono ?_; rintro e w1 ⟨rfl, rfl⟩))
  all_goals (go_ret; exact ⟨rfl, rfl⟩)


set_option maxHeartbeats 400000 in
theorem next_pos (x r : Nat) (w : World) (hx : x < 2 ^ 64) (t0 : (clsF x == 1) = false) (t1 : (clsF x == 9) = false) (t2 : (clsF x == 5) = false) (t3 : (clsF x == 6) = false) (t4 : bitsF x = x) (t5 : (bits .and .u64 (x : Int) 9223372036854775808 != 0) = false) (t6 : IntKind.u64.wrap ((x : Int) + 1) = (r : Int)) (t7 : bitsF r = r) :
    Calls Try.prog 17 #[.float .f64 x] w fun e w' => e = .returned (.float .f64 r) ∧ w = w' := by
  have HX := Lib.hid hx
  clear hx
  go_enter Try.func17, Try.ntmps17
  go_wp2_with (first | (go_at_call 12; refine (class_any _ _ HX.out).mono ?_; rintro e w1 ⟨rfl, rfl⟩) | (go_at_call 14; refine (bits_any _ _).mono ?_; rintro e w1 ⟨rfl, rfl⟩) | (go_at_call 11; refine (from_any _ _).mono ?_; rintro e w1 ⟨rfl, rfl⟩))
  all_goals (go_ret; exact ⟨rfl, rfl⟩)


theorem clsF_parts {x : Nat} (hx : x < 2 ^ 64) (h : isNaN x = false) : (x % 2 ^ 63 = 0 ∧ (clsF x = 5 ∨ clsF x = 6)) ∨ (x = INF ∧ clsF x = 9) ∨ (x = 2 ^ 63 + INF ∧ clsF x = 2) ∨
    (x % 2 ^ 63 ≠ 0 ∧ x < INF ∧ (clsF x = 7 ∨ clsF x = 8)) ∨ (x % 2 ^ 63 ≠ 0 ∧ 2 ^ 63 < x ∧ x < 2 ^ 63 + INF ∧ (clsF x = 3 ∨ clsF x = 4)) := by
  have hI := INF_val
  have hr := isNaN_false.1 h
  have cx : clsF x = if sgn x = true then 11 - magF x else magF x := by unfold clsF; rw [h]; simp
  have mx : magF x = if rg x = 0 then 6 else if rg x < 2 ^ 52 then 7 else if rg x < INF then 8 else 9 := by unfold magF; rw [h]; simp
  have hrg : rg x = x % 2 ^ 63 := by unfold rg; rfl
  have mm : (rg x = 0 ∧ magF x = 6) ∨ (rg x ≠ 0 ∧ rg x < INF ∧ (magF x = 7 ∨ magF x = 8)) ∨ (rg x = INF ∧ magF x = 9) := by
    rw [mx]
    by_cases a : rg x = 0
    · rw [if_pos a]; exact Or.inl ⟨a, rfl⟩
    · rw [if_neg a]
      by_cases b : rg x < 2 ^ 52
      · rw [if_pos b]; exact Or.inr (Or.inl ⟨a, by omega, Or.inl rfl⟩)
      · rw [if_neg b]
        by_cases c : rg x < INF
        · rw [if_pos c]; exact Or.inr (Or.inl ⟨a, c, Or.inr rfl⟩)
        · rw [if_neg c]; exact Or.inr (Or.inr ⟨by omega, rfl⟩)
  cases hs : sgn x
  · have h1 := (sgn_false hx).1 hs
    rw [hs] at cx
    simp only [Bool.false_eq_true, if_false] at cx
    rcases mm with ⟨a, b⟩ | ⟨a, b, c⟩ | ⟨a, b⟩
    · exact Or.inl ⟨by omega, by omega⟩
    · exact Or.inr (Or.inr (Or.inr (Or.inl ⟨by omega, by omega, by omega⟩)))
    · exact Or.inr (Or.inl ⟨by omega, by omega⟩)
  · have h1 := (sgn_true hx).1 hs
    rw [hs] at cx
    simp only [if_true] at cx
    rcases mm with ⟨a, b⟩ | ⟨a, b, c⟩ | ⟨a, b⟩
    · exact Or.inl ⟨by omega, by omega⟩
    · exact Or.inr (Or.inr (Or.inr (Or.inr ⟨by omega, by omega, by omega, by omega⟩)))
    · exact Or.inr (Or.inr (Or.inl ⟨by omega, by omega⟩))

theorem wrap_u64_pred {x : Nat} (h0 : 0 < x) (h : x < 2 ^ 64) : IntKind.u64.wrap ((x : Int) - 1) = ((x - 1 : Nat) : Int) := by
  rw [IntKind.wrap_u64]; omega
theorem wrap_u64_succ {x : Nat} (h : x + 1 < 2 ^ 64) : IntKind.u64.wrap ((x : Int) + 1) = ((x + 1 : Nat) : Int) := by
  rw [IntKind.wrap_u64]; omega

theorem next_any (x : Nat) (w : World) (hx : x < 2 ^ 64) : Calls Try.prog 17 #[.float .f64 x] w fun e w' => e = .returned (.float .f64 (nextF x)) ∧ w = w' := by
  have hI := INF_val
  cases h : isNaN x
  · have hb := bitsF_num h
    have hc := nextF_cases hx h
    have nn := bitsF_num (nextF_num hx h)
    rcases clsF_parts hx h with ⟨a, c | c⟩ | ⟨a, c⟩ | ⟨a, c⟩ | ⟨a, b, c⟩ | ⟨a, b, b', c⟩
    · have e : nextF x = 1 := by omega
      exact next_nz x _ w hx (by rw [c]; rfl) (by rw [c]; rfl) (by rw [c]; rfl) (by rw [e]; decide +kernel)
    · have e : nextF x = 1 := by omega
      exact next_pz x _ w hx (by rw [c]; rfl) (by rw [c]; rfl) (by rw [c]; rfl) (by rw [c]; rfl) (by rw [e]; decide +kernel)
    · have e : nextF x = INF := by omega
      exact next_inf x _ w hx (by rw [c]; rfl) (by rw [c]; rfl) (by rw [hb, hb, e]; exact a)
    · have e : nextF x = x - 1 := by omega
      exact next_neg x _ w hx (by rw [c]; rfl) (by rw [c]; rfl) (by rw [c]; rfl) (by rw [c]; rfl) hb (and_sign_t hx ((sgn_true hx).2 (by omega))) (by rw [e]; exact wrap_u64_pred (by omega) hx) nn
    · have e : nextF x = x + 1 := by omega
      exact next_pos x _ w hx (by rcases c with c | c <;> rw [c] <;> rfl) (by rcases c with c | c <;> rw [c] <;> rfl) (by rcases c with c | c <;> rw [c] <;> rfl) (by rcases c with c | c <;> rw [c] <;> rfl) hb (and_sign_f hx ((sgn_false hx).2 (by omega))) (by rw [e]; exact wrap_u64_succ (by omega)) nn
    · have e : nextF x = x - 1 := by omega
      exact next_neg x _ w hx (by rcases c with c | c <;> rw [c] <;> rfl) (by rcases c with c | c <;> rw [c] <;> rfl) (by rcases c with c | c <;> rw [c] <;> rfl) (by rcases c with c | c <;> rw [c] <;> rfl) hb (and_sign_t hx ((sgn_true hx).2 (by omega))) (by rw [e]; exact wrap_u64_pred (by omega) hx) nn
  · have e : clsF x = 1 := by unfold clsF; rw [h]; rfl
    refine next_nan x _ w hx (by rw [e]; rfl) ?_
    rw [bitsF_bitsF, nextF_nan h]; unfold bitsF; rw [h]; rfl

theorem negW_negW {x : Nat} (hx : x < 2 ^ 64) : negW (negW x) = x := by rw [negW_opp hx, negW_opp opp_lt, opp_opp hx]
theorem prevF_eq {x : Nat} (hx : x < 2 ^ 64) (h : isNaN x = false) : negW (nextF (negW x)) = prevF x := by
  rw [negW_opp hx, negW_opp (nextF_lt opp_lt)]
  unfold prevF
  rw [h]; rfl

set_option maxHeartbeats 400000 in
theorem prev_any (x : Nat) (w : World) (hx : x < 2 ^ 64) : Calls Try.prog 18 #[.float .f64 x] w fun e w' => e = .returned (.float .f64 (prevF x)) ∧ w = w' := by
  have HN := Lib.hid (negW_lt hx)
  cases h : isNaN x
  · have h1 := ord_self_num h
    have h2 := prevF_eq hx h
    clear h hx
    go_enter Try.func18, Try.ntmps18
    go_wp2_with (go_at_call 17; refine (next_any _ _ HN.out).mono ?_; rintro e w1 ⟨rfl, rfl⟩)
    go_ret
    exact ⟨rfl, rfl⟩
  · have h1 := ord_self_nan h
    have h2 : prevF x = 9221120237041090560 := by unfold prevF; rw [h]; rfl
    have h3 : bitsF 9221120237041090560 = 9221120237041090560 := by decide +kernel
    rw [h2]
    clear h hx h2
    go_enter Try.func18, Try.ntmps18
    go_wp2_with (go_at_call 11; refine (from_any _ _).mono ?_; rintro e w1 ⟨rfl, rfl⟩)
    go_ret
    exact ⟨rfl, rfl⟩
end Go.Proofs.Ytcmbhggicgbhnaa
