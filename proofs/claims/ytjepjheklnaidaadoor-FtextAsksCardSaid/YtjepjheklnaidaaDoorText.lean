/-
  The walk of ftext.Text.
-/
import Derived.Test.YtjepjheklnaidaaDoorTextl
namespace Go.Proofs.YtjepjheklnaidaaDoor
open Go.RowKit F64
set_option maxRecDepth 100000

theorem hexT_len (f : Nat) : (hexT f).length ≤ 13 := by
  unfold hexT Lib.trimRightB
  rw [List.length_reverse]
  have h := (List.dropWhile_sublist (fun x => x == (48 : UInt8)) (l := (hexN 13 f).reverse)).length_le
  rw [List.length_reverse, hexN_length] at h
  exact h
set_option maxHeartbeats 1000000 in
theorem text_nan (x : Nat) (w : World) (h : isNaN x = true) :
    Calls Tryd.prog 14 #[.float .f64 x] w fun e w' => e = .returned (.string ⟨#[110, 97, 110]⟩) ∧ Below w.heap.size w w' := by
  have h1 := ord_self_nan h
  have hb : bitsF x = QNAN := by unfold bitsF; simp [h]
  clear h
  go_enter Tryd.func14, Tryd.ntmps14
  go_wp2_with (go_at_call 19; refine (bits_any _ _).mono ?_; rintro e w1 ⟨rfl, rfl⟩)
  go_ret
  exact ⟨rfl, Below.refl _ _⟩


theorem itoa_any (n : Int) (h0 : -2000 ≤ n) (h1 : n ≤ 2000) (w : World) (E : Env w) :
    Calls Tryd.prog 26 #[.int .i64 n] w fun e w' => e = .returned (.string ⟨(Lib.itoa n).toArray⟩) ∧ Below w.heap.size w w' :=
  (Tryd.strconv_Itoa n (by omega) (by omega) w E.tab).mono fun e w' ⟨h, k, os, hw⟩ => ⟨h, hw ▸ below_grow w k os⟩
set_option maxHeartbeats 2000000 in
theorem text_norm (x e f : Nat) (s tp fz : Bool) (i : List UInt8) (w : World) (E : Env w) (h1 : (FloatKind.f64.format.order x x != some .eq) = false) (hb : bitsF x = x)
    (hs : ((x : Int) / 9223372036854775808 != 0) = s) (hf : bits .and .u64 (x : Int) 4503599627370495 = (f : Int)) (he : bits .and .i64 (wrap64 ((x : Int) / 4503599627370496)) 2047 = (e : Int))
    (ht : ((e : Int) == 2047) = tp) (hez : ((e : Int) == 0) = false) (hfz : ((f : Int) == 0) = fz) (hfn : ((f : Int) != 0) = !fz) (hf52 : f < 4503599627370496) (he2 : e < 2048)
    (HIT : Hid (∀ w, Env w → Calls Tryd.prog 26 #[.int .i64 ((e : Int) - 1023)] w fun e w' => e = .returned (.string ⟨i.toArray⟩) ∧ Below w.heap.size w w')) (hi1 : i.length ≤ 64) :
    Calls Tryd.prog 14 #[.float .f64 x] w fun e' w' => e' = .returned (.string ⟨((if s = true then [45] else []) ++ (if tp = true then [105, 110, 102] else if (false && fz) = true then [48] else ([49] ++ (if fz = true then [] else 46 :: hexT f)) ++ 112 :: i)).toArray⟩) ∧ Below w.heap.size w w' := by
  have hap := ba_append
  have HE := Lib.hid E
  have HF := Lib.hid hf52
  have hl := hexT_len f
  clear E hf52
  cases s <;> cases tp <;> cases fz
  all_goals
    go_enter Tryd.func14, Tryd.ntmps14
    go_wp2_with (first
      | (go_at_call 19; refine (bits_any _ _).mono ?_; rintro e w1 ⟨rfl, rfl⟩; rw [hb])
      | (go_at_call 25; refine (hex_any f (by have := HF.out; omega) _ HE.out).mono ?_; rintro e w2 ⟨rfl, hb2⟩)
      | (go_at_call 26; refine (HIT.out _ (by first | exact HE.out | exact HE.out.below hb2)).mono ?_; rintro e w3 ⟨rfl, hb3⟩))
    go_ret
    first
      | exact ⟨rfl, Below.refl _ _⟩
      | exact ⟨rfl, hb3⟩
      | exact ⟨rfl, below_trans hb2 hb3⟩
      | exact ⟨by simp, hb3⟩
      | exact ⟨by simp, below_trans hb2 hb3⟩
set_option maxHeartbeats 2000000 in
theorem text_sub (x e f : Nat) (s tp fz : Bool) (i : List UInt8) (w : World) (E : Env w) (h1 : (FloatKind.f64.format.order x x != some .eq) = false) (hb : bitsF x = x)
    (hs : ((x : Int) / 9223372036854775808 != 0) = s) (hf : bits .and .u64 (x : Int) 4503599627370495 = (f : Int)) (he : bits .and .i64 (wrap64 ((x : Int) / 4503599627370496)) 2047 = (e : Int))
    (ht : ((e : Int) == 2047) = tp) (hez : ((e : Int) == 0) = true) (hfz : ((f : Int) == 0) = fz) (hfn : ((f : Int) != 0) = !fz) (hf52 : f < 4503599627370496) (he2 : e < 2048)
    (HIT : Hid (∀ w, Env w → Calls Tryd.prog 26 #[.int .i64 (-1022)] w fun e w' => e = .returned (.string ⟨i.toArray⟩) ∧ Below w.heap.size w w')) (hi1 : i.length ≤ 64) :
    Calls Tryd.prog 14 #[.float .f64 x] w fun e' w' => e' = .returned (.string ⟨((if s = true then [45] else []) ++ (if tp = true then [105, 110, 102] else if (true && fz) = true then [48] else ([48] ++ (if fz = true then [] else 46 :: hexT f)) ++ 112 :: i)).toArray⟩) ∧ Below w.heap.size w w' := by
  have hap := ba_append
  have HE := Lib.hid E
  have HF := Lib.hid hf52
  have hl := hexT_len f
  clear E hf52
  cases s <;> cases tp <;> cases fz
  all_goals
    go_enter Tryd.func14, Tryd.ntmps14
    go_wp2_with (first
      | (go_at_call 19; refine (bits_any _ _).mono ?_; rintro e w1 ⟨rfl, rfl⟩; rw [hb])
      | (go_at_call 25; refine (hex_any f (by have := HF.out; omega) _ HE.out).mono ?_; rintro e w2 ⟨rfl, hb2⟩)
      | (go_at_call 26; refine (HIT.out _ (by first | exact HE.out | exact HE.out.below hb2)).mono ?_; rintro e w3 ⟨rfl, hb3⟩))
    go_ret
    first
      | exact ⟨rfl, Below.refl _ _⟩
      | exact ⟨rfl, hb3⟩
      | exact ⟨rfl, below_trans hb2 hb3⟩
      | exact ⟨by simp, hb3⟩
      | exact ⟨by simp, below_trans hb2 hb3⟩

theorem i64_and2047 (n : Int) : bits .and .i64 n 2047 = n % 2048 := by
  have h127 : (BitVec.ofInt 64 2047).toNat = 2 ^ 11 - 1 := by decide
  have key : (BitVec.ofInt 64 n &&& BitVec.ofInt 64 2047).toNat = (n % ((2 ^ 64 : Nat) : Int)).toNat % 2 ^ 11 := by
    rw [BitVec.toNat_and, BitVec.toNat_ofInt, h127, Nat.and_two_pow_sub_one_eq_mod]
  show IntKind.i64.wrap ((BitVec.ofInt 64 n &&& BitVec.ofInt 64 2047).toNat : Nat) = n % 2048
  rw [key, IntKind.wrap_i64]
  omega
theorem and_exp {x : Nat} (hx : x < 2 ^ 64) : bits .and .i64 (wrap64 ((x : Int) / 4503599627370496)) 2047 = ((rg x / 2 ^ 52 : Nat) : Int) := by
  have e : wrap64 ((x : Int) / 4503599627370496) = ((x / 2 ^ 52 : Nat) : Int) := by unfold wrap64; omega
  rw [e, i64_and2047]
  unfold rg; omega
theorem and_frac {x : Nat} (hx : x < 2 ^ 64) : bits .and .u64 (x : Int) 4503599627370495 = ((rg x % 2 ^ 52 : Nat) : Int) := by
  have h := u64_and_nat x 4503599627370495 (by omega) (by decide)
  have e2 : ((4503599627370495 : Nat) : Int) = 4503599627370495 := rfl
  rw [e2] at h
  rw [h, show (4503599627370495 : Nat) = 2 ^ 52 - 1 from rfl, Nat.and_two_pow_sub_one_eq_mod]
  unfold rg; omega
theorem sgn_div {x : Nat} (hx : x < 2 ^ 64) : ((x : Int) / 9223372036854775808 != 0) = sgn x := by
  cases h : sgn x
  · have := (sgn_false hx).1 h
    rw [show (x : Int) / 9223372036854775808 = 0 by omega]; rfl
  · have := (sgn_true hx).1 h
    rw [show (x : Int) / 9223372036854775808 = 1 by omega]; rfl
theorem itoa_len (n : Int) (h0 : -2000 ≤ n) (h1 : n ≤ 2000) : (Lib.itoa n).length ≤ 64 := by
  have key : ∀ u : Nat, u ≤ 2000 → (Lib.decDigits u).length ≤ 20 := by
    intro u hu
    rw [Lib.decDigits_length]
    by_cases h : 1 ≤ u
    · have := Lib.numDigits_eq u h (by omega)
      obtain ⟨h1, h2⟩ := this
      split at h1 <;> omega
    · obtain rfl : u = 0 := by omega
      rw [Lib.nDigits]; decide
  unfold Lib.itoa
  split
  · have := key n.natAbs (by omega); simp; omega
  · have := key n.toNat (by omega); omega

theorem text_any (x : Nat) (hx : x < 2 ^ 64) (w : World) (E : Env w) :
    Calls Tryd.prog 14 #[.float .f64 x] w fun e w' => e = .returned (.string ⟨(textF x).toArray⟩) ∧ Below w.heap.size w w' := by
  cases hn : isNaN x
  · have hr := isNaN_false.1 hn
    have hI := INF_val
    have h1 := ord_self_num hn
    have hb := bitsF_num hn
    have he2 : rg x / 2 ^ 52 < 2048 := by omega
    have hfB : ((((rg x % 2 ^ 52 : Nat) : Int)) != 0) = !((((rg x % 2 ^ 52 : Nat) : Int)) == 0) := rfl
    have e0 : textF x = (if sgn x = true then [45] else []) ++ textAbs (rg x) := by unfold textF; rw [hn]; rfl
    have hr63 := rg_lt x
    rw [e0]
    by_cases hez : rg x / 2 ^ 52 = 0
    · have := text_sub x (rg x / 2 ^ 52) (rg x % 2 ^ 52) (sgn x) ((((rg x / 2 ^ 52 : Nat) : Int)) == 2047) ((((rg x % 2 ^ 52 : Nat) : Int)) == 0) (Lib.itoa (-1022)) w E h1 hb (sgn_div hx) (and_frac hx) (and_exp hx) rfl (by rw [hez]; rfl) rfl hfB (by omega) he2 (Lib.hid (itoa_any (-1022) (by omega) (by omega))) (itoa_len _ (by omega) (by omega))
      refine this.mono ?_
      rintro e w' ⟨rfl, hb⟩
      refine ⟨?_, hb⟩
      congr 4
      unfold textAbs headL expI
      by_cases hf : rg x % 2 ^ 52 = 0
      · have hz : rg x = 0 := by omega
        simp [hz]
      · have hz : rg x ≠ 0 := by omega
        have hf' : ¬ ((rg x : Int) % 4503599627370496 = 0) := by omega
        simp [hez, hf, hz, hf']
    · have hz : rg x ≠ 0 := by omega
      have := text_norm x (rg x / 2 ^ 52) (rg x % 2 ^ 52) (sgn x) ((((rg x / 2 ^ 52 : Nat) : Int)) == 2047) ((((rg x % 2 ^ 52 : Nat) : Int)) == 0) (Lib.itoa (((rg x / 2 ^ 52 : Nat) : Int) - 1023)) w E h1 hb (sgn_div hx) (and_frac hx) (and_exp hx) rfl (by rw [beq_eq_false_iff_ne]; omega) rfl hfB (by omega) he2 (Lib.hid (itoa_any _ (by omega) (by omega))) (itoa_len _ (by omega) (by omega))
      refine this.mono ?_
      rintro e w' ⟨rfl, hb⟩
      refine ⟨?_, hb⟩
      congr 4
      unfold textAbs headL expI
      rw [if_neg hez, if_neg hz, if_neg hez]
      by_cases ht : rg x / 2 ^ 52 = 2047
      · rw [if_pos ht, ht]; rfl
      · rw [if_neg ht, if_neg (show ¬ ((((rg x / 2 ^ 52 : Nat) : Int)) == 2047) = true by rw [beq_iff_eq]; omega)]
        by_cases hf : rg x % 2 ^ 52 = 0
        · rw [hf]; rfl
        · rw [if_neg hf, if_neg (show ¬ (((rg x % 2 ^ 52 : Nat) : Int) == 0) = true by rw [beq_iff_eq]; omega)]; rfl
  · have e0 : textF x = [110, 97, 110] := by unfold textF; rw [hn]; rfl
    rw [e0]
    exact text_nan x w hn
end Go.Proofs.YtjepjheklnaidaaDoor
