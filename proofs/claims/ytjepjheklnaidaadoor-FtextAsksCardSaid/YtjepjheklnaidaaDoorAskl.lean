/-
  Plain law: what the reference reads is the number whose text it is, or nothing.
-/
import Derived.Test.YtjepjheklnaidaaDoorRpw
import Derived.Test.YtjepjheklnaidaaDoorAwake
namespace Go.Proofs.YtjepjheklnaidaaDoor
open Go Go.RowKit F64
set_option maxRecDepth 100000

theorem bitsF_qnan : bitsF QNAN = QNAN := by decide +kernel
theorem fracL_lt : ∀ (j f : Nat) (l : List UInt8), j ≤ 13 → f < 2 ^ 52 → (fracL j f l).1 < 2 ^ 52
  | 0, f, l, _, h => by cases l <;> exact h
  | j + 1, f, [], _, h => h
  | j + 1, f, c :: r, hj, h => by
    rw [fracL]
    by_cases hc : 0 ≤ hexOfI c
    · rw [if_pos hc]
      refine fracL_lt j _ r (by omega) (or_step (d := (hexOfI c).toNat) (m := j) (k := 4 * (j : Int)) h (by have := hexOf_lt c; omega) (by omega) rfl).2
    · rw [if_neg hc]; exact h
theorem fr_lt (l : List UInt8) : (fr l).1 < 2 ^ 52 := by
  unfold fr
  cases l with
  | nil => decide
  | cons c r =>
    dsimp only
    split
    · exact fracL_lt 13 0 r (by omega) (by decide)
    · show 0 < 2 ^ 52
      decide
theorem rpE_cases {b : Nat} (sl : List UInt8) (nb : Bool) {f : Nat} (ng : Bool) (l : List UInt8) (hb : b < 2 ^ 64) (hf : f < 2 ^ 52) :
    rpE b sl nb f ng l = badV ∨ ∃ B, B < 2 ^ 64 ∧ rpE b sl nb f ng l = okV (bitsF B) ∧ textF (bitsF B) = sl := by
  unfold rpE
  dsimp only
  generalize (if ng = true then -((expL 0 l).1 : Int) else ((expL 0 l).1 : Int)) = e
  by_cases he : e < -1022 ∨ 1023 < e
  · rw [if_pos he]; exact Or.inl rfl
  · rw [if_neg he]
    have hB : ((b ||| (if nb = true then (e + 1023).toNat * 2 ^ 52 else 0)) ||| f) < 2 ^ 64 := by
      refine Nat.or_lt_two_pow (Nat.or_lt_two_pow hb ?_) (by omega)
      split <;> omega
    generalize ((b ||| (if nb = true then (e + 1023).toNat * 2 ^ 52 else 0)) ||| f) = B at hB ⊢
    by_cases ht : textF (bitsF B) = sl
    · rw [if_pos ht]; exact Or.inr ⟨B, hB, rfl, ht⟩
    · rw [if_neg ht]; exact Or.inl rfl
theorem rpP_lt {b : Nat} (sl : List UInt8) (nb : Bool) {f : Nat} (l : List UInt8) (hb : b < 2 ^ 64) (hf : f < 2 ^ 52) :
    rpP b sl nb f l = badV ∨ ∃ B, B < 2 ^ 64 ∧ rpP b sl nb f l = okV (bitsF B) ∧ textF (bitsF B) = sl := by
  cases l with
  | nil => exact Or.inl rfl
  | cons c r =>
    by_cases h : c = 112
    · subst h
      rw [rpP_p]; exact rpE_cases sl nb _ _ hb hf
    · rw [rpP_no _ _ _ _ _ _ h]; exact Or.inl rfl
/-- The words. -/
theorem text_inf : textF 9218868437227405312 = [105, 110, 102] := by
  rw [textF_num (by decide +kernel), show rg 9218868437227405312 = INF by decide +kernel, textAbs_inf, if_neg (by decide +kernel)]; rfl
theorem text_minf : textF 18442240474082181120 = [45, 105, 110, 102] := by
  rw [textF_num (by decide +kernel), show rg 18442240474082181120 = INF by decide +kernel, textAbs_inf, if_pos (by decide +kernel)]; rfl
theorem text_null : textF 0 = [48] := by
  rw [textF_num (by decide +kernel), show rg 0 = 0 by decide +kernel, textAbs_zero, if_neg (by decide +kernel)]; rfl
theorem text_mnull : textF 9223372036854775808 = [45, 48] := by
  rw [textF_num (by decide +kernel), show rg 9223372036854775808 = 0 by decide +kernel, textAbs_zero, if_pos (by decide +kernel)]; rfl
theorem bits_nul : bitsF 0 = 0 := by decide +kernel
theorem bits_mnull : bitsF 9223372036854775808 = 9223372036854775808 := by decide +kernel
theorem bits_inf0 : bitsF (0 ||| 9218868437227405312) = 9218868437227405312 := by decide +kernel
theorem bits_minf : bitsF (9223372036854775808 ||| 9218868437227405312) = 18442240474082181120 := by decide +kernel

/-- Whatever it is read as, it is bad or read as it is written. -/
theorem rpT_cases (b : Nat) (sl tl : List UInt8) (hb : b = 0 ∧ sl = tl ∨ b = 9223372036854775808 ∧ sl = 45 :: tl) :
    rpT b sl tl = badV ∨ ∃ B, B < 2 ^ 64 ∧ rpT b sl tl = okV (bitsF B) ∧ textF (bitsF B) = sl := by
  have hb64 : b < 2 ^ 64 := by rcases hb with ⟨h, _⟩ | ⟨h, _⟩ <;> rw [h] <;> decide
  by_cases n1 : tl = [110, 97, 110]
  · rw [rpT_nan n1]
    rcases hb with ⟨rfl, rfl⟩ | ⟨rfl, rfl⟩
    · rw [if_pos rfl]
      refine Or.inr ⟨QNAN, by decide, ?_, ?_⟩
      · rw [bitsF_qnan]
      · rw [bitsF_qnan, n1, textF_nan isNaN_qnan]
    · rw [if_neg (by decide)]; exact Or.inl rfl
  · by_cases n2 : tl = [105, 110, 102]
    · rw [rpT_inf n2]
      refine Or.inr ⟨_, Nat.or_lt_two_pow hb64 (by decide), rfl, ?_⟩
      rcases hb with ⟨rfl, rfl⟩ | ⟨rfl, rfl⟩
      · rw [bits_inf0, text_inf, n2]
      · rw [bits_minf, text_minf, n2]
    · by_cases n3 : tl = [48]
      · rw [rpT_zero n3]
        refine Or.inr ⟨_, hb64, rfl, ?_⟩
        rcases hb with ⟨rfl, rfl⟩ | ⟨rfl, rfl⟩
        · rw [bits_nul, text_null, n3]
        · rw [bits_mnull, text_mnull, n3]
      · cases h : badH tl
        · obtain ⟨c, d, r, -, -, e⟩ := rpT_num (b := b) (sl := sl) n1 n2 n3 h
          rw [e]
          exact rpP_lt sl _ _ hb64 (fr_lt _)
        · rw [rpT_bad n1 n2 n3 h]; exact Or.inl rfl
theorem rpS_cases (l : List UInt8) : rpS l = badV ∨ ∃ B, B < 2 ^ 64 ∧ rpS l = okV (bitsF B) ∧ textF (bitsF B) = l := by
  cases l with
  | nil => exact rpT_cases 0 [] [] (Or.inl ⟨rfl, rfl⟩)
  | cons c r =>
    unfold rpS
    dsimp only
    by_cases h : c = 45
    · rw [if_pos h]; exact rpT_cases _ _ _ (Or.inr ⟨rfl, by rw [h]⟩)
    · rw [if_neg h]; exact rpT_cases _ _ _ (Or.inl ⟨rfl, rfl⟩)
/-- What was written is read. -/
theorem rpE_back {b E f : Nat} (sl : List UInt8) (hb : b = 0 ∨ b = 9223372036854775808) (hE : E ≤ 2046) (hf : f < 2 ^ 52) (hx : textF (bitsF (b + E * 2 ^ 52 + f)) = sl) :
    rpE b sl (decide (E ≠ 0)) f (isM (Lib.itoa (expI E))) (if isM (Lib.itoa (expI E)) = true then (Lib.itoa (expI E)).drop 1 else Lib.itoa (expI E)) = okV (bitsF (b + E * 2 ^ 52 + f)) := by
  have hd : ∀ u, u < 100000 → expL 0 (Lib.decDigits u) = (u, []) := fun u hu => by
    have := expL_dec u [] hu
    rw [List.append_nil] at this
    rw [this]; cases u <;> rfl
  have he : expI E = if E = 0 then -1022 else (E : Int) - 1023 := by unfold expI; rfl
  have hn : (if isM (Lib.itoa (expI E)) = true then -((expL 0 (if isM (Lib.itoa (expI E)) = true then (Lib.itoa (expI E)).drop 1 else Lib.itoa (expI E))).1 : Int) else ((expL 0 (if isM (Lib.itoa (expI E)) = true then (Lib.itoa (expI E)).drop 1 else Lib.itoa (expI E))).1 : Int)) = expI E := by
    have hb : -1022 ≤ expI E ∧ expI E ≤ 1023 := by rw [he]; split <;> omega
    generalize expI E = n at hb
    by_cases h : n < 0
    · have e : Lib.itoa n = 45 :: Lib.decDigits n.natAbs := by unfold Lib.itoa; rw [if_pos h]
      have m : isM (Lib.itoa n) = true := by rw [e]; rfl
      rw [m, if_pos rfl, if_pos rfl, e]
      show -((expL 0 (Lib.decDigits n.natAbs)).1 : Int) = n
      rw [hd _ (by omega)]; dsimp only; omega
    · have e : Lib.itoa n = Lib.decDigits n.toNat := by unfold Lib.itoa; rw [if_neg h]
      have m : isM (Lib.itoa n) = false := by
        rw [e]
        have hmem := dec_mem n.toNat
        cases hl : Lib.decDigits n.toNat with
        | nil => rfl
        | cons c r =>
          have := hmem c (by rw [hl]; simp)
          show (c == 45) = false
          rw [beq_eq_false_iff_ne]
          intro e2; subst e2; have e3 : (45 : UInt8).toNat = 45 := rfl; omega
      rw [m, if_neg (by decide), if_neg (by decide), e, hd _ (by omega)]; dsimp only; omega
  unfold rpE
  rw [hn]
  dsimp only
  have hbd : -1022 ≤ expI E ∧ expI E ≤ 1023 := by rw [he]; split <;> omega
  rw [if_neg (by omega)]
  have hB : ((b ||| (if decide (E ≠ 0) = true then (expI E + 1023).toNat * 2 ^ 52 else 0)) ||| f) = b + E * 2 ^ 52 + f := by
    have e1 : (if decide (E ≠ 0) = true then (expI E + 1023).toNat * 2 ^ 52 else 0) = E * 2 ^ 52 := by
      by_cases h : E = 0
      · subst h; rfl
      · rw [if_pos (by simpa using h), he, if_neg h]; congr 1; omega
    rw [e1]
    have e2 : b ||| E * 2 ^ 52 = b + E * 2 ^ 52 := by
      rcases hb with rfl | rfl
      · simp
      · exact nat_join 63 _ _ (by decide) (by omega)
    rw [e2]
    exact nat_join 52 _ _ (by rcases hb with rfl | rfl <;> omega) hf
  rw [hB, if_pos hx]
theorem rpS_hit (x : Nat) (hx : Norm x) : rpS (textF x) = okV x := by
  cases hn : isNaN x
  · have hr := isNaN_false.1 hn
    have hI := INF_val
    have hw := word_sgn hx.lt
    obtain ⟨b, hb, hS, hb2⟩ : ∃ b, (b = 0 ∨ b = 9223372036854775808) ∧ rpS (textF x) = rpT b (textF x) (textAbs (rg x)) ∧ x = b + rg x := by
      obtain ⟨c, r, e, hc⟩ := textAbs_head (rg x)
      have hcm : isM (textAbs (rg x)) = false := by rw [e]; rcases hc with rfl | rfl | rfl <;> rfl
      cases hs : sgn x
      · rw [hs] at hw
        refine ⟨0, Or.inl rfl, ?_, by simp at hw; omega⟩
        have e2 : textF x = textAbs (rg x) := by rw [textF_num hn, hs]; rfl
        rw [e2]; exact isM_false _ hcm
      · rw [hs] at hw
        refine ⟨9223372036854775808, Or.inr rfl, ?_, by simp at hw; omega⟩
        have e2 : textF x = 45 :: textAbs (rg x) := by rw [textF_num hn, hs]; rfl
        rw [e2]; exact (isM_true _ rfl).2
    rw [hS]
    by_cases h1 : rg x = INF
    · rw [h1, rpT_inf textAbs_inf]
      have : bitsF (b ||| 9218868437227405312) = x := by
        rcases hb with rfl | rfl
        · rw [bits_inf0]; omega
        · rw [bits_minf]; omega
      rw [this]
    · by_cases h0 : rg x = 0
      · rw [h0, rpT_zero textAbs_zero]
        have : bitsF b = x := by
          rw [show b = x by omega]; exact hx.nrm
        rw [this]
      · have e1 : rg x / 2 ^ 52 ≠ 2047 := by omega
        have ht := textAbs_num h0 e1
        have hEf : rg x / 2 ^ 52 * 2 ^ 52 + rg x % 2 ^ 52 = rg x := by omega
        have hE : rg x / 2 ^ 52 ≤ 2046 := by have := rg_lt x; omega
        have hf : rg x % 2 ^ 52 < 2 ^ 52 := by omega
        generalize hEE : rg x / 2 ^ 52 = E at *
        generalize hff : rg x % 2 ^ 52 = f at *
        have hc : ∃ c, c = (if E = 0 then 48 else 49 : UInt8) ∧ headL E f = c :: (if f = 0 then [] else 46 :: hexT f) := ⟨_, rfl, by unfold headL; split <;> rfl⟩
        obtain ⟨c, hc1, hc2⟩ := hc
        have hc3 : c = 48 ∨ c = 49 := by rw [hc1]; split <;> simp
        rw [hc2, List.cons_append] at ht
        have hne := dec_ne
        have hil : 1 ≤ (Lib.itoa (expI E)).length := by
          unfold Lib.itoa
          split
          · simp
          · have := dec_ne (expI E).toNat
            cases h : Lib.decDigits (expI E).toNat with
            | nil => exact absurd h this
            | cons _ _ => simp
        have n1 : textAbs (rg x) ≠ [110, 97, 110] := by rw [ht]; intro e; injection e with a _; rcases hc3 with h | h <;> rw [h] at a <;> exact absurd a (by decide)
        have n2 : textAbs (rg x) ≠ [105, 110, 102] := by rw [ht]; intro e; injection e with a _; rcases hc3 with h | h <;> rw [h] at a <;> exact absurd a (by decide)
        have n3 : textAbs (rg x) ≠ [48] := by rw [ht]; intro e; injection e with _ a; simp at a
        have hbad : badH (textAbs (rg x)) = false := by
          rw [ht]
          unfold badH
          dsimp only
          have hlen : ¬ ((if f = 0 then [] else 46 :: hexT f) ++ 112 :: Lib.itoa (expI E)).length < 2 := by
            rw [List.length_append, List.length_cons]; omega
          rw [decide_eq_false hlen]
          rcases hc3 with rfl | rfl <;> rfl
        obtain ⟨c', d, r, g1, -, g2⟩ := rpT_num (b := b) (sl := textF x) n1 n2 n3 hbad
        rw [ht] at g1
        injection g1 with g3 g4
        subst g3
        rw [g2, ← g4]
        have hfr : fr ((if f = 0 then [] else 46 :: hexT f) ++ 112 :: Lib.itoa (expI E)) = (f, 112 :: Lib.itoa (expI E)) := by
          by_cases hf0 : f = 0
          · rw [if_pos hf0, hf0]; rfl
          · rw [if_neg hf0]
            show fracL 13 0 (hexT f ++ 112 :: Lib.itoa (expI E)) = _
            rw [hexT_trim, fracL_back 13 f 0 _ (by rw [show (16 : Nat) ^ 13 = 2 ^ 52 by decide]; exact hf) (Nat.zero_mod _), Nat.zero_add]
        rw [hfr]
        dsimp only
        rw [rpP_p]
        have hcE : (c == 49) = decide (E ≠ 0) := by
          rw [hc1]; by_cases h : E = 0
          · subst h; rfl
          · rw [if_neg h]; simp [h]
        have hxx : x = b + E * 2 ^ 52 + f := by omega
        rw [hcE]
        have := rpE_back (b := b) (E := E) (f := f) (textF x) hb hE hf (by rw [← hxx, hx.nrm])
        rw [this, ← hxx, hx.nrm]
  · obtain rfl := norm_nan hx hn
    rw [textF_nan hn]
    rfl
theorem rpS_miss (l : List UInt8) (h : ∀ x, Norm x → textF x ≠ l) : rpS l = badV := by
  rcases rpS_cases l with h1 | ⟨B, hB, _, h2⟩
  · exact h1
  · exact absurd h2 (h _ (norm_bits hB))
end Go.Proofs.YtjepjheklnaidaaDoor
