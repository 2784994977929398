/-
  Plain law: the whole numbers next to a number, and what a whole number is as a word. No program and no memory in it.
-/
import Derived.Test.YtjepjheklnaidaaGreatDoorNum
namespace F64
open Ieee Go

/-- What is cut off is nothing, where the number is a multiple. -/
theorem cut_exact (way : Toward) (neg : Bool) (c d : Nat) : way.cut neg (c * 2 ^ d) d = c := by
  unfold Toward.cut
  dsimp only
  have key : ∀ gap low rest : Nat, 0 < gap → c * 2 ^ d / gap = low → c * 2 ^ d % gap = rest → low = c ∧ rest = 0 →
      low + (match way with
      | .even => decide (gap < 2 * rest) || (gap == 2 * rest && low % 2 == 1)
      | .down => neg && rest != 0
      | .up => !neg && rest != 0
      | .zero => false : Bool).toNat = c := by
    intro gap low rest hg _ _ ⟨h1, h2⟩
    subst h2
    have e1 : decide (gap < 2 * 0) = false := by rw [decide_eq_false_iff_not]; omega
    have e2 : (gap == 2 * 0) = false := by rw [beq_eq_false_iff_ne]; omega
    cases way
    · dsimp only; rw [e1, e2]; simpa using h1
    · dsimp only; simpa using h1
    · dsimp only; simpa using h1
    · dsimp only; simpa using h1
  refine key _ _ _ ?_ rfl rfl ?_
  · rw [Nat.shiftLeft_eq, Nat.one_mul]; exact Nat.two_pow_pos _
  · by_cases h : d ≤ (c * 2 ^ d).log2 + 2
    · rw [Nat.min_eq_left h, Nat.shiftLeft_eq, Nat.one_mul]
      exact ⟨Nat.mul_div_cancel _ (Nat.two_pow_pos _), Nat.mul_mod_left _ _⟩
    · have hc : c = 0 := by
        rcases Nat.eq_zero_or_pos c with h0 | h0
        · exact h0
        · exfalso
          have h2 : c * 2 ^ d < 2 ^ ((c * 2 ^ d).log2 + 1) := Nat.lt_log2_self
          have h3 : 2 ^ ((c * 2 ^ d).log2 + 1) ≤ 2 ^ d := Nat.pow_le_pow_right (by omega) (by omega)
          have h4 : 2 ^ d ≤ c * 2 ^ d := Nat.le_mul_of_pos_left _ h0
          omega
      subst hc
      simp
theorem cut_most (way : Toward) (neg : Bool) (n d : Nat) (hd : 0 < d) : way.cut neg n d ≤ n / 2 + 1 := by
  unfold Toward.cut
  dsimp only
  have hg : 2 ≤ 1 <<< min d (n.log2 + 2) := by
    rw [Nat.shiftLeft_eq, Nat.one_mul]
    exact Nat.pow_le_pow_right (n := 2) (by omega) (show 1 ≤ min d (n.log2 + 2) by omega)
  have h1 : n / (1 <<< min d (n.log2 + 2)) ≤ n / 2 := Nat.div_le_div_left hg (by omega)
  have h2 : ∀ b : Bool, b.toNat ≤ 1 := by decide
  exact Nat.add_le_add h1 (h2 _)
/-- To the nearest: not farther than a half. -/
theorem cut_half (neg : Bool) (n d : Nat) : 2 * (Toward.even.cut neg n d * 2 ^ d) ≤ 2 * n + 2 ^ d ∧ 2 * n ≤ 2 * (Toward.even.cut neg n d * 2 ^ d) + 2 ^ d := by
  unfold Toward.cut
  dsimp only
  by_cases h : d ≤ n.log2 + 2
  · rw [Nat.min_eq_left h, Nat.shiftLeft_eq, Nat.one_mul]
    have hp := Nat.two_pow_pos d
    have h1 := Nat.div_add_mod n (2 ^ d)
    have h2 := Nat.mod_lt n hp
    generalize 2 ^ d = g at *
    generalize n / g = low at *
    generalize n % g = rest at *
    have e : low * g = g * low := Nat.mul_comm _ _
    cases hb : (decide (g < 2 * rest) || (g == 2 * rest && low % 2 == 1))
    · rw [Bool.or_eq_false_iff, decide_eq_false_iff_not] at hb
      show 2 * ((low + 0) * g) ≤ _ ∧ _ ≤ 2 * ((low + 0) * g) + g
      rw [Nat.add_zero, e]; omega
    · have : g ≤ 2 * rest := by
        rw [Bool.or_eq_true, decide_eq_true_eq, Bool.and_eq_true, beq_iff_eq] at hb
        omega
      show 2 * ((low + 1) * g) ≤ _ ∧ _ ≤ 2 * ((low + 1) * g) + g
      rw [Nat.add_mul, e]; omega
  · have h0 := cut_ge neg n d 0 (by omega)
    have hn : n < 2 ^ (n.log2 + 1) := Nat.lt_log2_self
    have e : 2 ^ (n.log2 + 2) = 2 ^ (n.log2 + 1) * 2 := Nat.pow_succ ..
    have h3 : 2 ^ (n.log2 + 2) ≤ 2 ^ d := Nat.pow_le_pow_right (by omega) (by omega)
    rw [Nat.min_eq_right (by omega), Nat.shiftLeft_eq, Nat.one_mul, Nat.div_eq_of_lt (by omega), Nat.mod_eq_of_lt (by omega)]
    have e1 : decide (2 ^ (n.log2 + 2) < 2 * n) = false := by rw [decide_eq_false_iff_not]; omega
    have e2 : (2 ^ (n.log2 + 2) == 2 * n) = false := by rw [beq_eq_false_iff_ne]; omega
    rw [e1, e2]
    simp; omega

/-- The whole number next to a number, in a way. -/
def wholeF (way : Toward) (x : Nat) : Nat := double.write ((double.read x).integral way)

/-- A finite word whose value is the whole number c, but for the sign. -/
structure Whole (x c : Nat) : Prop where
  fin : rg x < INF
  val : ∀ k, k = 1074 → V (rg x) = c * 2 ^ k

theorem ex_lt {r : Nat} (h : r < INF) : ex r ≤ 2045 := by have hI := INF_val; unfold ex; split <;> omega

/-- The parts of a whole number. -/
theorem Whole.parts {x c : Nat} (h : Whole x c) : (1074 ≤ ex (rg x) ∧ c = mg (rg x) * 2 ^ (ex (rg x) - 1074)) ∨ (ex (rg x) < 1074 ∧ mg (rg x) = c * 2 ^ (1074 - ex (rg x))) := by
  have gen : ∀ k, k = 1074 → (k ≤ ex (rg x) ∧ c = mg (rg x) * 2 ^ (ex (rg x) - k)) ∨ (ex (rg x) < k ∧ mg (rg x) = c * 2 ^ (k - ex (rg x))) := by
    intro k hk
    have hv := h.val k hk
    rw [V_parts] at hv
    generalize mg (rg x) = m at *
    generalize ex (rg x) = e at *
    rcases Nat.lt_or_ge e k with hl | hg
    · right
      refine ⟨hl, ?_⟩
      obtain ⟨j, rfl⟩ : ∃ j, k = e + j := ⟨k - e, by omega⟩
      rw [Nat.add_sub_cancel_left]
      rw [Nat.pow_add, ← Nat.mul_assoc, Nat.mul_right_comm] at hv
      exact Nat.eq_of_mul_eq_mul_right (Nat.two_pow_pos e) hv
    · left
      refine ⟨hg, ?_⟩
      obtain ⟨j, rfl⟩ : ∃ j, e = k + j := ⟨e - k, by omega⟩
      rw [Nat.add_sub_cancel_left]
      rw [Nat.pow_add, ← Nat.mul_assoc, Nat.mul_right_comm] at hv
      exact (Nat.eq_of_mul_eq_mul_right (Nat.two_pow_pos k) hv).symm
  exact gen 1074 rfl
/-- What the machine makes of a whole number. -/
theorem Whole.cut {x c : Nat} (h : Whole x c) (way : Toward) : (double.read x).integral way = .number (sgn x) c 0 := by
  rw [read_finite h.fin]
  unfold Datum.integral
  dsimp only
  rcases h.parts with ⟨h1, h2⟩ | ⟨h1, h2⟩
  · have e1 : (-1074 + (ex (rg x) : Int)).toNat = ex (rg x) - 1074 := by omega
    have e2 : (-(-1074 + (ex (rg x) : Int))).toNat = 0 := by omega
    rw [e1, e2, Nat.shiftLeft_eq, ← h2]
    have := cut_exact way (sgn x) c 0
    rw [Nat.pow_zero, Nat.mul_one] at this
    rw [this]
  · have e1 : (-1074 + (ex (rg x) : Int)).toNat = 0 := by omega
    have e2 : (-(-1074 + (ex (rg x) : Int))).toNat = 1074 - ex (rg x) := by omega
    rw [e1, e2, Nat.shiftLeft_eq, Nat.pow_zero, Nat.mul_one, h2, cut_exact]
/-- The word of a whole number. -/
theorem Whole.write {x c : Nat} (h : Whole x c) (s : Bool) : double.nearest s c 0 = double.word s (rg x) := by
  by_cases h0 : c = 0
  · subst h0
    have hz : rg x = 0 := by
      have gen : ∀ k, k = 1074 → V (rg x) = 0 := fun k hk => by rw [h.val k hk, Nat.zero_mul]
      have := gen _ rfl
      rcases Nat.eq_zero_or_pos (rg x) with hh | hh
      · exact hh
      · have := V_pos (show rg x ≠ 0 by omega); omega
    rw [hz]; unfold Format.nearest; simp
  · rw [nearest_eq _ _ _ h0]
    have gen : ∀ k, k = 1074 → N c 0 = rg x := fun k hk => N_exact h0 (r := rg x) (a := 0) (b := k) (Nat.le_of_lt h.fin) (by omega) (by rw [h.val k hk, Nat.pow_zero, Nat.mul_one])
    rw [gen 1074 rfl]
theorem Whole.fix {x c : Nat} (h : Whole x c) (hx : x < 2 ^ 64) (way : Toward) : wholeF way x = x := by
  unfold wholeF
  rw [h.cut]
  show double.nearest _ _ _ = _
  rw [h.write, word_of hx]
theorem Whole.toInt {x c : Nat} (h : Whole x c) (way : Toward) : (double.read x).toInt way = some (if sgn x = true then -(c : Int) else (c : Int)) := by
  unfold Datum.toInt
  rw [h.cut]
  show some (signed (sgn x) c 0) = _
  unfold signed
  simp
/-- What stands next to a finite number is whole, of its sign, and (to the nearest) not farther than a half. -/
theorem whole_next {x : Nat} (hx : rg x < INF) (way : Toward) : ∃ c R, wholeF way x = double.word (sgn x) R ∧ R < INF ∧ Whole (double.word (sgn x) R) c ∧
    (way = .even → ∀ k, k = 1073 → V R ≤ V (rg x) + 2 ^ k ∧ V (rg x) ≤ V R + 2 ^ k) := by
  have hI := INF_val
  have hm := mg_lt (rg x)
  have hex := ex_lt hx
  by_cases hl : 1074 ≤ ex (rg x)
  · have hW : Whole x (mg (rg x) * 2 ^ (ex (rg x) - 1074)) := ⟨hx, fun k hk => by rw [V_parts, Nat.mul_assoc, ← Nat.pow_add, hk, Nat.sub_add_cancel hl]⟩
    refine ⟨_, rg x, ?_, hx, ⟨by rw [rg_word (by omega)]; exact hx, fun k hk => by rw [rg_word (by omega)]; exact hW.val k hk⟩, fun _ k _ => ⟨Nat.le_add_right _ _, Nat.le_add_right _ _⟩⟩
    unfold wholeF
    rw [hW.cut]
    show double.nearest _ _ _ = _
    rw [hW.write]
  · have e1 : (-1074 + (ex (rg x) : Int)).toNat = 0 := by omega
    have e2 : (-(-1074 + (ex (rg x) : Int))).toNat = 1074 - ex (rg x) := by omega
    have hw : wholeF way x = double.nearest (sgn x) (way.cut (sgn x) (mg (rg x)) (1074 - ex (rg x))) 0 := by
      unfold wholeF
      rw [read_finite hx]
      unfold Datum.integral
      dsimp only
      rw [e1, e2, Nat.shiftLeft_eq, Nat.pow_zero, Nat.mul_one]
      rfl
    have hc1 := cut_most way (sgn x) (mg (rg x)) (1074 - ex (rg x)) (by omega)
    have hh : way = .even → 2 * (way.cut (sgn x) (mg (rg x)) (1074 - ex (rg x)) * 2 ^ (1074 - ex (rg x))) ≤ 2 * mg (rg x) + 2 ^ (1074 - ex (rg x)) ∧ 2 * mg (rg x) ≤ 2 * (way.cut (sgn x) (mg (rg x)) (1074 - ex (rg x)) * 2 ^ (1074 - ex (rg x))) + 2 ^ (1074 - ex (rg x)) := fun hwy => by rw [hwy]; exact cut_half (sgn x) (mg (rg x)) (1074 - ex (rg x))
    have hVx := V_parts (rg x)
    generalize way.cut (sgn x) (mg (rg x)) (1074 - ex (rg x)) = c at *
    have scaled : ∀ R, (∀ k, k = 1074 → V R = c * 2 ^ k) → way = .even → ∀ k, k = 1073 → V R ≤ V (rg x) + 2 ^ k ∧ V (rg x) ≤ V R + 2 ^ k := by
      intro R hR hwy k hk
      obtain ⟨g1, g2⟩ := hh hwy
      have hV := hR (k + 1) (by omega)
      have hp : (1074 - ex (rg x)) + ex (rg x) = k + 1 := by omega
      have eR : V R = c * 2 ^ (1074 - ex (rg x)) * 2 ^ ex (rg x) := by rw [hV, ← hp, Nat.pow_add, Nat.mul_assoc]
      have ek : 2 ^ (1074 - ex (rg x)) * 2 ^ ex (rg x) = 2 * 2 ^ k := by rw [← Nat.pow_add, hp, Nat.pow_succ]; omega
      have m1 := Nat.mul_le_mul_right (2 ^ ex (rg x)) g1
      have m2 := Nat.mul_le_mul_right (2 ^ ex (rg x)) g2
      rw [Nat.add_mul, ek] at m1 m2
      have a1 : 2 * (c * 2 ^ (1074 - ex (rg x))) * 2 ^ ex (rg x) = 2 * V R := by rw [eR, Nat.mul_assoc]
      have a2 : 2 * mg (rg x) * 2 ^ ex (rg x) = 2 * V (rg x) := by rw [hVx, Nat.mul_assoc]
      rw [a1, a2] at m1 m2
      omega
    by_cases h0 : c = 0
    · subst h0
      refine ⟨0, 0, ?_, by omega, ⟨by rw [rg_word (by omega)]; omega, fun k _ => by rw [rg_word (by omega), V_zero, Nat.zero_mul]⟩, scaled 0 (fun k _ => by rw [V_zero, Nat.zero_mul])⟩
      rw [hw]; unfold Format.nearest; simp
    · have hgen : ∃ R, (∀ k, k = 1074 → V R = c * 2 ^ k) ∧ R < INF ∧ ∀ s, double.nearest s c 0 = double.word s R := by
        obtain ⟨R, v, _, r2, n⟩ := int_word h0 (show c < 2 ^ 53 by omega)
        exact ⟨R, fun k hk => by rw [hk]; exact v, by omega, n⟩
      obtain ⟨R, hR, hlt, hn⟩ := hgen
      exact ⟨c, R, by rw [hw, hn], hlt, ⟨by rw [rg_word (by omega)]; exact hlt, fun k hk => by rw [rg_word (by omega)]; exact hR k hk⟩, scaled R hR⟩

end F64

namespace F64
open Ieee Go

/-- The rung of 2^53, and of a half. -/
abbrev BIG : Nat := 4845873199050653696
abbrev HALF : Nat := 4602678819172646912
theorem V_big : ∀ k, k = 1074 → V BIG = 2 ^ 53 * 2 ^ k := by
  have e : ∀ k, k = 1074 → BIG = powRung (53 + k) := fun k hk => by rw [hk]; decide
  intro k hk
  rw [e k hk, V_powRung, Nat.pow_add]
theorem V_half : ∀ k, k = 1073 → V HALF = 2 ^ k := by
  have e : ∀ k, k = 1073 → HALF = powRung k := fun k hk => by rw [hk]; decide
  intro k hk
  rw [e k hk, V_powRung]

theorem int_whole {c : Nat} (hc : c ≤ 2 ^ 53) : ∃ R, R < INF ∧ (∀ k, k = 1074 → V R = c * 2 ^ k) ∧ ∀ s, double.nearest s c 0 = double.word s R := by
  have hI := INF_val
  by_cases h0 : c = 0
  · subst h0
    exact ⟨0, by omega, fun k _ => by rw [V_zero, Nat.zero_mul], fun s => by unfold Format.nearest; simp⟩
  · rcases Nat.lt_or_eq_of_le hc with h | h
    · obtain ⟨R, v, _, r2, n⟩ := int_word h0 h
      exact ⟨R, by omega, fun k hk => by rw [hk]; exact v, n⟩
    · subst h
      refine ⟨BIG, by decide, V_big, fun s => ?_⟩
      rw [nearest_eq _ _ _ h0]
      have gen : ∀ k, k = 1074 → N (2 ^ 53) 0 = BIG := fun k hk => N_exact h0 (r := BIG) (a := 0) (b := k) (by decide) (by omega) (by rw [V_big k hk, Nat.pow_zero, Nat.mul_one])
      rw [gen 1074 rfl]
theorem float_whole {n : Int} (h : n.natAbs ≤ 2 ^ 53) : Whole (floatOfInt .f64 n) n.natAbs ∧ sgn (floatOfInt .f64 n) = decide (n < 0) ∧ floatOfInt .f64 n < 2 ^ 64 := by
  have hI := INF_val
  obtain ⟨R, h1, h2, h3⟩ := int_whole h
  have e : floatOfInt .f64 n = double.word (decide (n < 0)) R := h3 (decide (n < 0))
  rw [e]
  refine ⟨⟨by rw [rg_word (by omega)]; exact h1, fun k hk => by rw [rg_word (by omega)]; exact h2 k hk⟩, sgn_word (by omega), ?_⟩
  rw [word_eq]; split <;> omega
theorem Whole.num {x c : Nat} (h : Whole x c) : isNaN x = false := isNaN_false.2 (Nat.le_of_lt h.fin)
theorem K_word (s : Bool) {r : Nat} (h : r ≤ INF) : K (double.word s r) = if s = true then -(r : Int) else (r : Int) := by
  unfold K; rw [sgn_word h, rg_word h]
theorem K_rg (x : Nat) : K x = if sgn x = true then -(rg x : Int) else (rg x : Int) := by unfold K; rfl
theorem Whole.small {x c : Nat} (h : Whole x c) : c ≤ 2 ^ 53 ↔ rg x ≤ BIG := by
  have gen : ∀ k, k = 1074 → (c ≤ 2 ^ 53 ↔ rg x ≤ BIG) := fun k hk => by
    rw [← V_le_iff (r := rg x) (s := BIG), h.val k hk, V_big k hk]
    exact ⟨fun hh => Nat.mul_le_mul_right _ hh, fun hh => Nat.le_of_mul_le_mul_right hh (Nat.two_pow_pos k)⟩
  exact gen 1074 rfl
/-- The difference of a number and the whole number next to it. -/
theorem sub_next {x R : Nat} (hx : rg x < INF) (hR : R < INF) (h : ∀ k, k = 1073 → V R ≤ V (rg x) + 2 ^ k ∧ V (rg x) ≤ V R + 2 ^ k) :
    ∃ d, double.sub (double.word (sgn x) R) x = some d ∧ isNaN d = false ∧ rg d ≤ HALF := by
  have hI := INF_val
  rw [sub_eq_add]
  have hRg : rg (double.word (sgn x) R) = R := rg_word (by omega)
  have hS : Sv (double.word (sgn x) R) + Sv (opp x) = if sgn x = true then (V (rg x) : Int) - (V R : Int) else (V R : Int) - (V (rg x) : Int) := by
    rw [Sv_opp]
    unfold Sv
    rw [hRg, sgn_word (by omega)]
    split <;> omega
  rcases add_finite (x := double.word (sgn x) R) (y := opp x) (by rw [hRg]; exact hR) (by rw [rg_opp]; exact hx) with ⟨_, e⟩ | ⟨_, R', e, hr⟩
  · refine ⟨_, e, isNaN_word (by omega), ?_⟩
    rw [rg_word (by omega)]; omega
  · refine ⟨_, e, isNaN_word hr.top, ?_⟩
    rw [rg_word hr.top]
    refine hr.le HALF ?_
    rw [Nat.pow_zero, Nat.mul_one]
    have gen : ∀ k, k = 1073 → (Sv (double.word (sgn x) R) + Sv (opp x)).natAbs ≤ V HALF := fun k hk => by
      obtain ⟨g1, g2⟩ := h k hk
      rw [hS, V_half k hk]
      split <;> omega
    exact gen 1073 rfl
theorem sub_self {x : Nat} (hx : rg x < INF) : double.sub x x = some 0 := by
  rw [sub_eq_add]
  have hS : Sv x + Sv (opp x) = 0 := by rw [Sv_opp]; omega
  rcases add_finite (x := x) (y := opp x) hx (by rw [rg_opp]; exact hx) with ⟨_, e⟩ | ⟨hne, _⟩
  · rw [e, sgn_opp]; cases sgn x <;> rfl
  · exact absurd hS hne
theorem div_zero (s : Bool) : double.div ONE (double.word s 0) = some (double.word s INF) := by cases s <;> decide +kernel
/-- The sign of one divided by a finite number. -/
theorem div_sign {x : Nat} (hx : rg x < INF) (hx64 : x < 2 ^ 64) : ∃ q, double.div ONE x = some q ∧ isNaN q = false ∧ (double.order q 0 == some .lt) = sgn x := by
  have hI := INF_val
  have key : ∀ R, 1 ≤ R → R ≤ INF → (double.order (double.word (sgn x) R) 0 == some .lt) = sgn x := by
    intro R h1 h2
    rw [order_lt (isNaN_word h2) (by decide +kernel), K_word _ h2, show K 0 = 0 by decide +kernel]
    cases sgn x
    · rw [decide_eq_false_iff_not]; simp
    · rw [decide_eq_true_iff]; simp; omega
  by_cases h0 : rg x = 0
  · refine ⟨double.word (sgn x) INF, ?_, isNaN_word (Nat.le_refl _), key INF (by decide) (Nat.le_refl _)⟩
    have := word_of hx64
    rw [h0] at this
    conv => lhs; rw [← this]
    rw [div_zero]
  · obtain ⟨R, e, h1, h2⟩ := div_one hx h0
    exact ⟨_, e, isNaN_word h2, key R h1 h2⟩
end F64

