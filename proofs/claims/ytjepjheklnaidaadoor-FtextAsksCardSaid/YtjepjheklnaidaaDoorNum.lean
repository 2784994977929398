/-
  The plain theory of double-precision words that the laws of this seat lean on: the words' order is their signed rungs' order; what a sum, a half, a quotient round to; the next word. No program and no memory in it. No condition beyond each lemma's own.
-/
import Derived.Laws.FloatBits
import Derived.Laws.BitsAllLaws
import Derived.Laws.Cover2
namespace F64
open Ieee

/-- The magnitude of a rung in units of the least positive number. -/
def V (r : Nat) : Nat := if r < 2 ^ 52 then r else (2 ^ 52 + r % 2 ^ 52) * 2 ^ (r / 2 ^ 52 - 1)

theorem V_small {r : Nat} (h : r < 2 ^ 53) : V r = r := by
  unfold V
  split
  · rfl
  · have : r / 2 ^ 52 - 1 = 0 := by omega
    rw [this]; omega

theorem V_lower {r : Nat} (h : 2 ^ 52 ≤ r) : 2 ^ 52 * 2 ^ (r / 2 ^ 52 - 1) ≤ V r := by
  unfold V
  rw [if_neg (by omega)]
  exact Nat.mul_le_mul_right _ (by omega)

theorem V_upper {r : Nat} (h : 2 ^ 52 ≤ r) : V r < 2 ^ 52 * 2 ^ (r / 2 ^ 52) := by
  unfold V
  rw [if_neg (by omega)]
  have e : r / 2 ^ 52 = (r / 2 ^ 52 - 1) + 1 := by omega
  have e2 : 2 ^ (r / 2 ^ 52) = 2 ^ (r / 2 ^ 52 - 1) * 2 := by rw [e, Nat.pow_succ]; simp
  rw [e2, ← Nat.mul_assoc, Nat.mul_right_comm]
  exact Nat.mul_lt_mul_of_pos_right (by omega) (Nat.two_pow_pos _)

theorem V_lt {r s : Nat} (h : r < s) : V r < V s := by
  by_cases hs : s < 2 ^ 52
  · simp only [V, if_pos hs, if_pos (show r < 2 ^ 52 by omega)]; exact h
  · have h1 := V_lower (r := s) (by omega)
    by_cases hr : r < 2 ^ 52
    · have : V r = r := V_small (by omega)
      have : 1 ≤ 2 ^ (s / 2 ^ 52 - 1) := Nat.two_pow_pos _
      have : 2 ^ 52 * 1 ≤ 2 ^ 52 * 2 ^ (s / 2 ^ 52 - 1) := Nat.mul_le_mul_left _ this
      omega
    · by_cases hq : r / 2 ^ 52 = s / 2 ^ 52
      · simp only [V, if_neg hs, if_neg hr, hq]
        exact Nat.mul_lt_mul_of_pos_right (by omega) (Nat.two_pow_pos _)
      · have h2 := V_upper (r := r) (by omega)
        have : 2 ^ (r / 2 ^ 52) ≤ 2 ^ (s / 2 ^ 52 - 1) := Nat.pow_le_pow_right (by omega) (by omega)
        have := Nat.mul_le_mul_left (2 ^ 52) this
        omega

theorem V_le {r s : Nat} (h : r ≤ s) : V r ≤ V s := by
  rcases Nat.lt_or_eq_of_le h with h | h
  · exact Nat.le_of_lt (V_lt h)
  · rw [h]; exact Nat.le_refl _

theorem V_lt_iff {r s : Nat} : V r < V s ↔ r < s := by
  constructor
  · intro h; by_cases h' : r < s
    · exact h'
    · have := V_le (Nat.le_of_not_lt h'); omega
  · exact V_lt

theorem V_le_iff {r s : Nat} : V r ≤ V s ↔ r ≤ s := by
  have := @V_lt_iff s r
  omega

/-- A rung over its binade's grid. -/
theorem V_grid (k c : Nat) (h1 : k = 0 ∨ 2 ^ 52 ≤ c) (h2 : c ≤ 2 ^ 53) : V (k * 2 ^ 52 + c) = c * 2 ^ k := by
  by_cases hk : k = 0
  · subst hk
    simp only [Nat.zero_mul, Nat.zero_add, Nat.pow_zero, Nat.mul_one]
    by_cases hc : c < 2 ^ 53
    · exact V_small hc
    · have : c = 2 ^ 53 := by omega
      subst this
      decide
  · have hc : 2 ^ 52 ≤ c := by omega
    unfold V
    rw [if_neg (by omega)]
    by_cases he : c = 2 ^ 53
    · subst he
      have e1 : (k * 2 ^ 52 + 2 ^ 53) % 2 ^ 52 = 0 := by omega
      have e2 : (k * 2 ^ 52 + 2 ^ 53) / 2 ^ 52 - 1 = k + 1 := by omega
      rw [e1, e2, Nat.add_zero, show (2 : Nat) ^ (k + 1) = 2 * 2 ^ k from by rw [Nat.pow_succ]; omega, ← Nat.mul_assoc]
    · have e1 : (k * 2 ^ 52 + c) % 2 ^ 52 = c - 2 ^ 52 := by omega
      have e2 : (k * 2 ^ 52 + c) / 2 ^ 52 - 1 = k := by omega
      rw [e1, e2, show 2 ^ 52 + (c - 2 ^ 52) = c from by omega]

/-- A rung from a binade on is a multiple of the binade's unit. -/
theorem V_multiple {r k : Nat} (h : k = 0 ∨ k + 1 ≤ r / 2 ^ 52) : ∃ c, V r = c * 2 ^ k := by
  rcases h with h | h
  · subst h; exact ⟨V r, by simp⟩
  · unfold V
    rw [if_neg (by omega)]
    refine ⟨(2 ^ 52 + r % 2 ^ 52) * 2 ^ (r / 2 ^ 52 - 1 - k), ?_⟩
    rw [Nat.mul_assoc, ← Nat.pow_add]
    congr 2
    omega

/-- The cut to the nearest: no whole number lies between. -/
theorem cut_ge (neg : Bool) (n drop c : Nat) (h : c * 2 ^ drop ≤ n) : c ≤ Toward.even.cut neg n drop := by
  unfold Toward.cut
  dsimp only
  by_cases hd : drop ≤ n.log2 + 2
  · rw [Nat.min_eq_left hd, Nat.shiftLeft_eq, Nat.one_mul]
    have : c ≤ n / 2 ^ drop := (Nat.le_div_iff_mul_le (Nat.two_pow_pos _)).2 h
    omega
  · have : c = 0 := by
      rcases Nat.eq_zero_or_pos c with h0 | h0
      · exact h0
      · exfalso
        have h1 : 2 ^ drop ≤ n := Nat.le_trans (Nat.le_mul_of_pos_left _ h0) h
        have h2 : n < 2 ^ (n.log2 + 1) := Nat.lt_log2_self
        have h3 : 2 ^ (n.log2 + 1) ≤ 2 ^ drop := Nat.pow_le_pow_right (by omega) (by omega)
        omega
    subst this
    exact Nat.zero_le _

theorem toNat_le_one (b : Bool) : b.toNat ≤ 1 := by cases b <;> decide

theorem cut_le (neg : Bool) (n drop c : Nat) (h : n ≤ c * 2 ^ drop) : Toward.even.cut neg n drop ≤ c := by
  unfold Toward.cut
  dsimp only
  by_cases hd : drop ≤ n.log2 + 2
  · rw [Nat.min_eq_left hd, Nat.shiftLeft_eq, Nat.one_mul]
    have hp : 0 < 2 ^ drop := Nat.two_pow_pos _
    have h1 : n / 2 ^ drop ≤ c := by
      have := Nat.div_le_div_right (c := 2 ^ drop) h
      rwa [Nat.mul_div_cancel _ hp] at this
    rcases Nat.lt_or_eq_of_le h1 with h2 | h2
    · have := toNat_le_one (decide (2 ^ drop < 2 * (n % 2 ^ drop)) || 2 ^ drop == 2 * (n % 2 ^ drop) && n / 2 ^ drop % 2 == 1)
      omega
    · have h3 : n % 2 ^ drop = 0 := by
        have := Nat.div_add_mod n (2 ^ drop)
        rw [h2, Nat.mul_comm] at this
        omega
      rw [h3, h2]
      have e1 : decide (2 ^ drop < 2 * 0) = false := by simp
      have e2 : (2 ^ drop == 2 * 0) = false := by rw [beq_eq_false_iff_ne]; omega
      rw [e1, e2]; simp
  · rcases Nat.eq_zero_or_pos n with h0 | h0
    · subst h0
      simp
    · rw [Nat.min_eq_right (by omega), Nat.shiftLeft_eq, Nat.one_mul]
      have h2 : n < 2 ^ (n.log2 + 1) := Nat.lt_log2_self
      have e : 2 ^ (n.log2 + 2) = 2 ^ (n.log2 + 1) * 2 := Nat.pow_succ ..
      rw [Nat.div_eq_of_lt (by omega), Nat.mod_eq_of_lt (by omega)]
      have e1 : decide (2 ^ (n.log2 + 2) < 2 * n) = false := by rw [decide_eq_false_iff_not]; omega
      have e2 : (2 ^ (n.log2 + 2) == 2 * n) = false := by rw [beq_eq_false_iff_ne]; omega
      rw [e1, e2]; simp

/-- The rung of infinity. -/
abbrev INF : Nat := 2047 * 2 ^ 52

theorem infRung_eq : double.infRung = INF := by decide
theorem binade_eq : double.binade = 2 ^ 52 := rfl
theorem signWeight_eq : double.signWeight = 2 ^ 63 := by decide
theorem leastPlace_eq : double.leastPlace = -1074 := by decide

/-- The place of the last digit kept, from the least place on. -/
def unitOf (mag : Nat) (place : Int) : Nat := (max (place + mag.log2 - 52) (-1074) + 1074).toNat
def keptOf (mag : Nat) (place : Int) : Nat :=
  Toward.even.cut false (mag <<< (place - (max (place + mag.log2 - 52) (-1074))).toNat) ((max (place + mag.log2 - 52) (-1074)) - place).toNat

/-- The rung nearest to a number. -/
def N (mag : Nat) (place : Int) : Nat := min (unitOf mag place * 2 ^ 52 + keptOf mag place) INF

theorem cut_neg (neg : Bool) (n drop : Nat) : Toward.even.cut neg n drop = Toward.even.cut false n drop := rfl

theorem nearest_eq (neg : Bool) (mag : Nat) (place : Int) (h : mag ≠ 0) : double.nearest neg mag place = double.word neg (N mag place) := by
  unfold Format.nearest
  rw [if_neg h]
  dsimp only
  rw [infRung_eq, leastPlace_eq, binade_eq, cut_neg]
  show double.word neg (min ((max (place + mag.log2 - 52) (-1074) - -1074).toNat * 2 ^ 52 + keptOf mag place) INF) = _
  rw [Int.sub_neg]
  rfl

theorem pow_scale {x y a b D A k : Nat} (hk : b + D = a + A + k) (h : x * 2 ^ k * 2 ^ a ≤ y * 2 ^ b) : x * 2 ^ D ≤ y * 2 ^ A := by
  refine Nat.le_of_mul_le_mul_right (c := 2 ^ (a + k)) ?_ (Nat.two_pow_pos _)
  have h2 := Nat.mul_le_mul_right (2 ^ D) h
  have e1 : x * 2 ^ k * 2 ^ a * 2 ^ D = x * 2 ^ D * 2 ^ (a + k) := by
    rw [Nat.pow_add]; simp only [Nat.mul_assoc, Nat.mul_comm, Nat.mul_left_comm]
  have e2 : y * 2 ^ b * 2 ^ D = y * 2 ^ A * 2 ^ (a + k) := by
    rw [Nat.mul_assoc, Nat.mul_assoc, ← Nat.pow_add, ← Nat.pow_add, hk]; congr 2; omega
  rw [e1, e2] at h2
  exact h2

theorem pow_scale' {x y a b D A k : Nat} (hk : b + D = a + A + k) (h : y * 2 ^ b ≤ x * 2 ^ k * 2 ^ a) : y * 2 ^ A ≤ x * 2 ^ D := by
  refine Nat.le_of_mul_le_mul_right (c := 2 ^ (a + k)) ?_ (Nat.two_pow_pos _)
  have h2 := Nat.mul_le_mul_right (2 ^ D) h
  have e1 : x * 2 ^ k * 2 ^ a * 2 ^ D = x * 2 ^ D * 2 ^ (a + k) := by
    rw [Nat.pow_add]; simp only [Nat.mul_assoc, Nat.mul_comm, Nat.mul_left_comm]
  have e2 : y * 2 ^ b * 2 ^ D = y * 2 ^ A * 2 ^ (a + k) := by
    rw [Nat.mul_assoc, Nat.mul_assoc, ← Nat.pow_add, ← Nat.pow_add, hk]; congr 2; omega
  rw [e1, e2] at h2
  exact h2

theorem pow_back {x y a b D A k : Nat} (hk : b + D = a + A + k) (h : x * 2 ^ D ≤ y * 2 ^ A) : x * 2 ^ k * 2 ^ a ≤ y * 2 ^ b := by
  refine Nat.le_of_mul_le_mul_right (c := 2 ^ D) ?_ (Nat.two_pow_pos _)
  have h2 := Nat.mul_le_mul_right (2 ^ (a + k)) h
  have e1 : x * 2 ^ k * 2 ^ a * 2 ^ D = x * 2 ^ D * 2 ^ (a + k) := by
    rw [Nat.pow_add]; simp only [Nat.mul_assoc, Nat.mul_comm, Nat.mul_left_comm]
  have e2 : y * 2 ^ b * 2 ^ D = y * 2 ^ A * 2 ^ (a + k) := by
    rw [Nat.mul_assoc, Nat.mul_assoc, ← Nat.pow_add, ← Nat.pow_add, hk]; congr 2; omega
  rw [e1, e2]
  exact h2

section
variable (mag : Nat) (place : Int)

theorem kept_bounds (h : mag ≠ 0) : (unitOf mag place = 0 ∨ 2 ^ 52 ≤ keptOf mag place) ∧ keptOf mag place ≤ 2 ^ 53 ∧ (0 < unitOf mag place → 2 ^ 52 * 2 ^ ((max (place + mag.log2 - 52) (-1074)) - place).toNat ≤ mag * 2 ^ (place - (max (place + mag.log2 - 52) (-1074))).toNat) := by
  have l1 : 2 ^ mag.log2 ≤ mag := Nat.log2_self_le h
  have l2 : mag < 2 ^ (mag.log2 + 1) := Nat.lt_log2_self
  unfold unitOf keptOf
  generalize hL : mag.log2 = L at *
  generalize hla : max (place + (L : Int) - 52) (-1074) = la at *
  have hlow : place + L - 52 ≤ la ∧ -1074 ≤ la ∧ (la = place + L - 52 ∨ la = -1074) := by omega
  generalize hA : (place - la).toNat = A at *
  generalize hD : (la - place).toNat = D at *
  have up : mag * 2 ^ A ≤ 2 ^ 53 * 2 ^ D := by
    have e : L + 1 + A ≤ 53 + D := by omega
    have := Nat.mul_le_mul_right (2 ^ A) (Nat.le_of_lt l2)
    rw [← Nat.pow_add] at this
    have h3 : (2 : Nat) ^ (L + 1 + A) ≤ 2 ^ (53 + D) := Nat.pow_le_pow_right (by omega) e
    rw [Nat.pow_add 2 53 D] at h3
    exact Nat.le_trans this h3
  have low : 0 < (la + 1074).toNat → 2 ^ 52 * 2 ^ D ≤ mag * 2 ^ A := by
    intro hk
    have e : L + A = 52 + D := by omega
    have := Nat.mul_le_mul_right (2 ^ A) l1
    rw [← Nat.pow_add, e, Nat.pow_add] at this
    exact this
  refine ⟨?_, ?_, low⟩
  · by_cases hk : (la + 1074).toNat = 0
    · exact Or.inl hk
    · refine Or.inr (cut_ge _ _ _ _ ?_)
      rw [Nat.shiftLeft_eq]
      exact low (by omega)
  · refine cut_le _ _ _ _ ?_
    rw [Nat.shiftLeft_eq]
    exact up

theorem V_unclamped (h : mag ≠ 0) : V (unitOf mag place * 2 ^ 52 + keptOf mag place) = keptOf mag place * 2 ^ unitOf mag place :=
  V_grid _ _ (kept_bounds mag place h).1 (kept_bounds mag place h).2.1

/-- Rounding keeps the order: a rung whose value is not above the number is not above its rung. -/
theorem N_ge (h : mag ≠ 0) {r a b : Nat} (hr : r ≤ INF) (hab : (b : Int) = a + place + 1074) (hv : V r * 2 ^ a ≤ mag * 2 ^ b) : r ≤ N mag place := by
  by_cases hc : r ≤ N mag place
  · exact hc
  exfalso
  have hR : unitOf mag place * 2 ^ 52 + keptOf mag place < r := by unfold N at hc; omega
  have kb := kept_bounds mag place h
  have hV := V_unclamped mag place h
  obtain ⟨c, hcv⟩ := V_multiple (r := r) (k := unitOf mag place) (by rcases kb.1 with k0 | k1; exact Or.inl k0; right; omega)
  have h1 := V_lt hR
  rw [hV, hcv] at h1
  have h2 : keptOf mag place < c := Nat.lt_of_mul_lt_mul_right h1
  rw [hcv] at hv
  have h3 : c ≤ keptOf mag place := by
    refine cut_ge _ _ _ _ ?_
    rw [Nat.shiftLeft_eq]
    refine pow_scale ?_ hv
    unfold unitOf
    omega
  omega

theorem N_le (h : mag ≠ 0) {r a b : Nat} (hab : (b : Int) = a + place + 1074) (hv : mag * 2 ^ b ≤ V r * 2 ^ a) : N mag place ≤ r := by
  by_cases hc : N mag place ≤ r
  · exact hc
  exfalso
  have hR : r < unitOf mag place * 2 ^ 52 + keptOf mag place := by unfold N at hc; omega
  have kb := kept_bounds mag place h
  have hV := V_unclamped mag place h
  have hk : b + ((max (place + mag.log2 - 52) (-1074)) - place).toNat = a + (place - (max (place + mag.log2 - 52) (-1074))).toNat + unitOf mag place := by
    unfold unitOf; omega
  by_cases hg : unitOf mag place = 0 ∨ 2 ^ 52 < keptOf mag place
  · have hV1 := V_grid (unitOf mag place) (keptOf mag place - 1) (by omega) (by omega)
    have h1 : V r ≤ (keptOf mag place - 1) * 2 ^ unitOf mag place := by
      rw [← hV1]; exact V_le (by omega)
    have h2 : mag * 2 ^ b ≤ (keptOf mag place - 1) * 2 ^ unitOf mag place * 2 ^ a := Nat.le_trans hv (Nat.mul_le_mul_right _ h1)
    have h3 : keptOf mag place ≤ keptOf mag place - 1 := by
      refine cut_le _ _ _ _ ?_
      rw [Nat.shiftLeft_eq]
      exact pow_scale' hk h2
    omega
  · have h0 : 0 < unitOf mag place := by omega
    have hkept : keptOf mag place = 2 ^ 52 := by omega
    have h1 := pow_back hk (kb.2.2 h0)
    rw [hkept] at hV
    rw [← hV] at h1
    have h2 := Nat.le_of_mul_le_mul_right (Nat.le_trans h1 hv) (Nat.two_pow_pos _)
    have h3 := V_le_iff.1 h2
    rw [hkept] at hR
    omega
end

/-- A number that the format has is itself. -/
theorem N_exact {mag : Nat} {place : Int} (h : mag ≠ 0) {r a b : Nat} (hr : r ≤ INF) (hab : (b : Int) = a + place + 1074) (hv : V r * 2 ^ a = mag * 2 ^ b) : N mag place = r := by
  have h1 := N_ge mag place h hr hab (Nat.le_of_eq hv)
  have h2 := N_le mag place h hab (Nat.le_of_eq hv.symm)
  omega


/-- A word's sign, its rung, and its place among the numbers. -/
def sgn (w : Nat) : Bool := w / 2 ^ 63 % 2 == 1
def rg (w : Nat) : Nat := w % 2 ^ 63
def isNaN (w : Nat) : Bool := decide (INF < rg w)
def isInf (w : Nat) : Bool := decide (rg w = INF)
def K (w : Nat) : Int := if sgn w = true then -(rg w : Int) else (rg w : Int)

def mg (r : Nat) : Nat := if r < 2 ^ 52 then r else 2 ^ 52 + r % 2 ^ 52
def ex (r : Nat) : Nat := if r < 2 ^ 52 then 0 else r / 2 ^ 52 - 1

theorem V_parts (r : Nat) : V r = mg r * 2 ^ ex r := by
  unfold V mg ex
  split <;> simp

theorem read_finite {w : Nat} (h : rg w < INF) : double.read w = .number (sgn w) (mg (rg w)) (-1074 + (ex (rg w) : Int)) := by
  unfold Format.read
  dsimp only
  rw [signWeight_eq, infRung_eq, binade_eq, leastPlace_eq]
  show (if rg w < 2 ^ 52 then _ else _) = _
  unfold mg ex
  by_cases h1 : rg w < 2 ^ 52
  · rw [if_pos h1, if_pos h1, if_pos h1]; simp [rg, sgn]
  · rw [if_neg h1, if_neg h1, if_neg h1]
    show (if rg w < INF then _ else _) = _
    rw [if_pos h]; rfl

theorem INF_val : INF = 9218868437227405312 := rfl

theorem read_inf {w : Nat} (h : rg w = INF) : double.read w = .infinity (sgn w) := by
  have hI := INF_val
  unfold Format.read
  dsimp only
  rw [signWeight_eq, infRung_eq, binade_eq, leastPlace_eq]
  show (if rg w < 2 ^ 52 then _ else if rg w < INF then _ else if rg w = INF then _ else _) = _
  rw [if_neg (by omega), if_neg (by omega), if_pos h]; rfl

theorem read_nan {w : Nat} (h : INF < rg w) : double.read w = .nan (sgn w) (rg w - INF) := by
  have hI := INF_val
  unfold Format.read
  dsimp only
  rw [signWeight_eq, infRung_eq, binade_eq, leastPlace_eq]
  show (if rg w < 2 ^ 52 then _ else if rg w < INF then _ else if rg w = INF then _ else _) = _
  rw [if_neg (by omega), if_neg (by omega), if_neg (by omega)]; rfl

theorem isNaN_iff {w : Nat} : isNaN w = true ↔ INF < rg w := by unfold isNaN; simp
theorem isNaN_false {w : Nat} : isNaN w = false ↔ rg w ≤ INF := by unfold isNaN; simp

/-- The exact value in units of the least positive number. -/
def Sv (w : Nat) : Int := if sgn w = true then -(V (rg w) : Int) else (V (rg w) : Int)

theorem compare_of {a b c d : Int} (h1 : a < b ↔ c < d) (h2 : a = b ↔ c = d) : compare a b = compare c d := by
  show compareOfLessAndEq a b = compareOfLessAndEq c d
  unfold compareOfLessAndEq
  by_cases e1 : a < b
  · rw [if_pos e1, if_pos (h1.1 e1)]
  · rw [if_neg e1, if_neg (fun h => e1 (h1.2 h))]
    by_cases e2 : a = b
    · rw [if_pos e2, if_pos (h2.1 e2)]
    · rw [if_neg e2, if_neg (fun h => e2 (h2.2 h))]

theorem compare_mul {a b : Int} {n : Nat} : compare (a * (2 ^ n : Nat)) (b * (2 ^ n : Nat)) = compare a b := by
  have hp : (0 : Int) < (2 ^ n : Nat) := by exact_mod_cast Nat.two_pow_pos n
  refine compare_of ⟨fun h => Int.lt_of_mul_lt_mul_right h (Int.le_of_lt hp), fun h => Int.mul_lt_mul_of_pos_right h hp⟩ ⟨fun h => ?_, fun h => by rw [h]⟩
  exact Int.eq_of_mul_eq_mul_right (by omega) h

theorem signed_mul (s : Bool) (m u n : Nat) : signed s m u * (2 ^ n : Nat) = signed s m (u + n) := by
  unfold signed
  rw [Nat.shiftLeft_eq, Nat.shiftLeft_eq, Nat.pow_add, ← Nat.mul_assoc]
  split
  · rw [Int.neg_mul, ← Int.natCast_mul]
  · rw [← Int.natCast_mul]

theorem Sv_signed (w : Nat) : Sv w = signed (sgn w) (mg (rg w)) (ex (rg w)) := by
  unfold Sv signed
  rw [Nat.shiftLeft_eq, V_parts]

theorem compare_S (x y : Nat) : compare (Sv x) (Sv y) = compare (K x) (K y) := by
  unfold Sv K
  have h1 : V (rg x) < V (rg y) ↔ rg x < rg y := V_lt_iff
  have h2 : V (rg y) < V (rg x) ↔ rg y < rg x := V_lt_iff
  have z : ∀ r, V r = 0 ↔ r = 0 := by
    intro r
    have : V 0 = 0 := by decide
    have h : V 0 < V r ↔ 0 < r := V_lt_iff
    omega
  have h3 := z (rg x)
  have h4 := z (rg y)
  refine compare_of ?_ ?_ <;> split <;> split <;> omega

theorem order_finite {x y : Nat} (hx : rg x < INF) (hy : rg y < INF) : double.order x y = some (compare (K x) (K y)) := by
  unfold Format.order
  rw [read_finite hx, read_finite hy]
  unfold Datum.order
  dsimp only
  rw [← compare_S, Sv_signed, Sv_signed]
  congr 1
  generalize ex (rg x) = i
  generalize ex (rg y) = j
  have e1 : i = ((-1074 + (i : Int) - min (-1074 + (i : Int)) (-1074 + (j : Int)))).toNat + min i j := by omega
  have e2 : j = ((-1074 + (j : Int) - min (-1074 + (i : Int)) (-1074 + (j : Int)))).toNat + min i j := by omega
  generalize ((-1074 + (i : Int) - min (-1074 + (i : Int)) (-1074 + (j : Int)))).toNat = u at *
  generalize ((-1074 + (j : Int) - min (-1074 + (i : Int)) (-1074 + (j : Int)))).toNat = v at *
  generalize min i j = n at *
  subst e1 e2
  rw [← signed_mul, ← signed_mul, compare_mul]

theorem compare_lt {a b : Int} (h : a < b) : compare a b = .lt := by
  show compareOfLessAndEq a b = _
  unfold compareOfLessAndEq; rw [if_pos h]
theorem compare_gt {a b : Int} (h : b < a) : compare a b = .gt := by
  show compareOfLessAndEq a b = _
  unfold compareOfLessAndEq; rw [if_neg (by omega), if_neg (by omega)]
theorem compare_same (a : Int) : compare a a = .eq := by
  show compareOfLessAndEq a a = _
  unfold compareOfLessAndEq; simp

theorem order_eq {x y : Nat} (hx : isNaN x = false) (hy : isNaN y = false) : double.order x y = some (compare (K x) (K y)) := by
  rw [isNaN_false] at hx hy
  rcases Nat.lt_or_eq_of_le hx with hx | hx <;> rcases Nat.lt_or_eq_of_le hy with hy | hy
  · exact order_finite hx hy
  · unfold Format.order
    rw [read_finite hx, read_inf hy]
    unfold Datum.order K
    cases hs : sgn y <;> cases sgn x <;> simp only [if_true, if_false, Bool.false_eq_true] <;> congr 1 <;> symm <;> first | exact compare_lt (by omega) | exact compare_gt (by omega)
  · unfold Format.order
    rw [read_inf hx, read_finite hy]
    unfold Datum.order K
    cases hs : sgn x <;> cases sgn y <;> simp only [if_true, if_false, Bool.false_eq_true] <;> congr 1 <;> symm <;> first | exact compare_lt (by omega) | exact compare_gt (by omega)
  · unfold Format.order
    rw [read_inf hx, read_inf hy]
    unfold Datum.order K
    rw [hx, hy]
    cases sgn x <;> cases sgn y <;> decide

theorem order_nan_left {x y : Nat} (hx : isNaN x = true) : double.order x y = none := by
  unfold Format.order
  rw [read_nan (isNaN_iff.1 hx)]
  cases double.read y <;> rfl

theorem order_nan_right {x y : Nat} (hy : isNaN y = true) : double.order x y = none := by
  unfold Format.order
  rw [read_nan (isNaN_iff.1 hy)]
  cases double.read x <;> rfl

end F64

namespace F64
open Ieee

/-- A rung that a number q * 2 ^ (-1074 - a) rounds to. -/
structure Rounds (q a R : Nat) : Prop where
  top : R ≤ INF
  ge : ∀ r, r ≤ INF → V r * 2 ^ a ≤ q → r ≤ R
  le : ∀ r, q ≤ V r * 2 ^ a → R ≤ r

theorem Rounds.exact {q a R r : Nat} (h : Rounds q a R) (hr : r ≤ INF) (e : q = V r * 2 ^ a) : R = r := by
  have := h.ge r hr (by omega)
  have := h.le r (by omega)
  omega

theorem N_le_INF (mag : Nat) (place : Int) : N mag place ≤ INF := Nat.min_le_right ..

theorem N_rounds {mag : Nat} {place : Int} (h : mag ≠ 0) {a b : Nat} (hab : (b : Int) = a + place + 1074) : Rounds (mag * 2 ^ b) a (N mag place) :=
  ⟨N_le_INF _ _, fun _ hr hv => N_ge mag place h hr hab hv, fun _ hv => N_le mag place h hab hv⟩

theorem word_eq (s : Bool) (r : Nat) : double.word s r = if s = true then 2 ^ 63 + r else r := rfl

theorem sgn_word {s : Bool} {r : Nat} (h : r ≤ INF) : sgn (double.word s r) = s := by
  have hI := INF_val
  rw [word_eq]; unfold sgn
  cases s
  · simp; omega
  · simp; omega

theorem rg_word {s : Bool} {r : Nat} (h : r ≤ INF) : rg (double.word s r) = r := by
  have hI := INF_val
  rw [word_eq]; unfold rg
  cases s
  · simp; omega
  · simp; omega

theorem word_of {w : Nat} (h : w < 2 ^ 64) : double.word (sgn w) (rg w) = w := by
  rw [word_eq]; unfold sgn rg
  by_cases h1 : w / 2 ^ 63 % 2 = 1
  · simp [h1]; omega
  · simp [h1]; omega

/-- The sum of two finite numbers. -/
theorem sum_finite {x y : Nat} (hx : rg x < INF) (hy : rg y < INF) :
    ∃ total : Int, ∃ n : Nat, (double.read x).sum (double.read y) = some (.number (if total = 0 then sgn x && sgn y else decide (total < 0)) total.natAbs (-1074 + (n : Int))) ∧ total * (2 ^ n : Nat) = Sv x + Sv y := by
  rw [read_finite hx, read_finite hy]
  unfold Datum.sum
  dsimp only
  have e0 : min (-1074 + (ex (rg x) : Int)) (-1074 + (ex (rg y) : Int)) = -1074 + ((min (ex (rg x)) (ex (rg y)) : Nat) : Int) := by omega
  have e1 : (-1074 + (ex (rg x) : Int) - (-1074 + ((min (ex (rg x)) (ex (rg y)) : Nat) : Int))).toNat = ex (rg x) - min (ex (rg x)) (ex (rg y)) := by omega
  have e2 : (-1074 + (ex (rg y) : Int) - (-1074 + ((min (ex (rg x)) (ex (rg y)) : Nat) : Int))).toNat = ex (rg y) - min (ex (rg x)) (ex (rg y)) := by omega
  rw [e0, e1, e2]
  refine ⟨signed (sgn x) (mg (rg x)) ((ex (rg x)) - min (ex (rg x)) (ex (rg y))) + signed (sgn y) (mg (rg y)) ((ex (rg y)) - min (ex (rg x)) (ex (rg y))), min (ex (rg x)) (ex (rg y)), rfl, ?_⟩
  rw [Int.add_mul, signed_mul, signed_mul, Sv_signed, Sv_signed]
  congr 2 <;> omega

/-- The sum of two words: a zero, or what the exact sum rounds to. -/
theorem add_finite {x y : Nat} (hx : rg x < INF) (hy : rg y < INF) :
    (Sv x + Sv y = 0 ∧ double.add x y = some (double.word (sgn x && sgn y) 0)) ∨
    (Sv x + Sv y ≠ 0 ∧ ∃ R, double.add x y = some (double.word (decide (Sv x + Sv y < 0)) R) ∧ Rounds (Sv x + Sv y).natAbs 0 R) := by
  obtain ⟨total, n, h1, h2⟩ := sum_finite hx hy
  unfold Format.add
  rw [h1]
  have hp : (0 : Int) < (2 ^ n : Nat) := by exact_mod_cast Nat.two_pow_pos n
  by_cases ht : total = 0
  · left
    subst ht
    refine ⟨by rw [← h2]; simp, ?_⟩
    simp only [if_true, Option.map_some]
    rfl
  · right
    have hS : (Sv x + Sv y).natAbs = total.natAbs * 2 ^ n := by rw [← h2, Int.natAbs_mul, Int.natAbs_natCast]
    have hne : total.natAbs ≠ 0 := by omega
    refine ⟨by rw [← h2]; exact Int.mul_ne_zero ht (by omega), N total.natAbs (-1074 + (n : Int)), ?_, ?_⟩
    · rw [if_neg ht, Option.map_some]
      show some (double.nearest _ _ _) = _
      rw [nearest_eq _ _ _ hne]
      congr 2
      rw [← h2, decide_eq_decide]
      constructor
      · intro h; exact Int.mul_neg_of_neg_of_pos h hp
      · intro h
        rcases Int.lt_or_le total 0 with h0 | h0
        · exact h0
        · have := Int.mul_nonneg h0 (Int.le_of_lt hp); omega
    · rw [hS]
      exact N_rounds hne (by omega)

theorem opposite_read {y : Nat} : (double.read y).opposite = double.read (double.word (!sgn y) (rg y)) := by
  unfold Format.read
  have hs : ((double.word (!sgn y) (rg y)) / double.signWeight % 2 == 1) = !(y / double.signWeight % 2 == 1) := by
    rw [signWeight_eq, word_eq]
    show _ = !sgn y
    have : rg y < 2 ^ 63 := Nat.mod_lt _ (by decide)
    cases sgn y <;> simp <;> omega
  have hr : (double.word (!sgn y) (rg y)) % double.signWeight = y % double.signWeight := by
    rw [signWeight_eq, word_eq]
    show _ = rg y
    have : rg y < 2 ^ 63 := Nat.mod_lt _ (by decide)
    cases sgn y <;> simp <;> omega
  dsimp only
  rw [hs, hr]
  split
  · rfl
  · split
    · rfl
    · split <;> rfl

/-- A word with its sign turned. -/
def opp (y : Nat) : Nat := double.word (!sgn y) (rg y)

theorem sub_eq_add (x y : Nat) : double.sub x y = double.add x (opp y) := by
  unfold Format.sub Format.add opp
  rw [opposite_read]

theorem rg_lt (y : Nat) : rg y < 2 ^ 63 := Nat.mod_lt _ (by decide)
theorem sgn_opp (y : Nat) : sgn (opp y) = !sgn y := by
  have := rg_lt y
  unfold opp; rw [word_eq]; generalize rg y = r at *; unfold sgn
  split <;> rename_i h <;> simp_all <;> omega
theorem rg_opp (y : Nat) : rg (opp y) = rg y := by
  have := rg_lt y
  unfold opp; rw [word_eq]; generalize rg y = r at *; unfold rg
  split <;> omega
theorem Sv_opp (y : Nat) : Sv (opp y) = -Sv y := by
  unfold Sv; rw [sgn_opp, rg_opp]; cases sgn y <;> simp
theorem K_opp (y : Nat) : K (opp y) = -K y := by
  unfold K; rw [sgn_opp, rg_opp]; cases sgn y <;> simp
theorem isNaN_opp (y : Nat) : isNaN (opp y) = isNaN y := by unfold isNaN; rw [rg_opp]

theorem add_inf_nan {x y : Nat} (hx : rg x = INF) (hy : rg y = INF) (hs : sgn x ≠ sgn y) : double.add x y = none := by
  unfold Format.add
  rw [read_inf hx, read_inf hy]
  unfold Datum.sum
  simp [hs]

theorem Rounds.scale {q a c R : Nat} (h : Rounds (q * 2 ^ c) (a + c) R) : Rounds q a R := by
  refine ⟨h.top, fun r hr hv => h.ge r hr ?_, fun r hv => h.le r ?_⟩
  · rw [Nat.pow_add, ← Nat.mul_assoc]; exact Nat.mul_le_mul_right _ hv
  · rw [Nat.pow_add, ← Nat.mul_assoc]; exact Nat.mul_le_mul_right _ hv

theorem mg_lt (r : Nat) : mg r < 2 ^ 53 := by unfold mg; split <;> omega
theorem log2_lt {m k : Nat} (h : m < 2 ^ k) (hk : 0 < k) : m.log2 < k := by
  rcases Nat.eq_zero_or_pos m with h0 | h0
  · subst h0; simpa using hk
  · exact (Nat.log2_lt (by omega)).2 h

/-- The word of 2. -/
abbrev TWO : Nat := 4611686018427387904
/-- The word of 1. -/
abbrev ONE : Nat := 4607182418800017408

theorem read_two : double.read TWO = .number false (2 ^ 52) (-51) := by decide
theorem read_one : double.read ONE = .number false (2 ^ 52) (-52) := by decide

/-- A half of a finite number. -/
theorem div_two {x : Nat} (hx : rg x < INF) : ∃ R, double.div x TWO = some (double.word (sgn x) R) ∧ Rounds (V (rg x)) 1 R := by
  unfold Format.div
  rw [read_finite hx, read_two]
  unfold Datum.quotient
  dsimp only
  have hm := mg_lt (rg x)
  have hV := V_parts (rg x)
  generalize mg (rg x) = m at *
  generalize ex (rg x) = e at *
  have hl := log2_lt hm (by decide)
  rw [if_neg (by decide)]
  have hmore : double.fractionBits + 2 + (2 ^ 52 : Nat).log2 - m.log2 = (54 - m.log2) + 52 := by
    have : (2 ^ 52 : Nat).log2 = 52 := by decide
    rw [this]; show 52 + 2 + 52 - m.log2 = _; omega
  rw [hmore]
  generalize hk : 54 - m.log2 = k
  have hd : m <<< (k + 52) = m * 2 ^ k * 2 ^ 52 := by rw [Nat.shiftLeft_eq, Nat.pow_add, Nat.mul_assoc]
  rw [hd, Nat.mul_div_cancel _ (Nat.two_pow_pos _), Nat.mul_mod_left]
  show ∃ R, some (double.nearest (sgn x ^^ false) (2 * (m * 2 ^ k) + (0 != 0 : Bool).toNat) _) = _ ∧ _
  simp only [Bool.xor_false, bne_self_eq_false, Bool.toNat_false, Nat.add_zero]
  by_cases h0 : m = 0
  · subst h0
    refine ⟨0, ?_, ?_⟩
    · simp [Format.nearest]
    · rw [hV]; simp
      exact ⟨by decide, fun r _ h => by
        have z : V 0 = 0 := by decide
        have : V r ≤ V 0 := by omega
        exact V_le_iff.1 this, fun r _ => Nat.zero_le _⟩
  · have hne : 2 * (m * 2 ^ k) ≠ 0 := by
      have := Nat.two_pow_pos k
      have := Nat.mul_pos (Nat.pos_of_ne_zero h0) this
      omega
    refine ⟨N (2 * (m * 2 ^ k)) (-1074 + (e : Int) - -51 - ((k + 52 : Nat) : Int) - 1), ?_, ?_⟩
    · rw [nearest_eq _ _ _ hne]
    · have h1 := N_rounds hne (a := 1 + (k + 1)) (b := e) (place := -1074 + (e : Int) - -51 - ((k + 52 : Nat) : Int) - 1) (by omega)
      refine Rounds.scale (c := k + 1) ?_
      have : V (rg x) * 2 ^ (k + 1) = 2 * (m * 2 ^ k) * 2 ^ e := by
        rw [hV, Nat.pow_succ]; simp only [Nat.mul_assoc, Nat.mul_comm, Nat.mul_left_comm]
      rw [this]; exact h1

theorem div_two_inf {x : Nat} (hx : rg x = INF) : double.div x TWO = some (double.word (sgn x) INF) := by
  unfold Format.div
  rw [read_inf hx, read_two]
  unfold Datum.quotient
  simp [Format.write, infRung_eq]

/-- One divided by a finite number that is not zero: not zero, of the same sign. -/
theorem div_one {x : Nat} (hx : rg x < INF) (h0 : rg x ≠ 0) : ∃ R, double.div ONE x = some (double.word (sgn x) R) ∧ 1 ≤ R ∧ R ≤ INF := by
  unfold Format.div
  rw [read_finite hx, read_one]
  unfold Datum.quotient
  dsimp only
  have hm := mg_lt (rg x)
  have hV := V_parts (rg x)
  have hm0 : mg (rg x) ≠ 0 := by
    intro h; rw [h, Nat.zero_mul] at hV
    have z : V 0 = 0 := by decide
    have := V_le_iff.1 (show V (rg x) ≤ V 0 by omega)
    omega
  have hexp : ex (rg x) ≤ 2045 := by have hI := INF_val; unfold ex; split <;> omega
  generalize mg (rg x) = m at *
  generalize ex (rg x) = e at *
  have hl := log2_lt hm (by decide)
  rw [if_neg hm0]
  have hmore : double.fractionBits + 2 + m.log2 - (2 ^ 52 : Nat).log2 = 2 + m.log2 := by
    have : (2 ^ 52 : Nat).log2 = 52 := by decide
    rw [this]; show 52 + 2 + m.log2 - 52 = _; omega
  rw [hmore]
  have hlow : 2 ^ 53 ≤ ((2 ^ 52) <<< (2 + m.log2)) / m := by
    rw [Nat.le_div_iff_mul_le (Nat.pos_of_ne_zero hm0), Nat.shiftLeft_eq, ← Nat.pow_add]
    have h2 : m < 2 ^ (m.log2 + 1) := Nat.lt_log2_self
    have h3 := Nat.mul_le_mul_left (2 ^ 53) (Nat.le_of_lt h2)
    rw [← Nat.pow_add] at h3
    rwa [show 53 + (m.log2 + 1) = 52 + (2 + m.log2) from by omega] at h3
  generalize ((2 ^ 52) <<< (2 + m.log2)) / m = q at *
  generalize (((2 ^ 52) <<< (2 + m.log2)) % m != 0) = st at *
  have hq : 2 * q + st.toNat ≠ 0 := by omega
  refine ⟨N (2 * q + st.toNat) (-52 - (-1074 + (e : Int)) - ((2 + m.log2 : Nat) : Int) - 1), ?_, ?_, N_le_INF _ _⟩
  · rw [Option.map_some]
    show some (double.nearest _ _ _) = _
    rw [nearest_eq _ _ _ hq]; simp
  · have hmin : (-(-52 - (-1074 + (e : Int)) - ((2 + m.log2 : Nat) : Int) - 1 + 1074)).toNat ≤ 53 := by omega
    generalize hpl : -52 - (-1074 + (e : Int)) - ((2 + m.log2 : Nat) : Int) - 1 = pl at *
    refine N_ge _ _ hq (a := (-(pl + 1074)).toNat) (b := (pl + 1074).toNat) (by decide) (by omega) ?_
    have h1 : V 1 = 1 := by decide
    rw [h1, Nat.one_mul]
    have h2 : (2 : Nat) ^ (-(pl + 1074)).toNat ≤ 2 ^ 53 := Nat.pow_le_pow_right (by omega) hmin
    have h3 := Nat.mul_le_mul_left (2 * q + st.toNat) (Nat.two_pow_pos (pl + 1074).toNat)
    omega

end F64

namespace F64
open Ieee

abbrev QNAN : Nat := 9221120237041090560

def bitsF (x : Nat) : Nat := if isNaN x = true then QNAN else x
def keyF (x : Nat) : Nat := if bitsF x < 2 ^ 63 then bitsF x + 2 ^ 63 else 2 ^ 64 - 1 - bitsF x
/-- A magnitude's class, the sign not seen. -/
def magF (x : Nat) : Int := if isNaN x = true then 1 else if rg x = 0 then 6 else if rg x < 2 ^ 52 then 7 else if rg x < INF then 8 else 9
def clsF (x : Nat) : Int := if isNaN x = true then 1 else if sgn x = true then 11 - magF x else magF x
def nextF (x : Nat) : Nat := if isNaN x = true then QNAN else if x = INF then INF else if rg x = 0 then 1 else if sgn x = true then x - 1 else x + 1
def prevF (x : Nat) : Nat := if isNaN x = true then QNAN else opp (nextF (opp x))

theorem sgn_true {x : Nat} (h : x < 2 ^ 64) : sgn x = true ↔ 2 ^ 63 ≤ x := by
  unfold sgn; simp; omega
theorem sgn_false {x : Nat} (h : x < 2 ^ 64) : sgn x = false ↔ x < 2 ^ 63 := by
  unfold sgn; simp; omega

theorem bitsF_lt {x : Nat} (h : x < 2 ^ 64) : bitsF x < 2 ^ 64 := by
  have : QNAN < 2 ^ 64 := by decide
  unfold bitsF; split <;> omega
theorem isNaN_bitsF (x : Nat) : isNaN (bitsF x) = isNaN x := by
  unfold bitsF; split
  · rename_i h; rw [h]; decide
  · rfl
theorem bitsF_bitsF (x : Nat) : bitsF (bitsF x) = bitsF x := by
  rw [bitsF, isNaN_bitsF]; unfold bitsF; split <;> rfl
theorem bitsF_num {x : Nat} (h : isNaN x = false) : bitsF x = x := by unfold bitsF; simp [h]

theorem opp_lt {x : Nat} : opp x < 2 ^ 64 := by
  have := rg_lt x
  unfold opp; rw [word_eq]; split <;> omega
theorem xor_sign {x : Nat} (h : x < 2 ^ 64) : x ^^^ 2 ^ 63 = opp x := by
  have e1 : (x ^^^ 2 ^ 63) % 2 ^ 63 = x % 2 ^ 63 := by rw [Nat.xor_mod_two_pow, Nat.mod_self, Nat.xor_zero]
  have e2 : (x ^^^ 2 ^ 63) / 2 ^ 63 = (x / 2 ^ 63) ^^^ 1 := by rw [Nat.xor_div_two_pow, Nat.div_self (by decide)]
  have h3 : x / 2 ^ 63 = 0 ∨ x / 2 ^ 63 = 1 := by omega
  generalize x ^^^ 2 ^ 63 = y at *
  unfold opp
  rw [word_eq]
  unfold sgn rg
  rcases h3 with h3 | h3
  · rw [h3] at e2 ⊢
    simp at e2 ⊢
    omega
  · rw [h3] at e2 ⊢
    simp at e2 ⊢
    omega
theorem K_of {x : Nat} (h : x < 2 ^ 64) : K x = if x < 2 ^ 63 then (x : Int) else 2 ^ 63 - (x : Int) := by
  unfold K rg
  by_cases hs : x < 2 ^ 63
  · rw [if_neg (by rw [(sgn_false h).2 hs]; simp), if_pos hs]; omega
  · rw [if_pos ((sgn_true h).2 (by omega)), if_neg hs]; omega

theorem nextF_cases {x : Nat} (h : x < 2 ^ 64) (hn : isNaN x = false) :
    (x = INF ∧ nextF x = INF) ∨ (x % 2 ^ 63 = 0 ∧ nextF x = 1) ∨ (2 ^ 63 < x ∧ x ≤ 2 ^ 63 + INF ∧ nextF x = x - 1) ∨ (0 < x ∧ x < INF ∧ nextF x = x + 1) := by
  have hI := INF_val
  have hs1 := sgn_true h
  have hs2 := sgn_false h
  have hr : x % 2 ^ 63 ≤ INF := isNaN_false.1 hn
  unfold nextF
  rw [hn]
  simp only [Bool.false_eq_true, if_false]
  by_cases h1 : x = INF
  · exact Or.inl ⟨h1, if_pos h1⟩
  rw [if_neg h1]
  by_cases h2 : rg x = 0
  · exact Or.inr (Or.inl ⟨h2, if_pos h2⟩)
  rw [if_neg h2]
  unfold rg at h2
  by_cases h3 : sgn x = true
  · rw [if_pos h3]
    have := hs1.1 h3
    exact Or.inr (Or.inr (Or.inl ⟨by omega, by omega, rfl⟩))
  · rw [if_neg h3]
    have := hs2.1 (by simpa using h3)
    exact Or.inr (Or.inr (Or.inr ⟨by omega, by omega, rfl⟩))

theorem nextF_nan {x : Nat} (hn : isNaN x = true) : nextF x = QNAN := by unfold nextF; rw [hn]; rfl

theorem nextF_num {x : Nat} (h : x < 2 ^ 64) (hn : isNaN x = false) : isNaN (nextF x) = false := by
  have hI := INF_val
  rw [isNaN_false]
  unfold rg
  rcases nextF_cases h hn with ⟨_, e⟩ | ⟨_, e⟩ | ⟨_, _, e⟩ | ⟨_, _, e⟩ <;> rw [e] <;> omega

theorem nextF_lt {x : Nat} (h : x < 2 ^ 64) : nextF x < 2 ^ 64 := by
  have hI := INF_val
  cases hn : isNaN x
  · rcases nextF_cases h hn with ⟨_, e⟩ | ⟨_, e⟩ | ⟨_, _, e⟩ | ⟨_, _, e⟩ <;> rw [e] <;> omega
  · rw [nextF_nan hn]; decide

theorem K_next {x : Nat} (h : x < 2 ^ 64) (hn : isNaN x = false) (hi : x ≠ INF) : K (nextF x) = K x + 1 := by
  have hI := INF_val
  rw [K_of (nextF_lt h), K_of h]
  rcases nextF_cases h hn with ⟨_, e⟩ | ⟨_, e⟩ | ⟨_, _, e⟩ | ⟨_, _, e⟩ <;> rw [e] <;> split <;> split <;> omega

theorem prevF_lt {x : Nat} : prevF x < 2 ^ 64 := by
  unfold prevF; split
  · decide
  · exact opp_lt

theorem prevF_num {x : Nat} (hn : isNaN x = false) : isNaN (prevF x) = false := by
  unfold prevF
  rw [if_neg (by rw [hn]; simp), isNaN_opp]
  exact nextF_num opp_lt (by rw [isNaN_opp]; exact hn)

theorem opp_opp {x : Nat} (h : x < 2 ^ 64) : opp (opp x) = x := by
  rw [opp, sgn_opp, rg_opp, Bool.not_not]; exact word_of h

theorem K_prev {x : Nat} (h : x < 2 ^ 64) (hn : isNaN x = false) (hi : x ≠ opp INF) : K (prevF x) = K x - 1 := by
  unfold prevF
  rw [if_neg (by rw [hn]; simp), K_opp, K_next opp_lt (by rw [isNaN_opp]; exact hn), K_opp]
  · omega
  · intro e; exact hi (by rw [← e, opp_opp h])

/-- Words of numbers are the same where they stand at one place and have one sign. -/
theorem eq_of_K {x y : Nat} (hx : x < 2 ^ 64) (hy : y < 2 ^ 64) (hk : K x = K y) (hs : K x ≠ 0 ∨ sgn x = sgn y) : x = y := by
  have h1 := sgn_true hx
  have h2 := sgn_true hy
  rw [K_of hx] at hk hs
  rw [K_of hy] at hk
  rcases hs with hs | hs
  · by_cases a : x < 2 ^ 63 <;> by_cases b : y < 2 ^ 63 <;> simp only [a, b, if_true, if_false] at hk hs <;> omega
  · rw [hs] at h1
    have h3 := h1.symm.trans h2
    by_cases a : x < 2 ^ 63 <;> by_cases b : y < 2 ^ 63 <;> simp only [a, b, if_true, if_false] at hk <;> omega

theorem order_lt {x y : Nat} (hx : isNaN x = false) (hy : isNaN y = false) : (double.order x y == some .lt) = decide (K x < K y) := by
  rw [order_eq hx hy]
  rcases Int.lt_trichotomy (K x) (K y) with h | h | h
  · rw [compare_lt h]; simp [h]
  · rw [h, compare_same]; simp
  · rw [compare_gt h]; simp; omega
theorem order_gt {x y : Nat} (hx : isNaN x = false) (hy : isNaN y = false) : (double.order x y == some .gt) = decide (K y < K x) := by
  rw [order_eq hx hy]
  rcases Int.lt_trichotomy (K x) (K y) with h | h | h
  · rw [compare_lt h]; simp; omega
  · rw [h, compare_same]; simp
  · rw [compare_gt h]; simp [h]
theorem order_same {x y : Nat} (hx : isNaN x = false) (hy : isNaN y = false) : (double.order x y == some .eq) = decide (K x = K y) := by
  rw [order_eq hx hy]
  rcases Int.lt_trichotomy (K x) (K y) with h | h | h
  · rw [compare_lt h]; simp; omega
  · rw [h, compare_same]; simp
  · rw [compare_gt h]; simp; omega

/-- The rung of a power of two. -/
def powRung (k : Nat) : Nat := if k < 52 then 2 ^ k else (k - 51) * 2 ^ 52
theorem V_powRung (k : Nat) : V (powRung k) = 2 ^ k := by
  unfold powRung
  split
  · rename_i h
    exact V_small (Nat.lt_of_lt_of_le (Nat.pow_lt_pow_right (by omega) h) (by decide))
  · have h := V_grid (k - 52) (2 ^ 52) (Or.inr (Nat.le_refl _)) (by decide)
    rw [← Nat.pow_add, show 52 + (k - 52) = k from by omega] at h
    rw [← h, show k - 51 = (k - 52) + 1 from by omega, Nat.add_mul, Nat.one_mul]

/-- The step from a rung to the next one. -/
theorem V_step (r : Nat) : V (r + 1) = V r + 2 ^ (r / 2 ^ 52 - 1) := by
  by_cases h : r < 2 ^ 52
  · rw [V_small (by omega), V_small (by omega), show r / 2 ^ 52 - 1 = 0 from by omega, Nat.pow_zero]
  · have h1 := V_grid (r / 2 ^ 52 - 1) (2 ^ 52 + r % 2 ^ 52) (by omega) (by omega)
    have h2 := V_grid (r / 2 ^ 52 - 1) (2 ^ 52 + r % 2 ^ 52 + 1) (by omega) (by omega)
    rw [show (r / 2 ^ 52 - 1) * 2 ^ 52 + (2 ^ 52 + r % 2 ^ 52) = r from by omega] at h1
    rw [show (r / 2 ^ 52 - 1) * 2 ^ 52 + (2 ^ 52 + r % 2 ^ 52 + 1) = r + 1 from by omega] at h2
    rw [h1, h2, Nat.add_mul _ 1, Nat.one_mul]

theorem Sv_neg {x : Nat} (h : K x < 0) : sgn x = true ∧ K x = -(rg x : Int) ∧ Sv x = -(V (rg x) : Int) := by
  unfold K at h ⊢; unfold Sv
  cases hs : sgn x
  · rw [hs] at h; simp at h; omega
  · simp
theorem Sv_pos {x : Nat} (h : 0 < K x) : sgn x = false ∧ K x = (rg x : Int) ∧ Sv x = (V (rg x) : Int) := by
  unfold K at h ⊢; unfold Sv
  cases hs : sgn x
  · simp
  · rw [hs] at h; simp at h; omega
theorem Sv_zero {x : Nat} (h : K x = 0) : rg x = 0 ∧ Sv x = 0 := by
  have z : V 0 = 0 := by decide
  unfold K at h; unfold Sv
  have : rg x = 0 := by split at h <;> omega
  rw [this, z]
  exact ⟨rfl, by split <;> rfl⟩

theorem Sv_le {x y : Nat} (h : K x ≤ K y) : Sv x ≤ Sv y := by
  rcases Int.lt_or_eq_of_le h with h | h
  · have := compare_S x y
    rw [compare_lt h] at this
    rcases Int.lt_trichotomy (Sv x) (Sv y) with h1 | h1 | h1
    · omega
    · rw [h1, compare_same] at this; cases this
    · rw [compare_gt h1] at this; cases this
  · have := compare_S x y
    rw [h, compare_same] at this
    rcases Int.lt_trichotomy (Sv x) (Sv y) with h1 | h1 | h1
    · omega
    · omega
    · rw [compare_gt h1] at this; cases this

theorem add_inf {x y : Nat} (hx : rg x < INF) (hy : rg y = INF) : double.add x y = some (double.word (sgn y) INF) := by
  unfold Format.add
  rw [read_finite hx, read_inf hy]
  unfold Datum.sum
  simp [Format.write, infRung_eq]

/-- Half way to the next number there is none. -/
theorem mid_next {x : Nat} (h : x < 2 ^ 64) (hn : rg x < INF) (h0 : K x ≠ 0) :
    ∃ d g m, double.sub (nextF x) x = some d ∧ double.div d TWO = some g ∧ double.add x g = some m ∧ isNaN m = false ∧ (K m = K x ∨ K m = K (nextF x)) := by
  have hI := INF_val
  have hnn : isNaN x = false := isNaN_false.2 (by omega)
  by_cases hmax : x = INF - 1
  · subst hmax
    refine ⟨INF, INF, INF, by decide, by decide, by decide, by decide, Or.inr (by decide)⟩
  have hxi : x ≠ INF := by intro e; subst e; exact absurd hn (by decide)
  have hK := K_next h hnn hxi
  have hnx := nextF_num h hnn
  have hrn : rg (nextF x) < INF := by
    unfold rg at *
    rcases nextF_cases h hnn with ⟨e, _⟩ | ⟨_, e⟩ | ⟨_, _, e⟩ | ⟨_, _, e⟩
    · exact absurd e hxi
    all_goals rw [e]; omega
  generalize hy : nextF x = y at *
  -- the step is a power of two
  have hstep : ∃ k, k ≤ 2045 ∧ Sv y - Sv x = ((2 ^ k : Nat) : Int) := by
    rcases Int.lt_trichotomy (K x) 0 with hc | hc | hc
    · obtain ⟨_, a2, a3⟩ := Sv_neg hc
      have hy1 : Sv y = -(V (rg y) : Int) ∧ rg x = rg y + 1 := by
        by_cases hz : K y = 0
        · obtain ⟨b1, b2⟩ := Sv_zero hz
          have z : V 0 = 0 := by decide
          rw [b1, z, b2]; exact ⟨rfl, by omega⟩
        · obtain ⟨_, b2, b3⟩ := Sv_neg (x := y) (by omega)
          exact ⟨b3, by omega⟩
      have st := V_step (rg y)
      refine ⟨rg y / 2 ^ 52 - 1, by omega, ?_⟩
      rw [hy1.1, a3, hy1.2, st]; omega
    · exact absurd hc h0
    · obtain ⟨_, a2, a3⟩ := Sv_pos hc
      obtain ⟨_, b2, b3⟩ := Sv_pos (x := y) (by omega)
      have e : rg y = rg x + 1 := by omega
      have st := V_step (rg x)
      refine ⟨rg x / 2 ^ 52 - 1, by omega, ?_⟩
      rw [b3, a3, e, st]; omega
  obtain ⟨k, hk, hD⟩ := hstep
  have hp : 0 < 2 ^ k := Nat.two_pow_pos k
  have htn : powRung k < INF := by
    unfold powRung
    by_cases hk2 : k < 52
    · have : 2 ^ k ≤ 2 ^ 52 := Nat.pow_le_pow_right (by omega) (by omega)
      rw [if_pos hk2]; omega
    · rw [if_neg hk2]; omega
  have hVP := V_powRung k
  generalize powRung k = t at *
  generalize (2 ^ k : Nat) = P at *
  have hd : double.sub y x = some t := by
    rw [sub_eq_add]
    rcases add_finite (x := y) (y := opp x) hrn (by rw [rg_opp]; exact hn) with ⟨e, _⟩ | ⟨_, R, e, hR⟩
    · rw [Sv_opp] at e; omega
    · rw [Sv_opp] at e hR
      have e1 : (Sv y + -Sv x) = (P : Int) := by omega
      rw [e1] at e hR
      have e2 : R = t := hR.exact (by omega) (by rw [hVP]; simp)
      have e3 : decide ((P : Int) < 0) = false := by simp
      rw [e, e2, e3]; rfl
  have hrt : rg t = t := by unfold rg; omega
  have hst : sgn t = false := by rw [sgn_false (by omega)]; omega
  obtain ⟨R, hg, hR⟩ := div_two (x := t) (by omega)
  rw [hst] at hg
  rw [hrt, hVP] at hR
  have hRt : R ≤ t := hR.le _ (by rw [hVP]; omega)
  have hrR : rg (double.word false R) = R := rg_word (by omega)
  have hsR : sgn (double.word false R) = false := sgn_word (by omega)
  have hSR : Sv (double.word false R) = (V R : Int) := by unfold Sv; rw [hrR, hsR]; simp
  have hVR : (V R : Int) ≤ (P : Int) := by
    have := V_le hRt; rw [hVP] at this; omega
  refine ⟨t, double.word false R, ?_⟩
  rcases add_finite (x := x) (y := double.word false R) hn (by omega) with ⟨e, e2⟩ | ⟨e, R2, e2, hR2⟩
  · refine ⟨_, hd, hg, e2, ?_, ?_⟩
    · rw [isNaN_false, rg_word (by omega)]; omega
    · have hk0 : K (double.word (sgn x && sgn (double.word false R)) 0) = 0 := by
        unfold K; rw [rg_word (by omega)]; simp
      rw [hk0]
      rw [hSR] at e
      rcases Int.lt_trichotomy (K x) 0 with hc | hc | hc
      · by_cases hz : K y = 0
        · right; omega
        · obtain ⟨_, b2, b3⟩ := Sv_neg (x := y) (by omega)
          have z : V 0 < V (rg y) := V_lt (by omega)
          omega
      · left; omega
      · obtain ⟨_, a2, a3⟩ := Sv_pos hc
        have z : V 0 < V (rg x) := V_lt (by omega)
        omega
  · rw [hSR] at e e2 hR2
    refine ⟨_, hd, hg, e2, ?_, ?_⟩
    · rw [isNaN_false, rg_word hR2.top]; exact hR2.top
    · have hKm : K (double.word (decide (Sv x + (V R : Int) < 0)) R2) = if Sv x + (V R : Int) < 0 then -(R2 : Int) else (R2 : Int) := by
        unfold K; rw [sgn_word hR2.top, rg_word hR2.top]
        simp
      rw [hKm]
      rcases Int.lt_trichotomy (K x) 0 with hc | hc | hc
      · obtain ⟨_, a2, a3⟩ := Sv_neg hc
        have hy1 : Sv y = -(V (rg y) : Int) ∧ K y = -(rg y : Int) := by
          by_cases hz : K y = 0
          · obtain ⟨b1, b2⟩ := Sv_zero hz
            have z : V 0 = 0 := by decide
            rw [b1, z, b2, hz]; exact ⟨rfl, rfl⟩
          · obtain ⟨_, b2, b3⟩ := Sv_neg (x := y) (by omega)
            exact ⟨b3, b2⟩
        rw [if_pos (by omega)]
        have u1 := hR2.ge (rg y) (by omega) (by omega)
        have u2 := hR2.le (rg x) (by omega)
        omega
      · exact absurd hc h0
      · obtain ⟨_, a2, a3⟩ := Sv_pos hc
        obtain ⟨_, b2, b3⟩ := Sv_pos (x := y) (by omega)
        rw [if_neg (by omega)]
        have u1 := hR2.ge (rg x) (by omega) (by omega)
        have u2 := hR2.le (rg y) (by omega)
        omega

end F64

namespace F64
open Ieee Go

theorem and_sign {x : Nat} (hx : x < 2 ^ 64) : bits .and .u64 (x : Int) 9223372036854775808 = if sgn x = true then 9223372036854775808 else 0 := by
  have h := u64_and_nat x 9223372036854775808 (by omega) (by decide)
  have e : ((9223372036854775808 : Nat) : Int) = 9223372036854775808 := rfl
  rw [e] at h
  rw [h, nat_hi64_63]
  have h1 := sgn_true hx
  have h2 := sgn_false hx
  cases hs : sgn x
  · have := h2.1 hs; simp; omega
  · have := h1.1 hs; simp; omega

theorem andNot_sign {x : Nat} (hx : x < 2 ^ 64) : bits .andNot .u64 (x : Int) 9223372036854775808 = ((rg x : Nat) : Int) := by
  have h := u64_andNot_nat x 9223372036854775808 (by omega) (by decide)
  have e : ((9223372036854775808 : Nat) : Int) = 9223372036854775808 := rfl
  rw [e] at h
  rw [h]
  have e2 : (18446744073709551615 - 9223372036854775808 : Nat) = 2 ^ 63 - 1 := by decide
  rw [e2, Nat.and_two_pow_sub_one_eq_mod]
  rfl

theorem rg_rg (x : Nat) : rg (rg x) = rg x := Nat.mod_mod ..

theorem sgn_rg (x : Nat) : sgn (rg x) = false := by
  have := rg_lt x
  unfold sgn; simp; omega

theorem and_sign_t {x : Nat} (hx : x < 2 ^ 64) (h : sgn x = true) : (bits .and .u64 (x : Int) 9223372036854775808 != 0) = true := by
  rw [and_sign hx, h]; decide

theorem and_sign_f {x : Nat} (hx : x < 2 ^ 64) (h : sgn x = false) : (bits .and .u64 (x : Int) 9223372036854775808 != 0) = false := by
  rw [and_sign hx, h]; decide

theorem eq_sign_t {x : Nat} (hx : x < 2 ^ 64) (h : sgn x = true) : (bits .and .u64 (x : Int) 9223372036854775808 == 0) = false := by
  rw [and_sign hx, h]; decide

theorem eq_sign_f {x : Nat} (hx : x < 2 ^ 64) (h : sgn x = false) : (bits .and .u64 (x : Int) 9223372036854775808 == 0) = true := by
  rw [and_sign hx, h]; decide

theorem u64_max : IntKind.u64.max = 18446744073709551615 := by decide

theorem not_u64 {b : Nat} (h : b < 2 ^ 64) : bits .xor .u64 IntKind.u64.max (b : Int) = ((2 ^ 64 - 1 - b : Nat) : Int) := by
  rw [u64_max]
  have h1 := u64_xor_nat 18446744073709551615 b (by decide) (by omega)
  have e : ((18446744073709551615 : Nat) : Int) = 18446744073709551615 := rfl
  rw [e] at h1
  rw [h1]
  congr 1
  have h2 : 18446744073709551615 ^^^ b = (~~~(BitVec.ofNat 64 b)).toNat := by
    rw [BitVec.not_def, BitVec.toNat_xor, BitVec.toNat_allOnes, BitVec.toNat_ofNat, Nat.mod_eq_of_lt h]
  rw [h2, BitVec.toNat_not, BitVec.toNat_ofNat, Nat.mod_eq_of_lt h]

theorem xor_top {b : Nat} (h : b < 2 ^ 64) : bits .xor .u64 (b : Int) 9223372036854775808 = ((opp b : Nat) : Int) := by
  have h1 := u64_xor_nat b 9223372036854775808 (by omega) (by decide)
  have e : ((9223372036854775808 : Nat) : Int) = 9223372036854775808 := rfl
  rw [e] at h1
  rw [h1]
  exact congrArg _ (xor_sign h)

theorem key_pos {b : Nat} (h : b < 2 ^ 64) (hs : sgn b = false) : opp b = b + 2 ^ 63 := by
  have h1 := (sgn_false h).1 hs
  unfold opp
  rw [word_eq, hs]
  unfold rg
  simp
  omega

/-- A word with its sign's bit turned. -/
def negW (b : Nat) : Nat := b ^^^ 2 ^ 63
theorem negW_opp {b : Nat} (h : b < 2 ^ 64) : negW b = opp b := xor_sign h
theorem negW_lt {b : Nat} (h : b < 2 ^ 64) : negW b < 2 ^ 64 := by rw [negW_opp h]; exact opp_lt
theorem clsF_bounds (x : Nat) : 1 ≤ clsF x ∧ clsF x ≤ 9 := by
  have : 1 ≤ magF x ∧ magF x ≤ 9 ∧ (isNaN x = false → 6 ≤ magF x) := by
    unfold magF
    by_cases h : isNaN x = true
    · rw [if_pos h]; simp [h]
    · rw [if_neg h]; split
      · simp
      · split
        · simp
        · split <;> simp
  unfold clsF
  by_cases h : isNaN x = true
  · rw [if_pos h]; exact ⟨by decide, by decide⟩
  · rw [if_neg h]
    have := this.2.2 (by simpa using h)
    split <;> omega

theorem clsF_opp {x : Nat} (h : isNaN x = false) : clsF (opp x) + clsF x = 11 := by
  have hm : magF (opp x) = magF x := by unfold magF; rw [isNaN_opp, rg_opp]
  unfold clsF
  rw [isNaN_opp, sgn_opp, hm, h]
  cases sgn x <;> simp <;> omega

theorem keyF_opp {x : Nat} (hx : x < 2 ^ 64) (h : isNaN x = false) : keyF (opp x) = 2 ^ 64 - 1 - keyF x := by
  unfold keyF
  rw [bitsF_num h, bitsF_num (by rw [isNaN_opp]; exact h)]
  have h1 := sgn_true hx
  have h2 := sgn_false hx
  cases hs : sgn x
  · have := h2.1 hs
    rw [key_pos hx hs]
    rw [if_neg (by omega), if_pos (by omega)]
  · have := h1.1 hs
    have e : opp x = x - 2 ^ 63 := by
      unfold opp; rw [word_eq, hs]; unfold rg; simp; omega
    rw [e, if_pos (by omega), if_neg (by omega)]; omega

theorem keyF_lt {x : Nat} (hx : x < 2 ^ 64) : keyF x < 2 ^ 64 := by
  have := bitsF_lt hx
  unfold keyF
  split <;> omega

def sameB (x y : Nat) : Bool := ((bitsF x : Nat) : Int) == ((bitsF y : Nat) : Int)
theorem sameB_true {x y : Nat} : sameB x y = true ↔ bitsF x = bitsF y := by unfold sameB; simp; omega

end F64

namespace F64
open Ieee Go

theorem isNaN_word {s : Bool} {r : Nat} (h : r ≤ INF) : isNaN (double.word s r) = false := by
  rw [isNaN_false, rg_word h]; exact h

/-- An int's nearest word is finite. -/
theorem floatOfInt_finite {n : Int} (h : n.natAbs ≤ 2 ^ 63) : rg (floatOfInt .f64 n) < INF := by
  have hI := INF_val
  show rg (double.nearest (decide (n < 0)) n.natAbs 0) < INF
  by_cases h0 : n.natAbs = 0
  · rw [h0]
    have : double.nearest (decide (n < 0)) 0 0 = double.word (decide (n < 0)) 0 := by unfold Format.nearest; simp
    rw [this, rg_word (by omega)]; omega
  · rw [nearest_eq _ _ _ h0, rg_word (N_le_INF _ _)]
    have hp : ∀ b : Nat, V (powRung (63 + b)) = 2 ^ 63 * 2 ^ b := fun b => by rw [V_powRung, Nat.pow_add]
    have hk : ∀ b : Nat, n.natAbs * 2 ^ b ≤ V (powRung (63 + b)) * 2 ^ 0 := fun b => by
      rw [hp, Nat.pow_zero, Nat.mul_one]; exact Nat.mul_le_mul_right _ h
    have h1 := N_le n.natAbs 0 h0 (a := 0) (by omega) (hk 1074)
    have h2 : powRung (63 + 1074) = 1086 * 2 ^ 52 := by unfold powRung; rw [if_neg (by decide)]
    omega

theorem mul_some {x y : Nat} (hx : rg x < INF) (hy : rg y < INF) : ∃ p, double.mul x y = some p ∧ isNaN p = false := by
  unfold Format.mul
  rw [read_finite hx, read_finite hy]
  unfold Datum.product
  dsimp only
  rw [Option.map_some]
  refine ⟨_, rfl, ?_⟩
  show isNaN (double.nearest _ _ _) = false
  by_cases h0 : mg (rg x) * mg (rg y) = 0
  · rw [h0]
    have : ∀ s p, double.nearest s 0 p = double.word s 0 := by intro s p; unfold Format.nearest; simp
    rw [this]; exact isNaN_word (by decide)
  · rw [nearest_eq _ _ _ h0]; exact isNaN_word (N_le_INF _ _)

theorem mg_ne {r : Nat} (h : r ≠ 0) : mg r ≠ 0 := by
  unfold mg; split <;> omega

theorem div_some {x y : Nat} (hx : isNaN x = false) (hy : rg y < INF) (h0 : rg y ≠ 0) : ∃ q, double.div x y = some q ∧ isNaN q = false := by
  unfold Format.div
  rcases Nat.lt_or_eq_of_le (isNaN_false.1 hx) with hx | hx
  · rw [read_finite hx, read_finite hy]
    unfold Datum.quotient
    dsimp only
    rw [if_neg (mg_ne h0), Option.map_some]
    refine ⟨_, rfl, ?_⟩
    generalize hq : 2 * (mg (rg x) <<< (double.fractionBits + 2 + (mg (rg y)).log2 - (mg (rg x)).log2) / mg (rg y)) + (mg (rg x) <<< (double.fractionBits + 2 + (mg (rg y)).log2 - (mg (rg x)).log2) % mg (rg y) != 0).toNat = q
    show isNaN (double.nearest _ q _) = false
    by_cases h0 : q = 0
    · rw [h0]
      have : ∀ s p, double.nearest s 0 p = double.word s 0 := by intro s p; unfold Format.nearest; simp
      rw [this]; exact isNaN_word (by decide)
    · rw [nearest_eq _ _ _ h0]; exact isNaN_word (N_le_INF _ _)
  · rw [read_inf hx, read_finite hy]
    unfold Datum.quotient
    dsimp only
    rw [Option.map_some]
    refine ⟨_, rfl, ?_⟩
    show isNaN (double.word _ double.infRung) = false
    rw [infRung_eq]; exact isNaN_word (Nat.le_refl _)

end F64

namespace F64
open Ieee Go

theorem V_zero : V 0 = 0 := by decide
theorem V_pos {r : Nat} (h : r ≠ 0) : 0 < V r := by
  have := V_lt (Nat.pos_of_ne_zero h)
  rw [V_zero] at this; exact this
theorem V_inj {r s : Nat} (h : V r = V s) : r = s := by
  have h1 := @V_le_iff r s
  have h2 := @V_le_iff s r
  omega

/-- A whole number of at most 53 digits, at a place not below 52 units: its rung. -/
theorem rep {c k : Nat} (h0 : c ≠ 0) (hc : c < 2 ^ 53) (hk : 52 ≤ k) : ∃ R, V R = c * 2 ^ k ∧ 2 ^ 52 ≤ R ∧ R ≤ (k + 1) * 2 ^ 52 + 2 ^ 52 := by
  have l1 : 2 ^ c.log2 ≤ c := Nat.log2_self_le h0
  have l2 : c < 2 ^ (c.log2 + 1) := Nat.lt_log2_self
  have hl := log2_lt hc (by decide)
  generalize c.log2 = L at *
  have b1 : 2 ^ 52 ≤ c * 2 ^ (52 - L) := by
    have := Nat.mul_le_mul_right (2 ^ (52 - L)) l1
    rwa [← Nat.pow_add, show L + (52 - L) = 52 from by omega] at this
  have b2 : c * 2 ^ (52 - L) ≤ 2 ^ 53 := by
    have := Nat.mul_le_mul_right (2 ^ (52 - L)) (Nat.le_of_lt l2)
    rwa [← Nat.pow_add, show L + 1 + (52 - L) = 53 from by omega] at this
  have hg := V_grid (k - (52 - L)) (c * 2 ^ (52 - L)) (Or.inr b1) b2
  refine ⟨(k - (52 - L)) * 2 ^ 52 + c * 2 ^ (52 - L), ?_, by omega, ?_⟩
  · rw [hg, Nat.mul_assoc, ← Nat.pow_add, show 52 - L + (k - (52 - L)) = k from by omega]
  · omega

/-- A whole number of at most 53 digits is a word. -/
theorem int_word {c : Nat} (h0 : c ≠ 0) (hc : c < 2 ^ 53) : ∃ R, V R = c * 2 ^ 1074 ∧ 2 ^ 52 ≤ R ∧ R + 2 ^ 52 < INF ∧ ∀ s, double.nearest s c 0 = double.word s R := by
  have hI := INF_val
  have gen : ∀ k, k = 1074 → ∃ R, V R = c * 2 ^ k ∧ 2 ^ 52 ≤ R ∧ R + 2 ^ 52 < INF ∧ ∀ s, double.nearest s c 0 = double.word s R := by
    intro k hk
    obtain ⟨R, e1, e2, e3⟩ := rep (k := k) h0 hc (by omega)
    have hR : R + 2 ^ 52 < INF := by rw [hk] at e3; omega
    refine ⟨R, e1, e2, hR, fun s => ?_⟩
    rw [nearest_eq _ _ _ h0]
    rw [N_exact h0 (r := R) (a := 0) (b := k) (by omega) (by omega) (by rw [e1, Nat.pow_zero, Nat.mul_one])]
  exact gen 1074 rfl

/-- The product of two finite words, where a rung has just its value. -/
theorem mul_exact {x y R : Nat} (hx : rg x < INF) (hy : rg y < INF) (h0 : rg x ≠ 0) (h1 : rg y ≠ 0) (hR : R ≤ INF) {k : Nat} (hk : k = 1074) (h : V (rg x) * V (rg y) = V R * 2 ^ k) :
    double.mul x y = some (double.word (sgn x ^^ sgn y) R) := by
  unfold Format.mul
  rw [read_finite hx, read_finite hy]
  unfold Datum.product
  dsimp only
  rw [Option.map_some]
  have hm : mg (rg x) * mg (rg y) ≠ 0 := Nat.mul_ne_zero (mg_ne h0) (mg_ne h1)
  show some (double.nearest _ _ _) = _
  rw [nearest_eq _ _ _ hm]
  rw [V_parts, V_parts] at h
  rw [N_exact hm (r := R) (a := k) (b := ex (rg x) + ex (rg y)) hR (by omega) (by
    rw [← h, Nat.pow_add]; simp only [Nat.mul_assoc, Nat.mul_left_comm])]

theorem N_one : N (2 * 2 ^ 54) (-55) = ONE := by decide
theorem N_two : N (2 * 2 ^ 54) (-54) = TWO := by decide

/-- A quotient of two finite words that have one significand. -/
theorem div_same {x y : Nat} (hx : rg x < INF) (hy : rg y < INF) (h0 : rg y ≠ 0) (hm : mg (rg x) = mg (rg y)) :
    double.div x y = some (double.word (sgn x ^^ sgn y) (N (2 * 2 ^ 54) ((ex (rg x) : Int) - ex (rg y) - 55))) := by
  unfold Format.div
  rw [read_finite hx, read_finite hy]
  unfold Datum.quotient
  dsimp only
  rw [hm, if_neg (mg_ne h0), Option.map_some]
  have hmore : double.fractionBits + 2 + (mg (rg y)).log2 - (mg (rg y)).log2 = 54 := by
    show 52 + 2 + _ - _ = _; omega
  rw [hmore, Nat.shiftLeft_eq, Nat.mul_div_cancel_left _ (Nat.pos_of_ne_zero (mg_ne h0)), Nat.mul_mod_right]
  show some (double.nearest _ (2 * 2 ^ 54 + 0) _) = _
  rw [nearest_eq _ _ _ (by decide)]
  congr 3
  omega

/-- What gives 1 divided by itself is finite and not zero. -/
theorem div_one_only {x : Nat} (h : double.div x x = some ONE) : rg x < INF ∧ rg x ≠ 0 := by
  by_cases h1 : rg x < INF
  · refine ⟨h1, fun h0 => ?_⟩
    unfold Format.div at h
    rw [read_finite h1] at h
    unfold Datum.quotient at h
    have : mg (rg x) = 0 := by rw [h0]; decide
    rw [this] at h
    simp at h
  · exfalso
    unfold Format.div at h
    by_cases h2 : rg x = INF
    · rw [read_inf h2] at h
      simp [Datum.quotient] at h
    · rw [read_nan (by omega)] at h
      simp [Datum.quotient] at h

/-- A fill of a thing beside itself, of twice beside once, of nothing. -/
theorem fill_words {z s : Nat} (hz : z ≠ 0) (hs : s ≠ 0) (hz2 : z < 2 ^ 20) (hs2 : s < 2 ^ 20) :
    ∃ p p2, double.mul (double.nearest false z 0) (double.nearest false s 0) = some p ∧ double.mul (double.nearest false z 0) (double.nearest false (2 * s) 0) = some p2 ∧
      double.div p p = some ONE ∧ double.div p2 p = some TWO ∧ double.div 0 p = some 0 := by
  have hI := INF_val
  have hzs : z * s < 2 ^ 40 := by
    have := Nat.mul_lt_mul'' hz2 hs2
    rwa [← Nat.pow_add] at this
  have hzs0 : z * s ≠ 0 := Nat.mul_ne_zero hz hs
  obtain ⟨A, a1, a2, a3, a4⟩ := int_word (c := z) hz (by omega)
  obtain ⟨B, b1, b2, b3, b4⟩ := int_word (c := s) hs (by omega)
  obtain ⟨C, c1, c2, c3, c4⟩ := int_word (c := 2 * s) (by omega) (by omega)
  obtain ⟨P, p1, p2, p3, p4⟩ := int_word (c := z * s) hzs0 (by omega)
  have hQ : V (P + 2 ^ 52) = 2 * V P := by
    unfold V
    rw [if_neg (by omega), if_neg (by omega)]
    have e1 : (P + 2 ^ 52) % 2 ^ 52 = P % 2 ^ 52 := by omega
    have e2 : (P + 2 ^ 52) / 2 ^ 52 - 1 = (P / 2 ^ 52 - 1) + 1 := by omega
    rw [e1, e2, show (2 : Nat) ^ (P / 2 ^ 52 - 1 + 1) = 2 * 2 ^ (P / 2 ^ 52 - 1) from by rw [Nat.pow_succ, Nat.mul_comm], Nat.mul_left_comm]
  have rw0 : ∀ {r : Nat}, r ≤ INF → rg (double.word false r) = r := fun h => rg_word h
  have sw0 : ∀ {r : Nat}, r ≤ INF → sgn (double.word false r) = false := fun h => sgn_word h
  have m1 := mul_exact (x := double.word false A) (y := double.word false B) (R := P) (by rw [rw0 (by omega)]; omega) (by rw [rw0 (by omega)]; omega) (by rw [rw0 (by omega)]; omega) (by rw [rw0 (by omega)]; omega) (by omega) rfl
    (by rw [rw0 (by omega), rw0 (by omega), a1, b1, p1]; simp only [Nat.mul_assoc, Nat.mul_left_comm, Nat.mul_comm])
  have m2 := mul_exact (x := double.word false A) (y := double.word false C) (R := P + 2 ^ 52) (by rw [rw0 (by omega)]; omega) (by rw [rw0 (by omega)]; omega) (by rw [rw0 (by omega)]; omega) (by rw [rw0 (by omega)]; omega) (by omega) rfl
    (by rw [rw0 (by omega), rw0 (by omega), a1, c1, hQ, p1]; simp only [Nat.mul_assoc, Nat.mul_left_comm, Nat.mul_comm])
  have x0 : (false ^^ false) = false := rfl
  rw [sw0 (by omega), sw0 (by omega), x0] at m1 m2
  rw [← a4, ← b4] at m1
  rw [← a4, ← c4] at m2
  have hmg : mg (P + 2 ^ 52) = mg P := by unfold mg; rw [if_neg (by omega), if_neg (by omega)]; omega
  have hex : (ex (P + 2 ^ 52) : Int) = ex P + 1 := by unfold ex; rw [if_neg (by omega), if_neg (by omega)]; omega
  refine ⟨_, _, m1, m2, ?_, ?_, ?_⟩
  · rw [div_same (by rw [rw0 (by omega)]; omega) (by rw [rw0 (by omega)]; omega) (by rw [rw0 (by omega)]; omega) rfl]
    rw [rw0 (by omega), sw0 (by omega), show (ex P : Int) - ex P - 55 = -55 from by omega, N_one]; rfl
  · rw [div_same (by rw [rw0 (by omega)]; omega) (by rw [rw0 (by omega)]; omega) (by rw [rw0 (by omega)]; omega) (by rw [rw0 (by omega), rw0 (by omega), hmg])]
    rw [rw0 (by omega), rw0 (by omega), sw0 (by omega), sw0 (by omega), hex, show (ex P : Int) + 1 - ex P - 55 = -54 from by omega, N_two]; rfl
  · unfold Format.div
    rw [show double.read 0 = .number false 0 (-1074) from by decide, read_finite (by rw [rw0 (by omega)]; omega)]
    unfold Datum.quotient
    dsimp only
    rw [rw0 (by omega), if_neg (mg_ne (by omega))]
    rw [sw0 (by omega)]
    simp [Format.write, Format.nearest]
    rfl

end F64

/- So that no step of a walk opens them. -/
attribute [irreducible] F64.bitsF F64.keyF F64.magF F64.clsF F64.nextF F64.prevF F64.negW F64.sameB F64.opp F64.K F64.rg F64.sgn F64.isNaN F64.isInf F64.Sv F64.V
