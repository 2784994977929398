/-
  Plain law: what the reference's Parse reads, as functions over lists.
-/
import Derived.Test.YtjepjheklnaidaaDoorRparse
namespace Go.Proofs.YtjepjheklnaidaaDoor
open Go Go.RowKit F64
set_option maxRecDepth 100000

/-- At most so many digits of a fraction, and what is left. -/
def fracL : Nat → Nat → List UInt8 → Nat × List UInt8
  | 0, f, l => (f, l)
  | _ + 1, f, [] => (f, [])
  | j + 1, f, c :: r => if 0 ≤ hexOfI c then fracL j (f ||| ((hexOfI c).toNat * 16 ^ j)) r else (f, c :: r)
/-- An exponent's digits, and what is left. -/
def expL : Nat → List UInt8 → Nat × List UInt8
  | e, [] => (e, [])
  | e, c :: r => if 48 ≤ c.toNat ∧ c.toNat ≤ 57 ∧ e < 10000 then expL (10 * e + (c.toNat - 48)) r else (e, c :: r)
def badV : Value := .tuple #[.float .f64 0, .int .i64 13]
def okV (x : Nat) : Value := .tuple #[.float .f64 x, .int .i64 0]
/-- Behind the p. -/
def rpE (b : Nat) (sl : List UInt8) (normal : Bool) (f : Nat) (neg : Bool) (l4 : List UInt8) : Value :=
  let e : Int := if neg = true then -((expL 0 l4).1 : Int) else ((expL 0 l4).1 : Int)
  if e < -1022 ∨ 1023 < e then badV
  else
    let B := (b ||| (if normal = true then (e + 1023).toNat * 2 ^ 52 else 0)) ||| f
    if textF (bitsF B) = sl then okV (bitsF B) else badV
/-- From the p on. -/
def rpP (b : Nat) (sl : List UInt8) (normal : Bool) (f : Nat) : List UInt8 → Value
  | [] => badV
  | c :: l3 => if c = 112 then (match l3 with
      | [] => rpE b sl normal f false []
      | d :: l4 => if d = 45 then rpE b sl normal f true l4 else rpE b sl normal f false (d :: l4)) else badV
/-- Whatever it is, it is bad or read as it is written. -/
theorem rpP_cases (b : Nat) (sl : List UInt8) (normal : Bool) (f : Nat) (l : List UInt8) : rpP b sl normal f l = badV ∨ ∃ B, rpP b sl normal f l = okV (bitsF B) ∧ textF (bitsF B) = sl := by
  have key : ∀ neg l4, rpE b sl normal f neg l4 = badV ∨ ∃ B, rpE b sl normal f neg l4 = okV (bitsF B) ∧ textF (bitsF B) = sl := by
    intro neg l4
    unfold rpE
    dsimp only
    generalize (if neg = true then -((expL 0 l4).1 : Int) else ((expL 0 l4).1 : Int)) = e
    split
    · exact Or.inl rfl
    · generalize ((b ||| (if normal = true then (e + 1023).toNat * 2 ^ 52 else 0)) ||| f) = B
      split
      · rename_i h
        exact Or.inr ⟨_, rfl, h⟩
      · exact Or.inl rfl
  unfold rpP
  split
  · exact Or.inl rfl
  · split
    · split
      · exact key _ _
      · split
        · exact key _ _
        · exact key _ _
    · exact Or.inl rfl

theorem hexOf_hd : ∀ d : Fin 16, hexOfI (hd d.1) = d.1 := by decide
theorem hexOf_p : ¬ 0 ≤ hexOfI 112 := by decide
/-- What was written is read: the digits of a fraction. -/
theorem fracL_back : ∀ (k u f : Nat) (r : List UInt8), u < 16 ^ k → f % 16 ^ k = 0 → fracL k f (trim (hexN k u) ++ 112 :: r) = (f + u, 112 :: r)
  | 0, u, f, r, h, _ => by
    have : u = 0 := by simpa using h
    subst this
    rfl
  | k + 1, u, f, r, h, hf => by
    have hp : 0 < 16 ^ k := Nat.pow_pos (by omega)
    by_cases h0 : u = 0
    · subst h0
      rw [hexN_zero, trim_noughts, List.nil_append, fracL, if_neg hexOf_p]; rfl
    · have hd16 : u / 16 ^ k < 16 := by rw [Nat.div_lt_iff_lt_mul hp]; rw [Nat.pow_succ, Nat.mul_comm] at h; exact h
      rw [trim_first k u h h0, List.cons_append, fracL]
      have hh := hexOf_hd ⟨_, hd16⟩
      dsimp only at hh
      rw [hh, if_pos (Int.natCast_nonneg _)]
      have e1 : ((u / 16 ^ k : Nat) : Int).toNat = u / 16 ^ k := Int.toNat_natCast _
      rw [e1]
      have hm := Nat.div_add_mod u (16 ^ k)
      have hor : f ||| (u / 16 ^ k * 16 ^ k) = f + u / 16 ^ k * 16 ^ k := by
        have e2 : (16 : Nat) ^ (k + 1) = 2 ^ (4 * (k + 1)) := by rw [Nat.pow_mul]
        have e3 : u / 16 ^ k * 16 ^ k < 2 ^ (4 * (k + 1)) := by rw [← e2, Nat.pow_succ, Nat.mul_comm (16 ^ k)]; exact Nat.mul_lt_mul_of_pos_right hd16 hp
        exact nat_join _ _ _ (by rw [← e2]; exact hf) e3
      rw [hor, fracL_back k (u % 16 ^ k) (f + u / 16 ^ k * 16 ^ k) r (Nat.mod_lt _ hp) (by
        have : f % 16 ^ k = 0 := by
          have h2 : 16 ^ k ∣ f := Nat.dvd_trans ⟨16, by rw [Nat.pow_succ]⟩ (Nat.dvd_of_mod_eq_zero hf)
          exact Nat.mod_eq_zero_of_dvd h2
        rw [Nat.add_mul_mod_self_right, this])]
      rw [Nat.mul_comm] at hm
      congr 1; omega
theorem expL_digit (a d : Nat) (r : List UInt8) (hd : d < 10) (ha : a < 10000) : expL a (UInt8.ofNat (48 + d) :: r) = expL (a * 10 + d) r := by
  have e : (UInt8.ofNat (48 + d)).toNat = 48 + d := by simp only [UInt8.toNat_ofNat']; omega
  rw [expL, e, if_pos ⟨by omega, by omega, ha⟩]
  congr 1; omega
theorem expL_dec (u : Nat) : ∀ r, u < 100000 → expL 0 (Lib.decDigits u ++ r) = expL u r := by
  induction u using Nat.strongRecOn with
  | _ u ih =>
    intro r hu
    rw [Lib.decDigits]
    by_cases h : u < 10
    · rw [dif_pos h, List.cons_append, expL_digit 0 u _ h (by omega)]
      simp
    · rw [dif_neg h, List.append_assoc, ih (u / 10) (by omega) _ (by omega), List.cons_append, expL_digit _ _ _ (by omega) (by omega), List.nil_append]
      congr 1; omega
end Go.Proofs.YtjepjheklnaidaaDoor
