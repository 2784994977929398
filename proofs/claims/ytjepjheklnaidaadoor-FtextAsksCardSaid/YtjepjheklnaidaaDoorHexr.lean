/-
  Plain law: the digits of a fraction, the first one first.
-/
import Derived.Test.YtjepjheklnaidaaDoorPlain
namespace Go.Proofs.YtjepjheklnaidaaDoor
open F64
set_option maxRecDepth 100000

theorem hexN_first : ∀ k u, u < 16 ^ (k + 1) → hexN (k + 1) u = hd (u / 16 ^ k) :: hexN k (u % 16 ^ k)
  | 0, u, h => by
    simp only [hexN, Nat.pow_zero, Nat.div_one, List.nil_append]
    rw [Nat.mod_eq_of_lt (by simpa using h)]
  | k + 1, u, h => by
    have h2 : u / 16 < 16 ^ (k + 1) := by rw [Nat.div_lt_iff_lt_mul (by omega)]; rw [Nat.pow_succ] at h; exact h
    have ih := hexN_first k (u / 16) h2
    have e1 : u / 16 / 16 ^ k = u / 16 ^ (k + 1) := by rw [Nat.div_div_eq_div_mul, Nat.pow_succ, Nat.mul_comm]
    have e2 : u % 16 ^ (k + 1) / 16 = u / 16 % 16 ^ k := by rw [Nat.pow_succ, Nat.mul_comm, Nat.mod_mul_right_div_self]
    have e3 : u % 16 ^ (k + 1) % 16 = u % 16 := by rw [Nat.pow_succ]; exact Nat.mod_mul_left_mod _ _ _
    rw [hexN, ih, e1]
    conv => rhs; rw [hexN, e2, e3]
    rfl
def trim (l : List UInt8) : List UInt8 := Lib.trimRightB l 48
theorem trim_cons (c : UInt8) (l : List UInt8) : trim (c :: l) = if trim l = [] then (if c = 48 then [] else [c]) else c :: trim l := by
  unfold trim Lib.trimRightB
  rw [List.reverse_cons, List.dropWhile_append]
  by_cases h : (l.reverse.dropWhile fun x => x == 48).isEmpty = true
  · have h' : l.reverse.dropWhile (fun x => x == 48) = [] := by simpa using h
    rw [if_pos h, h']
    by_cases hc : c = 48
    · simp [hc]
    · simp [hc]
  · have h' : l.reverse.dropWhile (fun x => x == 48) ≠ [] := by simpa using h
    rw [if_neg h]
    simp [h']
theorem hd_nought : ∀ d : Fin 16, hd d.1 = 48 → d.1 = 0 := by decide
theorem trim_noughts : ∀ k, trim (List.replicate k 48) = []
  | 0 => rfl
  | k + 1 => by rw [List.replicate_succ, trim_cons, trim_noughts k, if_pos rfl, if_pos rfl]
theorem trim_nil : ∀ k u, u < 16 ^ k → trim (hexN k u) = [] → u = 0
  | 0, u, h, _ => by simpa using h
  | k + 1, u, h, ht => by
    rw [hexN_first k u h, trim_cons] at ht
    have hp : 0 < 16 ^ k := Nat.pow_pos (by omega)
    have hd16 : u / 16 ^ k < 16 := by rw [Nat.div_lt_iff_lt_mul hp]; rw [Nat.pow_succ, Nat.mul_comm] at h; exact h
    by_cases h1 : trim (hexN k (u % 16 ^ k)) = []
    · rw [if_pos h1] at ht
      have h2 := trim_nil k _ (Nat.mod_lt _ hp) h1
      by_cases h3 : hd (u / 16 ^ k) = 48
      · have h4 := hd_nought ⟨_, hd16⟩ h3
        have := Nat.div_add_mod u (16 ^ k)
        dsimp only at h4
        rw [h4, h2] at this; simpa using this.symm
      · rw [if_neg h3] at ht; simp at ht
    · rw [if_neg h1] at ht; simp at ht
/-- The first digit, and what is left. -/
theorem trim_first (k u : Nat) (h : u < 16 ^ (k + 1)) (h0 : u ≠ 0) : trim (hexN (k + 1) u) = hd (u / 16 ^ k) :: trim (hexN k (u % 16 ^ k)) := by
  rw [hexN_first k u h, trim_cons]
  have hp : 0 < 16 ^ k := Nat.pow_pos (by omega)
  by_cases h1 : trim (hexN k (u % 16 ^ k)) = []
  · rw [if_pos h1, h1]
    have h2 := trim_nil k _ (Nat.mod_lt _ hp) h1
    rw [if_neg]
    intro h3
    have hd16 : u / 16 ^ k < 16 := by rw [Nat.div_lt_iff_lt_mul hp]; rw [Nat.pow_succ, Nat.mul_comm] at h; exact h
    have h4 := hd_nought ⟨_, hd16⟩ h3
    have := Nat.div_add_mod u (16 ^ k)
    dsimp only at h4
    rw [h4, h2] at this
    exact h0 (by simpa using this.symm)
  · rw [if_neg h1]
theorem hexT_trim (f : Nat) : hexT f = trim (hexN 13 f) := by unfold hexT; rfl
end Go.Proofs.YtjepjheklnaidaaDoor
