/-
  Plain law: the small hex digits of a number, and the same at a fixed width.
-/
import Derived.ProofKit
namespace Go.Proofs.YtjepjheklnaidaaDoor

/-- A digit's sign. -/
def hd (d : Nat) : UInt8 := if d < 10 then UInt8.ofNat (48 + d) else UInt8.ofNat (87 + d)
/-- At most so many digits, without noughts ahead. -/
def hexF : Nat → Nat → List UInt8
  | 0, _ => []
  | k + 1, u => if u < 16 then [hd u] else hexF k (u / 16) ++ [hd (u % 16)]
/-- Just so many digits. -/
def hexN : Nat → Nat → List UInt8
  | 0, _ => []
  | k + 1, u => hexN k (u / 16) ++ [hd (u % 16)]
theorem hexN_length : ∀ k u, (hexN k u).length = k
  | 0, _ => rfl
  | k + 1, u => by simp [hexN, hexN_length k]
theorem hexN_zero : ∀ k, hexN k 0 = List.replicate k 48
  | 0 => rfl
  | k + 1 => by
    show hexN k (0 / 16) ++ [hd (0 % 16)] = _
    rw [show 0 / 16 = 0 from rfl, show hd (0 % 16) = 48 by decide, hexN_zero k, List.replicate_succ']
theorem hexF_length : ∀ k u, (hexF k u).length ≤ k
  | 0, _ => Nat.le_refl _
  | k + 1, u => by
    unfold hexF; split
    · simp
    · have := hexF_length k (u / 16); simp; omega
theorem hexF_short : ∀ k j u, 0 < j → u < 16 ^ j → (hexF k u).length ≤ j
  | 0, _, _, _, _ => Nat.zero_le _
  | k + 1, j, u, hj, hu => by
    unfold hexF
    by_cases h : u < 16
    · rw [if_pos h]; simp; omega
    · rw [if_neg h]
      obtain ⟨i, rfl⟩ : ∃ i, j = i + 1 := ⟨j - 1, by omega⟩
      have hi : 0 < i := by rcases i with _ | i; · simp at hu; omega
                            · omega
      have h2 : u / 16 < 16 ^ i := by rw [Nat.div_lt_iff_lt_mul (by omega)]; rw [Nat.pow_succ] at hu; exact hu
      have := hexF_short k i (u / 16) hi h2
      rw [List.length_append, List.length_singleton]; omega
/-- Rounds beyond what the number asks for. -/
theorem hexF_more : ∀ k j u, 0 < j → u < 16 ^ j → j ≤ k → hexF k u = hexF j u
  | 0, j, _, hj, _, hk => absurd hk (by omega)
  | k + 1, j, u, hj, hu, hk => by
    obtain ⟨i, rfl⟩ : ∃ i, j = i + 1 := ⟨j - 1, by omega⟩
    unfold hexF
    by_cases h : u < 16
    · rw [if_pos h, if_pos h]
    · rw [if_neg h, if_neg h]
      have hi : 0 < i := by rcases i with _ | i; · simp at hu; omega
                            · omega
      have h2 : u / 16 < 16 ^ i := by rw [Nat.div_lt_iff_lt_mul (by omega)]; rw [Nat.pow_succ] at hu; exact hu
      rw [hexF_more k i (u / 16) hi h2 (by omega)]
theorem hexF_hexN : ∀ k u, 0 < k → u < 16 ^ k → List.replicate (k - (hexF k u).length) 48 ++ hexF k u = hexN k u
  | 0, _, h, _ => absurd h (by omega)
  | k + 1, u, _, hu => by
    unfold hexF hexN
    by_cases h : u < 16
    · rw [if_pos h, show u / 16 = 0 by omega, hexN_zero, Nat.mod_eq_of_lt h]; simp
    · rw [if_neg h]
      have hk : 0 < k := by rcases k with _ | k; · simp at hu; omega
                            · omega
      have h2 : u / 16 < 16 ^ k := by rw [Nat.div_lt_iff_lt_mul (by omega)]; rw [Nat.pow_succ] at hu; exact hu
      rw [← hexF_hexN k (u / 16) hk h2, List.length_append, ← List.append_assoc]
      congr 3
      simp only [List.length_singleton]; omega
theorem hexF_pad {f : Nat} (hf : f < 2 ^ 52) : List.replicate (13 - (hexF 16 f).length) 48 ++ hexF 16 f = hexN 13 f := by
  rw [hexF_more 16 13 f (by omega) (by rw [show (16 : Nat) ^ 13 = 2 ^ 52 by decide]; exact hf) (by omega)]
  exact hexF_hexN 13 f (by omega) (by rw [show (16 : Nat) ^ 13 = 2 ^ 52 by decide]; exact hf)
/-- One round of the loop. -/
theorem hexF_step {k u0 u : Nat} {l : List UInt8} (he : hexF 16 u0 = hexF (k + 1) u ++ l) (hu : 16 ≤ u) : hexF 16 u0 = hexF k (u / 16) ++ (hd (u % 16) :: l) := by
  rw [he, hexF, if_neg (by omega)]; simp
theorem hexF_last {k u0 u : Nat} {l : List UInt8} (he : hexF 16 u0 = hexF (k + 1) u ++ l) (hu : u < 16) : hexF 16 u0 = hd u :: l := by
  rw [he, hexF, if_pos hu]; rfl
/-- The constant of digits, as a number reads it. -/
def hdI (d : Nat) : Int := ((hd d).toNat : Int)
theorem hd_table (d : Nat) (h : d < 16) : hd d = (#[48, 49, 50, 51, 52, 53, 54, 55, 56, 57, 97, 98, 99, 100, 101, 102] : Array UInt8)[d]! := by
  have : ∀ d : Fin 16, hd d.1 = (#[48, 49, 50, 51, 52, 53, 54, 55, 56, 57, 97, 98, 99, 100, 101, 102] : Array UInt8)[d.1]! := by decide
  exact this ⟨d, h⟩
end Go.Proofs.YtjepjheklnaidaaDoor
