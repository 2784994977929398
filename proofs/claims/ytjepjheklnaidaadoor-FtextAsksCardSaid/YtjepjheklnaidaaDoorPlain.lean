/-
  Plain law: what is written is read again: decimal and hex digits, the cut at a byte, and the parts of a number's text.
-/
import Derived.Test.YtjepjheklnaidaaDoorTextl
import Derived.Lib.AtoiAll
import Derived.Lib.IndexMore
import Derived.Lib.IndexBytes
namespace Go.Proofs.YtjepjheklnaidaaDoor
open F64 Go Go.RowKit
set_option maxRecDepth 100000

theorem dec_mem (u : Nat) : ∀ c ∈ Lib.decDigits u, 48 ≤ c.toNat ∧ c.toNat ≤ 57 := by
  induction u using Nat.strongRecOn with
  | _ u ih =>
    intro c hc
    rw [Lib.decDigits] at hc
    by_cases h : u < 10
    · rw [dif_pos h] at hc
      simp only [List.mem_singleton] at hc
      subst hc
      simp only [UInt8.toNat_ofNat']; omega
    · rw [dif_neg h] at hc
      rcases List.mem_append.1 hc with hc | hc
      · exact ih (u / 10) (by omega) c hc
      · simp only [List.mem_singleton] at hc
        subst hc
        simp only [UInt8.toNat_ofNat']; omega
theorem dec_ne (u : Nat) : Lib.decDigits u ≠ [] := by
  rw [Lib.decDigits]; split <;> simp
theorem parse_digit (a d : Nat) (r : List UInt8) (hd : d < 10) (ha : a < 1000000000000000000) : Lib.parseUint10 a (UInt8.ofNat (48 + d) :: r) = Lib.parseUint10 (a * 10 + d) r := by
  have e : (UInt8.ofNat (48 + d)).toNat = 48 + d := by simp only [UInt8.toNat_ofNat']; omega
  rw [Lib.parseUint10, e, if_pos (by omega), if_neg (by omega), if_neg (by omega)]
  congr 1; omega
theorem parse_dec (u : Nat) : ∀ r, u < 1000000000000000000 → Lib.parseUint10 0 (Lib.decDigits u ++ r) = Lib.parseUint10 u r := by
  induction u using Nat.strongRecOn with
  | _ u ih =>
    intro r hu
    rw [Lib.decDigits]
    by_cases h : u < 10
    · rw [dif_pos h, List.cons_append, parse_digit 0 u _ h (by omega)]
      simp
    · rw [dif_neg h, List.append_assoc, ih (u / 10) (by omega) _ (by omega), List.cons_append, parse_digit _ _ _ (by omega) (by omega), List.nil_append]
      congr 1; omega
theorem atoi_itoa (n : Int) (h0 : -1000000000000000000 < n) (h1 : n < 1000000000000000000) : Lib.atoiAll (Lib.itoa n) = .ok n := by
  unfold Lib.itoa
  by_cases h : n < 0
  · rw [if_pos h]
    have hp : Lib.parseMag (Lib.decDigits n.natAbs) = .ok n.natAbs := by
      unfold Lib.parseMag
      rw [if_neg (dec_ne _)]
      have := parse_dec n.natAbs [] (by omega)
      rw [List.append_nil] at this
      rw [this]; rfl
    unfold Lib.atoiAll
    simp only [show (45 : UInt8).toNat = 45 from rfl, or_true, if_true, hp, not_true, false_and, if_false, true_and]
    rw [if_neg (by omega)]
    congr 1; omega
  · rw [if_neg h]
    have hp : Lib.parseMag (Lib.decDigits n.toNat) = .ok n.toNat := by
      unfold Lib.parseMag
      rw [if_neg (dec_ne _)]
      have := parse_dec n.toNat [] (by omega)
      rw [List.append_nil] at this
      rw [this]; rfl
    have hm := dec_mem n.toNat
    have hne := dec_ne n.toNat
    cases hd : Lib.decDigits n.toNat with
    | nil => exact absurd hd hne
    | cons c r =>
      rw [hd] at hp hm
      have hc := hm c (by simp)
      have h45 : ¬ c.toNat = 45 := by omega
      have h43 : ¬ c.toNat = 43 := by omega
      have hu : n.toNat < 9223372036854775808 := by omega
      unfold Lib.atoiAll
      simp only [h45, h43, or_self, if_false, hp, not_false_eq_true, true_and, false_and]
      rw [if_neg (by omega)]
      have : (n.toNat : Int) = n := by omega
      rw [this]
theorem itoa_mem (n : Int) : ∀ c ∈ Lib.itoa n, c = 45 ∨ (48 ≤ c.toNat ∧ c.toNat ≤ 57) := by
  intro c hc
  unfold Lib.itoa at hc
  split at hc
  · rcases List.mem_cons.1 hc with h | h
    · exact Or.inl h
    · exact Or.inr (dec_mem _ c h)
  · exact Or.inr (dec_mem _ c hc)

theorem indexByte_hit : ∀ (h r : List UInt8) (c : UInt8), c ∉ h → Lib.indexByte (h ++ c :: r) c = h.length
  | [], r, c, _ => by simp [Lib.indexByte]
  | x :: h, r, c, hm => by
    have hx : (x == c) = false := by rw [beq_eq_false_iff_ne]; intro e; exact hm (by simp [e])
    have ih := indexByte_hit h r c (fun hh => hm (List.mem_cons_of_mem _ hh))
    rw [List.cons_append, Lib.indexByte, hx, ih]
    have : ¬ ((h.length : Int) = -1) := by omega
    simp [this]
theorem indexByte_miss : ∀ (h : List UInt8) (c : UInt8), c ∉ h → Lib.indexByte h c = -1
  | [], c, _ => rfl
  | x :: h, c, hm => by
    have hx : (x == c) = false := by rw [beq_eq_false_iff_ne]; intro e; exact hm (by simp [e])
    have ih := indexByte_miss h c (fun hh => hm (List.mem_cons_of_mem _ hh))
    rw [Lib.indexByte, hx, ih]; rfl
theorem cut_hit (h r : List UInt8) (c : UInt8) (hm : c ∉ h) : Lib.cut (h ++ c :: r) [c] = (h, r, true) := by
  unfold Lib.cut
  rw [Lib.index_one, indexByte_hit h r c hm, if_pos (by omega)]
  simp
theorem cut_miss (h : List UInt8) (c : UInt8) (hm : c ∉ h) : Lib.cut h [c] = (h, [], false) := by
  unfold Lib.cut
  rw [Lib.index_one, indexByte_miss h c hm]
  rfl

theorem hd_mem : ∀ d : Fin 16, hd d.1 ≠ 112 ∧ hd d.1 ≠ 46 := by decide
theorem hexN_mem : ∀ k u, ∀ c ∈ hexN k u, c ≠ 112 ∧ c ≠ 46
  | 0, u, c, hc => by simp [hexN] at hc
  | k + 1, u, c, hc => by
    unfold hexN at hc
    rcases List.mem_append.1 hc with h | h
    · exact hexN_mem k _ c h
    · simp only [List.mem_singleton] at h; subst h
      exact hd_mem ⟨u % 16, Nat.mod_lt _ (by omega)⟩
theorem hexT_mem (f : Nat) : ∀ c ∈ hexT f, c ≠ 112 ∧ c ≠ 46 := by
  intro c hc
  unfold hexT Lib.trimRightB at hc
  have h := (List.dropWhile_sublist (fun x => x == (48 : UInt8)) (l := (hexN 13 f).reverse)).subset (List.mem_reverse.1 hc)
  exact hexN_mem 13 f c (List.mem_reverse.1 h)
/-- What is cut off at the end may be put on again. -/
theorem trim_back (l : List UInt8) (c : UInt8) : Lib.trimRightB l c ++ List.replicate (l.length - (Lib.trimRightB l c).length) c = l := by
  unfold Lib.trimRightB
  have h := List.takeWhile_append_dropWhile (p := fun x => x == c) (l := l.reverse)
  have ht : ∀ m : List UInt8, m.takeWhile (fun x => x == c) = List.replicate (m.takeWhile (fun x => x == c)).length c := fun m => by
    rw [List.eq_replicate_iff]
    refine ⟨rfl, fun b hb => ?_⟩
    have := List.all_takeWhile (p := fun x => x == c) (l := m)
    rw [List.all_eq_true] at this
    simpa using this b hb
  have hl := congrArg List.length h
  rw [List.length_append, List.length_reverse] at hl
  have h2 := congrArg List.reverse h
  rw [List.reverse_reverse, List.reverse_append] at h2
  rw [List.length_reverse, show l.length - (l.reverse.dropWhile (fun x => x == c)).length = (l.reverse.takeWhile (fun x => x == c)).length by omega]
  conv => rhs; rw [← h2]
  congr 1
  rw [ht l.reverse, List.reverse_replicate, List.length_replicate]
theorem hexT_pad (f : Nat) : hexT f ++ List.replicate (13 - (hexT f).length) 48 = hexN 13 f := by
  have h := trim_back (hexN 13 f) 48
  rw [hexN_length] at h
  unfold hexT; exact h
theorem hexT_nil {f : Nat} (hf : f < 2 ^ 52) (h : hexT f = []) : f = 0 := by
  have e := hexT_pad f
  rw [h] at e
  have h1 := hexVal_hexN 13 f 0 (by rw [show (16 : Nat) ^ 13 = 2 ^ 52 by decide]; exact hf)
  rw [← e, List.nil_append] at h1
  have h2 := hexVal_hexN 13 0 0 (by decide)
  rw [hexN_zero] at h2
  rw [show 13 - ([] : List UInt8).length = 13 from rfl, h2] at h1
  have h3 := Option.some.inj h1
  rw [Nat.zero_mul, Nat.zero_add, Nat.zero_add] at h3
  exact h3.symm

/-- The number that the parts spell. -/
theorem join_parts (e f : Nat) (h1 : e ≤ 2047) (hf : f < 2 ^ 52) : bits .or .u64 (IntKind.u64.wrap (IntKind.u64.wrap (wrap64 ((e : Int) - 1023 + 1023)) * 4503599627370496)) (f : Int) = ((e * 2 ^ 52 + f : Nat) : Int) := by
  have e1 : IntKind.u64.wrap (IntKind.u64.wrap (wrap64 ((e : Int) - 1023 + 1023)) * 4503599627370496) = ((e * 2 ^ 52 : Nat) : Int) := by
    have : wrap64 ((e : Int) - 1023 + 1023) = (e : Int) := by unfold wrap64; omega
    rw [this, IntKind.wrap_u64, IntKind.wrap_u64]; omega
  rw [e1, u64_or_nat _ _ (by omega) (by omega), nat_join 52 (e * 2 ^ 52) f (by omega) hf]
theorem headL_mem (e f : Nat) : (112 : UInt8) ∉ headL e f := by
  unfold headL
  intro h
  rcases List.mem_append.1 h with h | h
  · split at h <;> simp at h
  · split at h
    · simp at h
    · rcases List.mem_cons.1 h with h | h
      · exact absurd h (by decide)
      · exact (hexT_mem f _ h).1 rfl
theorem headL_cut (e f : Nat) : ∃ b, Lib.cut (headL e f) [46] = (if e = 0 then [48] else [49], if f = 0 then [] else hexT f, b) := by
  unfold headL
  have h46 : (46 : UInt8) ∉ (if e = 0 then [48] else [49] : List UInt8) := by split <;> simp
  by_cases h : f = 0
  · rw [if_pos h, if_pos h, List.append_nil]
    exact ⟨_, cut_miss _ _ h46⟩
  · rw [if_neg h, if_neg h]
    exact ⟨_, cut_hit _ _ _ h46⟩
theorem textAbs_inf : textAbs INF = [105, 110, 102] := by unfold textAbs; rw [if_pos (by decide)]
theorem textAbs_zero : textAbs 0 = [48] := by unfold textAbs; rw [if_neg (by decide), if_pos rfl]
theorem textAbs_num {m : Nat} (h0 : m ≠ 0) (hI : m / 2 ^ 52 ≠ 2047) : textAbs m = headL (m / 2 ^ 52) (m % 2 ^ 52) ++ 112 :: Lib.itoa (expI (m / 2 ^ 52)) := by
  unfold textAbs; rw [if_neg hI, if_neg h0]
end Go.Proofs.YtjepjheklnaidaaDoor
