/-
  Plain law: what is written is read again: numbers, bytes, words.
-/
import Derived.Test.YtjjpnmeldgnfeaaDoorPp
namespace Go.Proofs.YtjjpnmeldgnfeaaDoor
open Go Go.RowKit Go.Proofs.YtjjpnmeldgnfeaaDoor.PScriptTexts Go.Proofs.YtjjpnmeldgnfeaaDoorW.PrintWords
set_option maxRecDepth 100000

theorem dec_mem (u : Nat) : ∀ c ∈ Lib.decDigits u, 48 ≤ c.toNat ∧ c.toNat ≤ 57 := by
  induction u using Nat.strongRecOn with
  | _ u ih =>
    intro c hc
    rw [Lib.decDigits] at hc
    by_cases h : u < 10
    · rw [dif_pos h] at hc
      simp only [List.mem_singleton] at hc
      subst hc
      simp only [UInt8.toNat_ofNat']; omega
    · rw [dif_neg h] at hc
      rcases List.mem_append.1 hc with hc | hc
      · exact ih (u / 10) (by omega) c hc
      · simp only [List.mem_singleton] at hc
        subst hc
        simp only [UInt8.toNat_ofNat']; omega
theorem dec_ne (u : Nat) : Lib.decDigits u ≠ [] := by
  rw [Lib.decDigits]; split <;> simp
theorem parse_digit (a d : Nat) (r : List UInt8) (hd : d < 10) (ha : a < 1000000000000000000) : Lib.parseUint10 a (UInt8.ofNat (48 + d) :: r) = Lib.parseUint10 (a * 10 + d) r := by
  have e : (UInt8.ofNat (48 + d)).toNat = 48 + d := by simp only [UInt8.toNat_ofNat']; omega
  rw [Lib.parseUint10, e, if_pos (by omega), if_neg (by omega), if_neg (by omega)]
  congr 1; omega
theorem parse_dec (u : Nat) : ∀ r, u < 1000000000000000000 → Lib.parseUint10 0 (Lib.decDigits u ++ r) = Lib.parseUint10 u r := by
  induction u using Nat.strongRecOn with
  | _ u ih =>
    intro r hu
    rw [Lib.decDigits]
    by_cases h : u < 10
    · rw [dif_pos h, List.cons_append, parse_digit 0 u _ h (by omega)]
      simp
    · rw [dif_neg h, List.append_assoc, ih (u / 10) (by omega) _ (by omega), List.cons_append, parse_digit _ _ _ (by omega) (by omega), List.nil_append]
      congr 1; omega
theorem atoi_itoa (n : Int) (h0 : -1000000000000000000 < n) (h1 : n < 1000000000000000000) : Lib.atoiAll (Lib.itoa n) = .ok n := by
  unfold Lib.itoa
  by_cases h : n < 0
  · rw [if_pos h]
    have hp : Lib.parseMag (Lib.decDigits n.natAbs) = .ok n.natAbs := by
      unfold Lib.parseMag
      rw [if_neg (dec_ne _)]
      have := parse_dec n.natAbs [] (by omega)
      rw [List.append_nil] at this
      rw [this]; rfl
    unfold Lib.atoiAll
    simp only [show (45 : UInt8).toNat = 45 from rfl, or_true, if_true, hp, not_true, false_and, if_false, true_and]
    rw [if_neg (by omega)]
    congr 1; omega
  · rw [if_neg h]
    have hp : Lib.parseMag (Lib.decDigits n.toNat) = .ok n.toNat := by
      unfold Lib.parseMag
      rw [if_neg (dec_ne _)]
      have := parse_dec n.toNat [] (by omega)
      rw [List.append_nil] at this
      rw [this]; rfl
    have hm := dec_mem n.toNat
    have hne := dec_ne n.toNat
    cases hd : Lib.decDigits n.toNat with
    | nil => exact absurd hd hne
    | cons c r =>
      rw [hd] at hp hm
      have hc := hm c (by simp)
      have h45 : ¬ c.toNat = 45 := by omega
      have h43 : ¬ c.toNat = 43 := by omega
      have hu : n.toNat < 9223372036854775808 := by omega
      unfold Lib.atoiAll
      simp only [h45, h43, or_self, if_false, hp, not_false_eq_true, true_and, false_and]
      rw [if_neg (by omega)]
      have : (n.toNat : Int) = n := by omega
      rw [this]
theorem itoa_mem (n : Int) : ∀ c ∈ Lib.itoa n, c = 45 ∨ (48 ≤ c.toNat ∧ c.toNat ≤ 57) := by
  intro c hc
  unfold Lib.itoa at hc
  split at hc
  · rcases List.mem_cons.1 hc with h | h
    · exact Or.inl h
    · exact Or.inr (dec_mem _ c h)
  · exact Or.inr (dec_mem _ c hc)
/-- A number of a script's. -/
def In40 (n : Int) : Prop := -1099511627776 ≤ n ∧ n ≤ 1099511627776
theorem numP_itoa (n : Int) (h : In40 n) : numP (Lib.itoa n) = some n := by
  unfold numP
  rw [atoi_itoa n (by have := h.1; omega) (by have := h.2; omega)]
  exact if_pos h
theorem numP_far (n : Int) (h0 : -1000000000000000000 < n) (h1 : n < 1000000000000000000) (h : ¬ In40 n) : numP (Lib.itoa n) = none := by
  unfold numP
  rw [atoi_itoa n h0 h1]
  exact if_neg h
/-! ### the reference's numbers -/
theorem numL_dec (u : Nat) : ∀ r, u ≤ 10995116277769 → numL 0 (Lib.decDigits u ++ r) = numL u r := by
  induction u using Nat.strongRecOn with
  | _ u ih =>
    intro r hu
    rw [Lib.decDigits]
    have step : ∀ (a d : Nat) (r : List UInt8), d < 10 → a ≤ 1099511627776 → numL a (UInt8.ofNat (48 + d) :: r) = numL (10 * a + d) r := by
      intro a d r hd ha
      have e : (UInt8.ofNat (48 + d)).toNat = 48 + d := by simp only [UInt8.toNat_ofNat']; omega
      rw [numL, e, if_pos ⟨by omega, by omega, ha⟩]
      congr 1; omega
    by_cases h : u < 10
    · rw [dif_pos h, List.cons_append, step 0 u _ h (by omega)]
      simp
    · rw [dif_neg h, List.append_assoc, ih (u / 10) (by omega) _ (by omega), List.cons_append, step _ _ _ (by omega) (by omega), List.nil_append]
      congr 1; omega
theorem numR_itoa (n : Int) (h : In40 n) : numR (Lib.itoa n) = (n, true) := by
  have hC : numC n (Lib.itoa n) = (n, true) := if_pos ⟨h.2, h.1, rfl⟩
  by_cases hn : n < 0
  · have e : Lib.itoa n = 45 :: Lib.decDigits n.natAbs := by unfold Lib.itoa; rw [if_pos hn]
    have hl := numL_dec n.natAbs [] (by have := h.1; omega)
    rw [List.append_nil] at hl
    rw [e] at hC ⊢
    rw [numR, if_pos rfl, hl]
    show numE true _ (some n.natAbs) = _
    rw [numE, if_pos rfl, show -(n.natAbs : Int) = n by omega]
    exact hC
  · have e : Lib.itoa n = Lib.decDigits n.toNat := by unfold Lib.itoa; rw [if_neg hn]
    have hl := numL_dec n.toNat [] (by have := h.2; omega)
    rw [List.append_nil] at hl
    rw [e] at hC ⊢
    have hm := dec_mem n.toNat
    have hne := dec_ne n.toNat
    cases hd : Lib.decDigits n.toNat with
    | nil => exact absurd hd hne
    | cons c r =>
      rw [hd] at hl hm hC
      have hc := hm c (by simp)
      have h45 : ¬ c = 45 := fun e => by rw [e] at hc; exact absurd hc.1 (by decide)
      rw [numR, if_neg h45, hl]
      show numE false _ (some n.toNat) = _
      rw [numE, if_neg (by decide), show ((n.toNat : Nat) : Int) = n by omega]
      exact hC
theorem numC_good (n : Int) (s : List UInt8) (m : Int) (h : numC n s = (m, true)) : m = n ∧ In40 n ∧ Lib.itoa n = s := by
  unfold numC at h
  split at h
  · rename_i hc
    injection h with h1 _
    exact ⟨h1.symm, ⟨hc.2.1, hc.1⟩, hc.2.2⟩
  · injection h with _ h2; cases h2
theorem numR_good (s : List UInt8) (m : Int) (h : numR s = (m, true)) : In40 m ∧ Lib.itoa m = s := by
  have hE : ∀ neg r, numE neg s r = (m, true) → In40 m ∧ Lib.itoa m = s := by
    intro neg r h
    cases r with
    | none => injection h with _ h2; cases h2
    | some u =>
      obtain ⟨rfl, h2, h3⟩ := numC_good _ _ _ h
      exact ⟨h2, h3⟩
  unfold numR at h
  split at h
  · exact hE _ _ h
  · split at h
    · exact hE _ _ h
    · exact hE _ _ h
/-! ### no blanks -/
theorem itoa_blank (n : Int) : (32 : UInt8) ∉ Lib.itoa n := by
  intro h
  rcases itoa_mem n 32 h with h | h
  · exact absurd h (by decide)
  · exact absurd h.1 (by decide)
theorem hd_mem (d : Nat) (h : d < 16) : (48 ≤ (hd d).toNat ∧ (hd d).toNat ≤ 57) ∨ (97 ≤ (hd d).toNat ∧ (hd d).toNat ≤ 102) := by
  unfold hd
  split
  · left; simp only [UInt8.toNat_ofNat']; omega
  · right; simp only [UInt8.toNat_ofNat']; omega
theorem bytesP_blank (l : List Int) (hm : InB l) : (32 : UInt8) ∉ bytesP l := by
  intro h
  unfold bytesP at h
  split at h
  · simp at h
  · obtain ⟨c, hc, hx⟩ := List.mem_flatMap.1 h
    have hcl : c ∈ l := by
      unfold stripZ at hc
      have := (List.dropWhile_sublist _).mem (List.mem_reverse.1 hc)
      exact List.mem_reverse.1 this
    obtain ⟨h0, h1⟩ := hm c hcl
    unfold hexB at hx
    have e32 : (32 : UInt8).toNat = 32 := rfl
    rcases List.mem_cons.1 hx with hx | hx
    · have := hd_mem (c.toNat / 16) (by omega)
      rw [← hx, e32] at this; omega
    · rcases List.mem_cons.1 hx with hx | hx
      · have := hd_mem (c.toNat % 16) (by omega)
        rw [← hx, e32] at this; omega
      · cases hx
theorem wordL_blank (k : Int) : (32 : UInt8) ∉ wordL k := by
  unfold wordL
  repeat' split
  all_goals decide
/-- Words without blanks, joined, are cut again. -/
theorem spl_join : ∀ (ws : List (List UInt8)), ws ≠ [] → (∀ x ∈ ws, (32 : UInt8) ∉ x) → spl [] (joinW ws) = ws
  | [], h, _ => absurd rfl h
  | [a], _, h => by rw [joinW, spl_miss _ _ (h a (by simp)), List.nil_append]
  | a :: b :: r, _, h => by
    rw [joinW, spl_hit _ _ _ (h a (by simp)), List.nil_append, spl_join (b :: r) (by simp) (fun x hx => h x (by simp [hx]))]
/-! ### bytes are read again -/
theorem hv_hd (d : Nat) (h : d < 16) : hv (hd d) = (d : Int) := by
  have : ∀ d : Fin 16, hv (hd d.1) = (d.1 : Int) := by decide
  exact this ⟨d, h⟩
theorem pairs_hex : ∀ (l : List Int), InB l → pairs (l.flatMap hexB) = some l
  | [], _ => rfl
  | c :: r, h => by
    obtain ⟨h0, h1⟩ := h c (by simp)
    have ih := pairs_hex r (fun x hx => h x (by simp [hx]))
    have e1 := hv_hd (c.toNat / 16) (by omega)
    have e2 := hv_hd (c.toNat % 16) (by omega)
    rw [List.flatMap_cons]
    show pairs (hd (c.toNat / 16) :: hd (c.toNat % 16) :: r.flatMap hexB) = _
    rw [pairs, e1, e2, if_pos ⟨by omega, by omega⟩, ih]
    have e3 : 16 * ((c.toNat / 16 : Nat) : Int) + ((c.toNat % 16 : Nat) : Int) = c := by omega
    rw [e3]; rfl
theorem stripZ_pad_n : ∀ (n : Nat) (l : List Int), l.length = n → l = stripZ l ++ List.replicate (l.length - (stripZ l).length) 0 := by
  intro n
  induction n with
  | zero => intro l hl; rw [List.eq_nil_of_length_eq_zero hl]; simp [stripZ]
  | succ n ihn =>
    intro l hl
    rcases snoc_cases l with rfl | ⟨m, c, rfl⟩
    · cases hl
    · by_cases hc : c = 0
      · subst hc
        have ih := ihn m (by rw [List.length_append, List.length_singleton] at hl; omega)
        have hle : (stripZ m).length ≤ m.length := by have := congrArg List.length ih; rw [List.length_append] at this; omega
        rw [stripZ_zero, List.length_append, List.length_singleton, show m.length + 1 - (stripZ m).length = (m.length - (stripZ m).length) + 1 by omega, List.replicate_succ', ← List.append_assoc, ← ih]
      · rw [stripZ_end _ _ hc]; simp
theorem stripZ_pad (l : List Int) : l = stripZ l ++ List.replicate (l.length - (stripZ l).length) 0 := stripZ_pad_n _ l rfl
theorem stripZ_len (l : List Int) : (stripZ l).length ≤ l.length := by have := congrArg List.length (stripZ_pad l); rw [List.length_append] at this; omega
theorem stripZ_mem (l : List Int) (x : Int) (h : x ∈ stripZ l) : x ∈ l := by rw [stripZ_pad l]; exact List.mem_append_left _ h
/-- Bytes with the noughts that a block wants. -/
theorem pad40_strip (l : List Int) (h : l.length ≤ 40) : pad40 (stripZ l) = pad40 l := by
  have e := stripZ_pad l
  have hl := stripZ_len l
  unfold pad40
  conv => rhs; rw [e]
  rw [List.append_assoc]
  congr 1
  rw [List.replicate_append_replicate]
  congr 1
  rw [List.length_append, List.length_replicate]; omega
theorem flatH_len (l : List Int) : (l.flatMap hexB).length = 2 * l.length := by
  induction l with
  | nil => rfl
  | cons c r ih => rw [List.flatMap_cons, List.length_append, ih]; simp [hexB]; omega
theorem bytesP_pad (l : List Int) : bytesP (pad40 l) = bytesP l := by
  have e : ∀ n, stripZ (l ++ List.replicate n 0) = stripZ l := by
    intro n
    induction n with
    | zero => simp
    | succ n ih => rw [List.replicate_succ', ← List.append_assoc, stripZ_zero, ih]
  unfold bytesP pad40
  rw [e]
theorem unbP_bytes (l : List Int) (hm : InB l) (h : l.length ≤ 40) : unbP (bytesP l) = (pad40 l, true) := by
  have hlen := stripZ_len l
  have hb : bytesP (pad40 (stripZ l)) = bytesP l := by rw [pad40_strip l h, bytesP_pad l]
  unfold unbP
  by_cases hz : stripZ l = []
  · have : bytesP l = [45] := by unfold bytesP; rw [if_pos hz]
    rw [if_pos this, ← pad40_strip l h, hz]; rfl
  · have e : bytesP l = (stripZ l).flatMap hexB := by unfold bytesP; rw [if_neg hz]
    have hl := flatH_len (stripZ l)
    have h45 : bytesP l ≠ [45] := fun e2 => by rw [e] at e2; have := congrArg List.length e2; rw [hl] at this; simp at this; omega
    rw [if_neg h45, if_neg (by rw [e, hl]; omega)]
    unfold unbV
    rw [e, pairs_hex _ (fun x hx => hm x (stripZ_mem l x hx))]
    dsimp only
    rw [List.nil_append, hb, if_pos e, pad40_strip l h]
theorem pad40_full (l : List Int) (h : l.length = 40) : pad40 l = l := by unfold pad40; rw [h]; simp
theorem unbP_block (l : List Int) (hm : InB l) (h : l.length = 40) : unbP (bytesP l) = (l, true) := by rw [unbP_bytes l hm (by omega), pad40_full l h]
theorem unbP_good (s : List UInt8) (h : (unbP s).2 = true) : (unbP s).1.length = 40 := by
  unfold unbP at *
  split
  · simp
  · rename_i h0
    rw [if_neg h0] at h
    split
    · rename_i h1; rw [if_pos h1] at h; cases h
    · rename_i h1
      rw [if_neg h1] at h
      unfold unbV at *
      cases hp : pairs s with
      | none => rw [hp] at h; cases h
      | some bs =>
        rw [hp] at h
        obtain ⟨_, r2⟩ := pairs_range s bs hp
        dsimp only at h ⊢
        split
        · exact pad40_len _ (by simp; omega)
        · rename_i h2; rw [if_neg h2] at h; cases h
end Go.Proofs.YtjjpnmeldgnfeaaDoor
