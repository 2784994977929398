/-
  Plain law of ScriptBack: what is written is read as it was; what names a number too far is not read.
-/
import Derived.Test.YtjjpnmeldgnfeaaDoorFp
namespace Go.Proofs.YtjjpnmeldgnfeaaDoor
open Go Go.RowKit Go.Proofs.YtjjpnmeldgnfeaaDoor.PScriptTexts Go.Proofs.YtjjpnmeldgnfeaaDoorW.PrintWords
set_option maxRecDepth 100000

/-- The number that digits spell. -/
def dval (a : Nat) : List UInt8 → Nat
  | [] => a
  | c :: r => dval (10 * a + (c.toNat - 48)) r
theorem dval_app : ∀ (s t : List UInt8) (a : Nat), dval a (s ++ t) = dval (dval a s) t
  | [], _, _ => rfl
  | _ :: r, t, _ => dval_app r t _
theorem dval_one (a d : Nat) (h : d < 10) : dval a [UInt8.ofNat (48 + d)] = 10 * a + d := by
  have e : (UInt8.ofNat (48 + d)).toNat = 48 + d := by simp only [UInt8.toNat_ofNat']; omega
  show 10 * a + ((UInt8.ofNat (48 + d)).toNat - 48) = _
  rw [e]; omega
theorem dval_dec (u : Nat) : dval 0 (Lib.decDigits u) = u := by
  induction u using Nat.strongRecOn with
  | _ u ih =>
    rw [Lib.decDigits]
    by_cases h : u < 10
    · rw [dif_pos h, dval_one _ _ h]; omega
    · rw [dif_neg h, dval_app, ih (u / 10) (by omega), dval_one _ _ (by omega)]; omega
theorem dec_inj {u v : Nat} (h : Lib.decDigits u = Lib.decDigits v) : u = v := by rw [← dval_dec u, h, dval_dec v]
theorem itoa_inj {n m : Int} (h : Lib.itoa n = Lib.itoa m) : n = m := by
  have hno : ∀ u v, 45 :: Lib.decDigits u ≠ Lib.decDigits v := by
    intro u v e
    have := (dec_mem v 45 (by rw [← e]; simp)).1
    exact absurd this (by decide)
  unfold Lib.itoa at h
  by_cases hn : n < 0
  · by_cases hm : m < 0
    · rw [if_pos hn, if_pos hm] at h
      injection h with _ h
      have := dec_inj h
      omega
    · rw [if_pos hn, if_neg hm] at h
      exact absurd h (hno _ _)
  · by_cases hm : m < 0
    · rw [if_neg hn, if_pos hm] at h
      exact absurd h.symm (hno _ _)
    · rw [if_neg hn, if_neg hm] at h
      have := dec_inj h
      omega
/-- No number of it is far. -/
def Near (x : OpD) : Prop := In40 x.h ∧ In40 x.lba ∧ In40 x.len ∧ ∀ p ∈ x.l, In40 p.f0
/-- An op as far as its form names it. -/
def Trim (x : OpD) : Prop := (x.k = 1 → x.h = 0) ∧ (x.k ≠ 2 → x.lba = 0 ∧ x.len = 0) ∧ (x.k ≠ 3 → x.l = [])
theorem near_Cn {x : OpD} (ht : Trim x) (hn : Near x) (hne : textO x ≠ []) (hb : ∀ p ∈ x.l, InB p.f1) : Cn x := by
  obtain ⟨hk, h3⟩ := textO_some x hne
  obtain ⟨k, h, lba, len, l⟩ := x
  obtain ⟨t1, t2, t3⟩ := ht
  obtain ⟨n1, n2, n3, n4⟩ := hn
  dsimp only at *
  rcases hk with rfl | rfl | rfl | rfl | rfl
  · obtain rfl := t1 rfl
    obtain ⟨rfl, rfl⟩ := t2 (by decide)
    obtain rfl := t3 (by decide)
    exact .begin
  · obtain rfl := t3 (by decide)
    exact .read _ _ _ n1 n2 n3
  · obtain ⟨rfl, rfl⟩ := t2 (by decide)
    refine .write _ _ n1 (fun p hp => ⟨n4 p hp, hb p hp, ?_⟩)
    have := h3 rfl
    unfold okPuts at this
    rw [List.all_eq_true] at this
    simpa using this p hp
  · obtain ⟨rfl, rfl⟩ := t2 (by decide)
    obtain rfl := t3 (by decide)
    exact .commit _ n1
  · obtain ⟨rfl, rfl⟩ := t2 (by decide)
    obtain rfl := t3 (by decide)
    exact .abort _ n1
theorem Cn.near {o : OpD} (h : Cn o) : Near o := by
  cases h with
  | begin => exact ⟨in40_zero, in40_zero, in40_zero, fun p hp => by cases hp⟩
  | read h a b h1 h2 h3 => exact ⟨h1, h2, h3, fun p hp => by cases hp⟩
  | write h l h1 hl => exact ⟨h1, in40_zero, in40_zero, fun p hp => (hl p hp).1⟩
  | commit h h1 => exact ⟨h1, in40_zero, in40_zero, fun p hp => by cases hp⟩
  | abort h h1 => exact ⟨h1, in40_zero, in40_zero, fun p hp => by cases hp⟩
theorem putsW_nums : ∀ (l l' : List S42), putsW l = putsW l' → l.map S42.f0 = l'.map S42.f0
  | [], [], _ => rfl
  | [], p :: r, h => by cases h
  | p :: r, [], h => by cases h
  | p :: r, q :: t, h => by
    have h' : Lib.itoa p.f0 :: bytesP p.f1 :: putsW r = Lib.itoa q.f0 :: bytesP q.f1 :: putsW t := h
    injection h' with h1 h2
    injection h2 with _ h3
    rw [List.map_cons, List.map_cons, itoa_inj h1, putsW_nums r t h3]
/-- Alike in their words, alike in their numbers. -/
theorem near_of_words {o x : OpD} (ho : Cn o) (ht : Trim x) (hne : textO x ≠ []) (e : wordsO o = wordsO x) : Near x := by
  obtain ⟨t, e1, _⟩ := wordsO_form x hne
  obtain ⟨t', e2, _⟩ := wordsO_form o ho.text_ne
  have e' := e
  rw [e1, e2] at e'
  injection e' with hw _
  have hk := wordL_inj (textO_some o ho.text_ne).1 (textO_some x hne).1 hw
  obtain ⟨n1, n2, n3, n4⟩ := ho.near
  have hxk := (textO_some x hne).1
  obtain ⟨k, h, lba, len, l⟩ := x
  obtain ⟨k', h', lba', len', l'⟩ := o
  obtain ⟨t1, t2, t3⟩ := ht
  dsimp only at *
  subst hk
  clear e1 e2 hw
  rcases hxk with rfl | rfl | rfl | rfl | rfl
  · obtain rfl := t1 rfl
    obtain ⟨rfl, rfl⟩ := t2 (by decide)
    obtain rfl := t3 (by decide)
    exact ⟨in40_zero, in40_zero, in40_zero, fun p hp => by cases hp⟩
  · obtain rfl := t3 (by decide)
    simp only [wordsO] at e
    simp at e
    obtain ⟨e1, e2, e3⟩ := e
    rw [itoa_inj e1] at n1
    rw [itoa_inj e2] at n2
    rw [itoa_inj e3] at n3
    exact ⟨n1, n2, n3, fun p hp => by cases hp⟩
  · obtain ⟨rfl, rfl⟩ := t2 (by decide)
    simp only [wordsO] at e
    simp at e
    obtain ⟨e1, e2⟩ := e
    rw [itoa_inj e1] at n1
    refine ⟨n1, in40_zero, in40_zero, fun p hp => ?_⟩
    have hm := putsW_nums _ _ e2
    have : p.f0 ∈ l'.map S42.f0 := by rw [hm]; exact List.mem_map_of_mem hp
    obtain ⟨q, hq, hqe⟩ := List.mem_map.1 this
    rw [← hqe]; exact n4 q hq
  · obtain ⟨rfl, rfl⟩ := t2 (by decide)
    obtain rfl := t3 (by decide)
    simp only [wordsO] at e
    simp at e
    rw [itoa_inj e] at n1
    exact ⟨n1, in40_zero, in40_zero, fun p hp => by cases hp⟩
  · obtain ⟨rfl, rfl⟩ := t2 (by decide)
    obtain rfl := t3 (by decide)
    simp only [wordsO] at e
    simp at e
    rw [itoa_inj e] at n1
    exact ⟨n1, in40_zero, in40_zero, fun p hp => by cases hp⟩
theorem back_near {x : OpD} (ht : Trim x) (hn : Near x) (hne : textO x ≠ []) (hb : ∀ p ∈ x.l, InB p.f1) : parseR (textO x) = (x, 0) := parseR_C (near_Cn ht hn hne hb)
theorem back_far {x : OpD} (ht : Trim x) (hn : ¬ Near x) (hne : textO x ≠ []) (hb : ∀ p ∈ x.l, InB p.f1) : parseR (textO x) = (⟨0, 0, 0, 0, []⟩, 13) := bad_of_not fun o ho e => by
  obtain ⟨h1, h2, h3⟩ := gen_words x hne hb
  have hs := ho.spl
  rw [e, h3, spl_join _ h1 h2] at hs
  exact hn (near_of_words ho ht hne hs.symm)
theorem putsP_l40 : ∀ (l : List S42), PutsOk l → okPuts l = true → (putsP l).length ≤ 105 * l.length ∧ lenSum l = 40 * l.length
  | [], _, _ => by simp [putsP, lenSum]
  | p :: r, hok, h40 => by
    have h1 := hok p (by simp)
    unfold okPuts at h40
    rw [List.all_cons, Bool.and_eq_true] at h40
    have hp : p.f1.length = 40 := by simpa using h40.1
    have ih := putsP_l40 r (fun q hq => hok q (by simp [hq])) h40.2
    have h2 := itoa_len p.f0 h1.1.1 h1.1.2
    have h3 := bytesP_len p.f1
    simp only [putsP, List.flatMap_cons, List.length_append, List.length_cons, lenSum, List.map_cons, List.sum_cons] at *
    omega
theorem text_len (k h lba len : Int) (l : List S42) (ih : I64 h) (il : I64 lba) (in_ : I64 len) (hok : PutsOk l) (hsm : l.length + lenSum l ≤ 3000) : (textP k h lba len l).length ≤ 7900 := by
  have h1 := itoa_len h ih.1 ih.2
  have h2 := itoa_len lba il.1 il.2
  have h3 := itoa_len len in_.1 in_.2
  unfold textP
  split
  · simp
  · split
    · simp only [List.length_append, List.length_cons, List.length_nil]; omega
    · split
      · split
        · rename_i hk
          obtain ⟨p1, p2⟩ := putsP_l40 l hok hk
          simp only [List.length_append, List.length_cons, List.length_nil]; omega
        · simp
      · split
        · simp only [List.length_append, List.length_cons, List.length_nil]; omega
        · split
          · simp only [List.length_append, List.length_cons, List.length_nil]; omega
          · simp
end Go.Proofs.YtjjpnmeldgnfeaaDoor
