/-
  Plain law: the ops that are written and read; both readers read the same.
-/
import Derived.Test.YtjjpnmeldgnfeaaDoorCn
namespace Go.Proofs.YtjjpnmeldgnfeaaDoor
open Go Go.RowKit Go.Proofs.YtjjpnmeldgnfeaaDoor.PScriptTexts Go.Proofs.YtjjpnmeldgnfeaaDoorW.PrintWords
set_option maxRecDepth 100000

def PutsC (l : List S42) : Prop := ∀ p ∈ l, In40 p.f0 ∧ InB p.f1 ∧ p.f1.length = 40
/-- The ops that a text names. -/
inductive Cn : OpD → Prop
  | begin : Cn ⟨1, 0, 0, 0, []⟩
  | read (h a b : Int) : In40 h → In40 a → In40 b → Cn ⟨2, h, a, b, []⟩
  | write (h : Int) (l : List S42) : In40 h → PutsC l → Cn ⟨3, h, 0, 0, l⟩
  | commit (h : Int) : In40 h → Cn ⟨4, h, 0, 0, []⟩
  | abort (h : Int) : In40 h → Cn ⟨5, h, 0, 0, []⟩
/-- Their words. -/
def wordsO (o : OpD) : List (List UInt8) := if o.k = 1 then [wordL 1] else if o.k = 2 then [wordL 2, Lib.itoa o.h, Lib.itoa o.lba, Lib.itoa o.len] else if o.k = 3 then [wordL 3, Lib.itoa o.h] ++ putsW o.l else if o.k = 4 then [wordL 4, Lib.itoa o.h] else [wordL 5, Lib.itoa o.h]
theorem putsW_blank (l : List S42) (h : ∀ p ∈ l, InB p.f1) : ∀ x ∈ putsW l, (32 : UInt8) ∉ x := by
  intro x hx
  obtain ⟨p, hp, hx⟩ := List.mem_flatMap.1 hx
  rcases List.mem_cons.1 hx with rfl | hx
  · exact itoa_blank _
  · rcases List.mem_cons.1 hx with rfl | hx
    · exact bytesP_blank _ (h p hp)
    · cases hx
theorem okPuts_all (l : List S42) (h : ∀ p ∈ l, p.f1.length = 40) : okPuts l = true := by
  unfold okPuts
  rw [List.all_eq_true]
  intro p hp
  rw [h p hp]; rfl
theorem Cn.words {o : OpD} (h : Cn o) : wordsO o ≠ [] ∧ (∀ x ∈ wordsO o, (32 : UInt8) ∉ x) ∧ textO o = joinW (wordsO o) := by
  cases h with
  | begin => exact ⟨by decide, by decide, rfl⟩
  | read h a b _ _ _ =>
    refine ⟨by simp [wordsO], ?_, by simp [wordsO, textO, textP, joinW, wordL]⟩
    intro x hx
    simp only [wordsO] at hx
    simp at hx
    rcases hx with rfl | rfl | rfl | rfl
    · exact wordL_blank _
    · exact itoa_blank _
    · exact itoa_blank _
    · exact itoa_blank _
  | write h l _ hl =>
    refine ⟨by simp [wordsO], ?_, ?_⟩
    · intro x hx
      simp only [wordsO] at hx
      simp at hx
      rcases hx with rfl | rfl | hx
      · exact wordL_blank _
      · exact itoa_blank _
      · exact putsW_blank l (fun p hp => (hl p hp).2.1) x hx
    · have e : wordsO ⟨3, h, 0, 0, l⟩ = [wordL 3, Lib.itoa h] ++ putsW l := by simp [wordsO]
      rw [e, join_puts _ _ (by simp)]
      simp [textO, textP, okPuts_all l (fun p hp => (hl p hp).2.2), joinW, wordL]
  | commit h _ =>
    refine ⟨by simp [wordsO], ?_, by simp [wordsO, textO, textP, joinW, wordL]⟩
    intro x hx
    simp only [wordsO] at hx
    simp at hx
    rcases hx with rfl | rfl
    · exact wordL_blank _
    · exact itoa_blank _
  | abort h _ =>
    refine ⟨by simp [wordsO], ?_, by simp [wordsO, textO, textP, joinW, wordL]⟩
    intro x hx
    simp only [wordsO] at hx
    simp at hx
    rcases hx with rfl | rfl
    · exact wordL_blank _
    · exact itoa_blank _
theorem Cn.spl {o : OpD} (h : Cn o) : spl [] (textO o) = wordsO o := by rw [h.words.2.2]; exact spl_join _ h.words.1 h.words.2.1

/-! ### script.Parse -/
theorem readPuts_putsW : ∀ (l : List S42), PutsC l → readPuts (putsW l) = some l
  | [], _ => rfl
  | p :: r, h => by
    obtain ⟨h1, h2, h3⟩ := h p (by simp)
    have ih := readPuts_putsW r (fun q hq => h q (by simp [hq]))
    show readPuts (Lib.itoa p.f0 :: bytesP p.f1 :: putsW r) = _
    rw [readPuts, numP_itoa _ h1, unbP_block _ h2 h3, ih]
theorem Cn.parse {o : OpD} (h : Cn o) : parseO (wordsO o) = some o := by
  cases h with
  | begin => rfl
  | read h a b h1 h2 h3 =>
    have e : wordsO ⟨2, h, a, b, []⟩ = [wordL 2, Lib.itoa h, Lib.itoa a, Lib.itoa b] := by simp [wordsO]
    rw [e]
    show (match numP (Lib.itoa h), numP (Lib.itoa a), numP (Lib.itoa b) with | some n, some m, some k => some (⟨2, n, m, k, []⟩ : OpD) | _, _, _ => none) = _
    rw [numP_itoa _ h1, numP_itoa _ h2, numP_itoa _ h3]
  | write h l h1 hl =>
    have e : wordsO ⟨3, h, 0, 0, l⟩ = wordL 3 :: Lib.itoa h :: putsW l := by simp [wordsO]
    rw [e]
    show (match numP (Lib.itoa h), readPuts (putsW l) with | some n, some l => some (⟨3, n, 0, 0, l⟩ : OpD) | _, _ => none) = _
    rw [numP_itoa _ h1, readPuts_putsW l hl]
  | commit h h1 =>
    have e : wordsO ⟨4, h, 0, 0, []⟩ = [wordL 4, Lib.itoa h] := by simp [wordsO]
    rw [e]
    show (numP (Lib.itoa h)).map (fun n => (⟨4, n, 0, 0, []⟩ : OpD)) = _
    rw [numP_itoa _ h1]; rfl
  | abort h h1 =>
    have e : wordsO ⟨5, h, 0, 0, []⟩ = [wordL 5, Lib.itoa h] := by simp [wordsO]
    rw [e]
    show (numP (Lib.itoa h)).map (fun n => (⟨5, n, 0, 0, []⟩ : OpD)) = _
    rw [numP_itoa _ h1]; rfl
theorem unbP_inB (s : List UInt8) : InB (unbP s).1 := by
  unfold unbP
  split
  · exact fun x hx => by have := List.eq_of_mem_replicate hx; omega
  · split
    · exact fun x hx => by cases hx
    · unfold unbV
      split
      · exact fun x hx => by cases hx
      · rename_i bs hbs
        obtain ⟨r1, r2⟩ := pairs_range s bs hbs
        split
        · exact pad40_range _ r1
        · exact fun x hx => by cases hx
theorem readPuts_C : ∀ (ws : List (List UInt8)) (l : List S42), readPuts ws = some l → PutsC l
  | [], l, h => by
    injection h with h; subst h
    exact fun p hp => by cases hp
  | [_], l, h => by cases h
  | a :: d :: r, l, h => by
    rw [readPuts] at h
    split at h
    · rename_i n l' h1 h2 h3
      injection h with h; subst h
      intro p hp
      rcases List.mem_cons.1 hp with rfl | hp
      · exact ⟨numP_range h1, unbP_inB d, unbP_good d h2⟩
      · exact readPuts_C r l' h3 p hp
    · cases h
/-- What is read is an op that a text names. -/
theorem parseO_C (ws : List (List UInt8)) (o : OpD) (h : parseO ws = some o) : Cn o := by
  match ws, h with
  | [], h => cases h
  | x :: r, h =>
    unfold parseO at h
    dsimp only at h
    split at h
    · injection h with h; subst h; exact .begin
    · split at h
      · split at h
        · rename_i h1 h2 h3
          injection h with h; subst h
          exact .read _ _ _ (numP_range h1) (numP_range h2) (numP_range h3)
        · cases h
      · cases h
    · split at h
      · cases h
      · split at h
        · rename_i h1 h2
          injection h with h; subst h
          exact .write _ _ (numP_range h1) (readPuts_C _ _ h2)
        · cases h
    · split at h
      · cases h
      · rename_i a _
        cases hn : numP a with
        | none => rw [hn] at h; cases h
        | some n =>
          rw [hn] at h
          injection h with h; subst h
          exact .commit _ (numP_range hn)
    · split at h
      · cases h
      · rename_i a _
        cases hn : numP a with
        | none => rw [hn] at h; cases h
        | some n =>
          rw [hn] at h
          injection h with h; subst h
          exact .abort _ (numP_range hn)
    · cases h
/-- What script.Parse answers. -/
theorem parseR_C {o : OpD} (h : Cn o) : parseR (textO o) = (o, 0) := by
  unfold parseR
  rw [h.spl, h.parse]
  exact if_pos rfl
theorem parseR_cases (s : List UInt8) : (∃ o, Cn o ∧ textO o = s ∧ parseR s = (o, 0)) ∨ ((∀ o, Cn o → textO o ≠ s) ∧ parseR s = (⟨0, 0, 0, 0, []⟩, 13)) := by
  by_cases h : ∃ o, Cn o ∧ textO o = s
  · obtain ⟨o, h1, rfl⟩ := h
    exact .inl ⟨o, h1, rfl, parseR_C h1⟩
  · have hn : ∀ o, Cn o → textO o ≠ s := fun o h1 h2 => h ⟨o, h1, h2⟩
    refine .inr ⟨hn, ?_⟩
    unfold parseR
    split
    · rfl
    · rename_i o ho
      rw [if_neg (hn o (parseO_C _ _ ho))]

/-! ### the reference's Parse -/
def rdR : List (List UInt8) → Option (List S42)
  | [] => some []
  | [_] => some []
  | a :: d :: r => if (numR a).2 = true ∧ (unbP d).2 = true then (rdR r).map (⟨(numR a).1, (unbP d).1⟩ :: ·) else none
/-- The handle. -/
def hR (k : Nat) (r : List (List UInt8)) : Int × Bool := if k = 1 then (0, true) else match r with | [] => (0, true) | a :: _ => numR a
/-- The range. -/
def laR (k : Nat) (r : List (List UInt8)) : (Int × Int) × Bool := if k = 2 then (match r with | [_, b, c] => (((numR b).1, (numR c).1), (numR b).2 && (numR c).2) | _ => ((0, 0), true)) else ((0, 0), true)
def puR (k : Nat) (r : List (List UInt8)) : Option (List S42) := if k = 3 then rdR r.tail else some []
def refO (ws : List (List UInt8)) : Option OpD := match ws with
  | [] => none
  | x :: r => if (hR (kindOf x) r).2 = true ∧ (laR (kindOf x) r).2 = true then (puR (kindOf x) r).map (fun l => ⟨(kindOf x : Int), (hR (kindOf x) r).1, (laR (kindOf x) r).1.1, (laR (kindOf x) r).1.2, l⟩) else none
def refR (s : List UInt8) : OpD × Int := match refO (spl [] s) with
  | none => (⟨0, 0, 0, 0, []⟩, 13)
  | some o => if o.k ≠ 0 ∧ textO o = s then (o, 0) else (⟨0, 0, 0, 0, []⟩, 13)
theorem rdR_putsW : ∀ (l : List S42), PutsC l → rdR (putsW l) = some l
  | [], _ => rfl
  | p :: r, h => by
    obtain ⟨h1, h2, h3⟩ := h p (by simp)
    have ih := rdR_putsW r (fun q hq => h q (by simp [hq]))
    show rdR (Lib.itoa p.f0 :: bytesP p.f1 :: putsW r) = _
    rw [rdR, numR_itoa _ h1, unbP_block _ h2 h3, ih, if_pos ⟨rfl, rfl⟩]; rfl
theorem rdR_C : ∀ (ws : List (List UInt8)) (l : List S42), rdR ws = some l → PutsC l
  | [], l, h => by
    injection h with h; subst h
    exact fun p hp => by cases hp
  | [_], l, h => by
    injection h with h; subst h
    exact fun p hp => by cases hp
  | a :: d :: r, l, h => by
    rw [rdR] at h
    split at h
    · rename_i h1
      cases h3 : rdR r with
      | none => rw [h3] at h; cases h
      | some l' =>
        rw [h3] at h
        injection h with h; subst h
        intro p hp
        rcases List.mem_cons.1 hp with rfl | hp
        · exact ⟨(numR_good a _ (Prod.ext rfl h1.1)).1, unbP_inB d, unbP_good d h1.2⟩
        · exact rdR_C r l' h3 p hp
    · cases h
theorem Cn.ref {o : OpD} (h : Cn o) : refO (wordsO o) = some o := by
  cases h with
  | begin => rfl
  | read h a b h1 h2 h3 =>
    have e : wordsO ⟨2, h, a, b, []⟩ = [wordL 2, Lib.itoa h, Lib.itoa a, Lib.itoa b] := by simp [wordsO]
    have ek : kindOf (wordL 2) = 2 := by decide
    rw [e, refO, ek]
    simp [hR, laR, puR, numR_itoa _ h1, numR_itoa _ h2, numR_itoa _ h3]
  | write h l h1 hl =>
    have e : wordsO ⟨3, h, 0, 0, l⟩ = wordL 3 :: Lib.itoa h :: putsW l := by simp [wordsO]
    have ek : kindOf (wordL 3) = 3 := by decide
    rw [e, refO, ek]
    simp [hR, laR, puR, numR_itoa _ h1, rdR_putsW l hl]
  | commit h h1 =>
    have e : wordsO ⟨4, h, 0, 0, []⟩ = [wordL 4, Lib.itoa h] := by simp [wordsO]
    have ek : kindOf (wordL 4) = 4 := by decide
    rw [e, refO, ek]
    simp [hR, laR, puR, numR_itoa _ h1]
  | abort h h1 =>
    have e : wordsO ⟨5, h, 0, 0, []⟩ = [wordL 5, Lib.itoa h] := by simp [wordsO]
    have ek : kindOf (wordL 5) = 5 := by decide
    rw [e, refO, ek]
    simp [hR, laR, puR, numR_itoa _ h1]
theorem kindOf_le5 (x : List UInt8) : kindOf x ≤ 5 := by unfold kindOf; repeat' split <;> try omega
theorem in40_zero : In40 0 := ⟨by decide, by decide⟩
theorem hR_in (k : Nat) (r : List (List UInt8)) (h : (hR k r).2 = true) : In40 (hR k r).1 := by
  unfold hR at *
  split
  · exact in40_zero
  · rename_i h0
    rw [if_neg h0] at h
    cases r with
    | nil => exact in40_zero
    | cons a r => exact (numR_good a _ (Prod.ext rfl h)).1
theorem refO_C (ws : List (List UInt8)) (o : OpD) (h : refO ws = some o) (hk : o.k ≠ 0) : Cn o := by
  match ws, h with
  | [], h => cases h
  | x :: r, h =>
    unfold refO at h
    dsimp only at h
    have h5 := kindOf_le5 x
    generalize kindOf x = k at h h5
    split at h
    · rename_i hc
      have hh := hR_in k r hc.1
      cases hp : puR k r with
      | none => rw [hp] at h; cases h
      | some l =>
        rw [hp] at h
        injection h with h; subst h
        obtain rfl | rfl | rfl | rfl | rfl | rfl : k = 0 ∨ k = 1 ∨ k = 2 ∨ k = 3 ∨ k = 4 ∨ k = 5 := by omega
        · exact absurd rfl hk
        · injection hp with hp; subst hp; exact .begin
        · injection hp with hp; subst hp
          refine .read _ _ _ hh ?_ ?_
          · have h2 := hc.2
            unfold laR at h2 ⊢
            rw [if_pos rfl] at h2 ⊢
            split
            · rename_i a b c
              dsimp only at h2
              rw [Bool.and_eq_true] at h2
              exact (numR_good b _ (Prod.ext rfl h2.1)).1
            · exact in40_zero
          · have h2 := hc.2
            unfold laR at h2 ⊢
            rw [if_pos rfl] at h2 ⊢
            split
            · rename_i a b c
              dsimp only at h2
              rw [Bool.and_eq_true] at h2
              exact (numR_good c _ (Prod.ext rfl h2.2)).1
            · exact in40_zero
        · exact .write _ _ hh (rdR_C _ _ hp)
        · injection hp with hp; subst hp; exact .commit _ hh
        · injection hp with hp; subst hp; exact .abort _ hh
    · cases h
theorem Cn.k0 {o : OpD} (h : Cn o) : o.k ≠ 0 := by cases h <;> (dsimp only; decide)
/-- BOTH READ THE SAME. -/
theorem refR_eq (s : List UInt8) : refR s = parseR s := by
  rcases parseR_cases s with ⟨o, h1, rfl, h3⟩ | ⟨h1, h2⟩
  · rw [h3]; unfold refR
    rw [h1.spl, h1.ref]
    exact if_pos ⟨h1.k0, rfl⟩
  · rw [h2]; unfold refR
    split
    · rfl
    · rename_i o ho
      rw [if_neg]
      rintro ⟨hk, ht⟩
      exact h1 o (refO_C _ _ ho hk) ht
end Go.Proofs.YtjjpnmeldgnfeaaDoor
