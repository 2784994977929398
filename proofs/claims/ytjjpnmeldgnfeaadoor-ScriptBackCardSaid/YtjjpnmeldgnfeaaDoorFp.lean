/-
  Plain law of ScriptForms: a text that is turned a little is no op's.
-/
import Derived.Test.YtjjpnmeldgnfeaaDoorCo
namespace Go.Proofs.YtjjpnmeldgnfeaaDoor
open Go Go.RowKit Go.Proofs.YtjjpnmeldgnfeaaDoor.PScriptTexts Go.Proofs.YtjjpnmeldgnfeaaDoorW.PrintWords
set_option maxRecDepth 100000

/-- A text of an op: its kind is one, and its puts are whole. -/
theorem textO_some (o : OpD) (h : textO o ≠ []) : (o.k = 1 ∨ o.k = 2 ∨ o.k = 3 ∨ o.k = 4 ∨ o.k = 5) ∧ (o.k = 3 → okPuts o.l = true) := by
  unfold textO textP at h
  by_cases h1 : o.k = 1
  · exact ⟨.inl h1, fun h3 => by omega⟩
  · by_cases h2 : o.k = 2
    · exact ⟨.inr (.inl h2), fun h3 => by omega⟩
    · by_cases h3 : o.k = 3
      · refine ⟨.inr (.inr (.inl h3)), fun _ => ?_⟩
        rw [if_neg h1, if_neg h2, if_pos h3] at h
        by_cases hk : okPuts o.l = true
        · exact hk
        · rw [if_neg hk] at h; exact absurd rfl h
      · by_cases h4 : o.k = 4
        · exact ⟨.inr (.inr (.inr (.inl h4))), fun h3 => by omega⟩
        · by_cases h5 : o.k = 5
          · exact ⟨.inr (.inr (.inr (.inr h5))), fun h3 => by omega⟩
          · rw [if_neg h1, if_neg h2, if_neg h3, if_neg h4, if_neg h5] at h; exact absurd rfl h
/-- The words of a text. -/
theorem gen_words (o : OpD) (h : textO o ≠ []) (hb : ∀ p ∈ o.l, InB p.f1) : wordsO o ≠ [] ∧ (∀ x ∈ wordsO o, (32 : UInt8) ∉ x) ∧ textO o = joinW (wordsO o) := by
  obtain ⟨hk, h3⟩ := textO_some o h
  obtain ⟨k, hh, lba, len, l⟩ := o
  dsimp only at hk h3 hb
  rcases hk with rfl | rfl | rfl | rfl | rfl
  · exact ⟨by simp [wordsO], (by intro x hx; simp only [wordsO] at hx; simp at hx; subst hx; exact wordL_blank _), rfl⟩
  · refine ⟨by simp [wordsO], ?_, by simp [wordsO, textO, textP, joinW, wordL]⟩
    intro x hx
    simp only [wordsO] at hx
    simp at hx
    rcases hx with rfl | rfl | rfl | rfl
    · exact wordL_blank _
    · exact itoa_blank _
    · exact itoa_blank _
    · exact itoa_blank _
  · refine ⟨by simp [wordsO], ?_, ?_⟩
    · intro x hx
      simp only [wordsO] at hx
      simp at hx
      rcases hx with rfl | rfl | hx
      · exact wordL_blank _
      · exact itoa_blank _
      · exact putsW_blank l hb x hx
    · have e : wordsO ⟨3, hh, lba, len, l⟩ = [wordL 3, Lib.itoa hh] ++ putsW l := by simp [wordsO]
      rw [e, join_puts _ _ (by simp)]
      simp [textO, textP, h3 rfl, joinW, wordL]
  · refine ⟨by simp [wordsO], ?_, by simp [wordsO, textO, textP, joinW, wordL]⟩
    intro x hx
    simp only [wordsO] at hx
    simp at hx
    rcases hx with rfl | rfl
    · exact wordL_blank _
    · exact itoa_blank _
  · refine ⟨by simp [wordsO], ?_, by simp [wordsO, textO, textP, joinW, wordL]⟩
    intro x hx
    simp only [wordsO] at hx
    simp at hx
    rcases hx with rfl | rfl
    · exact wordL_blank _
    · exact itoa_blank _
theorem spl_join_more : ∀ (ws : List (List UInt8)) (t : List UInt8), ws ≠ [] → (∀ x ∈ ws, (32 : UInt8) ∉ x) → spl [] (joinW ws ++ 32 :: t) = ws ++ spl [] t
  | [], _, h, _ => absurd rfl h
  | [a], t, _, h => by rw [joinW, spl_hit _ _ _ (h a (by simp))]; rfl
  | a :: b :: r, t, _, h => by
    rw [joinW, List.append_assoc, List.cons_append, spl_hit _ _ _ (h a (by simp)), List.nil_append, spl_join_more (b :: r) t (by simp) (fun x hx => h x (by simp [hx]))]
    rfl
theorem itoa_ne (n : Int) : Lib.itoa n ≠ [] := by
  unfold Lib.itoa
  split
  · simp
  · exact dec_ne _
theorem bytesP_ne (l : List Int) : bytesP l ≠ [] := by
  rcases h : stripZ l with _ | ⟨c, r⟩
  · unfold bytesP; rw [if_pos h]; simp
  · unfold bytesP; rw [if_neg (by rw [h]; simp), h, List.flatMap_cons]; simp [hexB]
theorem Cn.ne {o : OpD} (h : Cn o) : ∀ x ∈ wordsO o, x ≠ [] := by
  intro x hx
  cases h with
  | begin => simp only [wordsO] at hx; simp at hx; subst hx; decide
  | read h a b _ _ _ =>
    simp only [wordsO] at hx
    simp at hx
    rcases hx with rfl | rfl | rfl | rfl
    · decide
    · exact itoa_ne _
    · exact itoa_ne _
    · exact itoa_ne _
  | write h l _ hl =>
    simp only [wordsO] at hx
    simp at hx
    rcases hx with rfl | rfl | hx
    · decide
    · exact itoa_ne _
    · obtain ⟨p, _, hx⟩ := List.mem_flatMap.1 hx
      rcases List.mem_cons.1 hx with rfl | hx
      · exact itoa_ne _
      · rcases List.mem_cons.1 hx with rfl | hx
        · exact bytesP_ne _
        · cases hx
  | commit h _ =>
    simp only [wordsO] at hx
    simp at hx
    rcases hx with rfl | rfl
    · decide
    · exact itoa_ne _
  | abort h _ =>
    simp only [wordsO] at hx
    simp at hx
    rcases hx with rfl | rfl
    · decide
    · exact itoa_ne _
/-! ### the letters -/
theorem bytesP_mem (l : List Int) (hm : InB l) : ∀ c ∈ bytesP l, c = 45 ∨ (48 ≤ c.toNat ∧ c.toNat ≤ 57) ∨ (97 ≤ c.toNat ∧ c.toNat ≤ 102) := by
  intro c h
  unfold bytesP at h
  split at h
  · exact .inl (by simpa using h)
  · obtain ⟨b, hb, hx⟩ := List.mem_flatMap.1 h
    obtain ⟨h0, h1⟩ := hm b (stripZ_mem l b hb)
    unfold hexB at hx
    rcases List.mem_cons.1 hx with rfl | hx
    · exact .inr (hd_mem _ (by omega))
    · rcases List.mem_cons.1 hx with rfl | hx
      · exact .inr (hd_mem _ (by omega))
      · cases hx
def Letter (c : UInt8) : Prop := c ≠ 120 ∧ c ≠ 10
theorem letter_num {n : Int} {c : UInt8} (h : c ∈ Lib.itoa n) : Letter c := by
  rcases itoa_mem n c h with rfl | h
  · exact ⟨by decide, by decide⟩
  · exact ⟨by rintro rfl; exact absurd h.2 (by decide), by rintro rfl; exact absurd h.1 (by decide)⟩
theorem letter_bytes {l : List Int} (hm : InB l) {c : UInt8} (h : c ∈ bytesP l) : Letter c := by
  rcases bytesP_mem l hm c h with rfl | h | h
  · exact ⟨by decide, by decide⟩
  · exact ⟨by rintro rfl; exact absurd h.2 (by decide), by rintro rfl; exact absurd h.1 (by decide)⟩
  · exact ⟨by rintro rfl; exact absurd h.2 (by decide), by rintro rfl; exact absurd h.1 (by decide)⟩
theorem letter_word (k : Int) : ∀ c ∈ wordL k, Letter c := by
  unfold wordL Letter
  repeat' split
  all_goals decide
theorem Cn.letters {o : OpD} (h : Cn o) : ∀ x ∈ wordsO o, ∀ c ∈ x, Letter c := by
  intro x hx c hc
  cases h with
  | begin => simp only [wordsO] at hx; simp at hx; subst hx; exact letter_word _ c hc
  | read h a b _ _ _ =>
    simp only [wordsO] at hx
    simp at hx
    rcases hx with rfl | rfl | rfl | rfl
    · exact letter_word _ c hc
    · exact letter_num hc
    · exact letter_num hc
    · exact letter_num hc
  | write h l _ hl =>
    simp only [wordsO] at hx
    simp at hx
    rcases hx with rfl | rfl | hx
    · exact letter_word _ c hc
    · exact letter_num hc
    · obtain ⟨p, hp, hx⟩ := List.mem_flatMap.1 hx
      rcases List.mem_cons.1 hx with rfl | hx
      · exact letter_num hc
      · rcases List.mem_cons.1 hx with rfl | hx
        · exact letter_bytes (hl p hp).2.1 hc
        · cases hx
  | commit h _ =>
    simp only [wordsO] at hx
    simp at hx
    rcases hx with rfl | rfl
    · exact letter_word _ c hc
    · exact letter_num hc
  | abort h _ =>
    simp only [wordsO] at hx
    simp at hx
    rcases hx with rfl | rfl
    · exact letter_word _ c hc
    · exact letter_num hc
theorem join_mem : ∀ (ws : List (List UInt8)) (c : UInt8), c ∈ joinW ws → c = 32 ∨ ∃ x ∈ ws, c ∈ x
  | [], c, h => by cases h
  | [a], c, h => .inr ⟨a, by simp, h⟩
  | a :: b :: r, c, h => by
    rw [joinW] at h
    rcases List.mem_append.1 h with h | h
    · exact .inr ⟨a, by simp, h⟩
    · rcases List.mem_cons.1 h with h | h
      · exact .inl h
      · rcases join_mem (b :: r) c h with h | ⟨x, hx, h⟩
        · exact .inl h
        · exact .inr ⟨x, by simp [hx], h⟩
theorem Cn.text_letters {o : OpD} (h : Cn o) : ∀ c ∈ textO o, Letter c := by
  intro c hc
  rw [h.words.2.2] at hc
  rcases join_mem _ c hc with rfl | ⟨x, hx, hc⟩
  · exact ⟨by decide, by decide⟩
  · exact h.letters x hx c hc
/-! ### the first letter, the number of words -/
theorem head_textO (o : OpD) (h : textO o ≠ []) : ∃ c r, textO o = c :: r ∧ 97 ≤ c.toNat := by
  obtain ⟨hk, h3⟩ := textO_some o h
  obtain ⟨k, hh, lba, len, l⟩ := o
  dsimp only at hk h3
  rcases hk with rfl | rfl | rfl | rfl | rfl
  · exact ⟨98, _, rfl, by decide⟩
  · exact ⟨114, _, rfl, by decide⟩
  · refine ⟨119, [114, 105, 116, 101] ++ 32 :: Lib.itoa hh ++ putsP l, ?_, by decide⟩
    simp [textO, textP, h3 rfl]
  · exact ⟨99, _, rfl, by decide⟩
  · exact ⟨97, _, rfl, by decide⟩
theorem putsW_len (l : List S42) : (putsW l).length = 2 * l.length := by
  induction l with
  | nil => rfl
  | cons p r ih => rw [putsW, List.flatMap_cons, List.length_append, List.length_cons]; unfold putsW at ih; rw [ih]; simp; omega
/-- The first word, and how many there are. -/
theorem wordsO_form (o : OpD) (h : textO o ≠ []) : ∃ t, wordsO o = wordL o.k :: t ∧ ((o.k = 1 ∧ t.length = 0) ∨ (o.k = 2 ∧ t.length = 3) ∨ (o.k = 3 ∧ ∃ n, t.length = 1 + 2 * n) ∨ (o.k = 4 ∧ t.length = 1) ∨ (o.k = 5 ∧ t.length = 1)) := by
  obtain ⟨hk, h3⟩ := textO_some o h
  obtain ⟨k, hh, lba, len, l⟩ := o
  dsimp only at hk h3 ⊢
  rcases hk with rfl | rfl | rfl | rfl | rfl
  · exact ⟨[], rfl, .inl ⟨rfl, rfl⟩⟩
  · exact ⟨_, rfl, .inr (.inl ⟨rfl, rfl⟩)⟩
  · exact ⟨_, rfl, .inr (.inr (.inl ⟨rfl, l.length, by simp [putsW_len]; omega⟩))⟩
  · exact ⟨_, rfl, .inr (.inr (.inr (.inl ⟨rfl, rfl⟩)))⟩
  · exact ⟨_, rfl, .inr (.inr (.inr (.inr ⟨rfl, rfl⟩)))⟩
theorem wordL_inj {a b : Int} (ha : a = 1 ∨ a = 2 ∨ a = 3 ∨ a = 4 ∨ a = 5) (hb : b = 1 ∨ b = 2 ∨ b = 3 ∨ b = 4 ∨ b = 5) (h : wordL a = wordL b) : a = b := by
  rcases ha with rfl | rfl | rfl | rfl | rfl <;> rcases hb with rfl | rfl | rfl | rfl | rfl <;> first | rfl | exact absurd h (by decide)
theorem Cn.text_ne {o : OpD} (h : Cn o) : textO o ≠ [] := by
  intro e
  have h1 := h.words.2.2
  rw [e] at h1
  have h2 := h.spl
  rw [e, YtjjpnmeldgnfeaaDoor.spl] at h2
  exact h.ne [] (by rw [← h2]; simp) rfl
/-- What is no op's text. -/
theorem bad_of_not {X : List UInt8} (h : ∀ o, Cn o → textO o ≠ X) : parseR X = (⟨0, 0, 0, 0, []⟩, 13) := by
  rcases parseR_cases X with ⟨o, h1, h2, _⟩ | ⟨_, h2⟩
  · exact absurd h2 (h o h1)
  · exact h2
theorem bad_empty {X : List UInt8} (h : ([] : List UInt8) ∈ spl [] X) : parseR X = (⟨0, 0, 0, 0, []⟩, 13) :=
  bad_of_not fun o ho e => by rw [← e, ho.spl] at h; exact ho.ne [] h rfl
theorem bad_letter {X : List UInt8} {c : UInt8} (h : c ∈ X) (hc : ¬ Letter c) : parseR X = (⟨0, 0, 0, 0, []⟩, 13) :=
  bad_of_not fun o ho e => by rw [← e] at h; exact hc (ho.text_letters c h)
theorem forms_0 (o : OpD) : parseR (32 :: textO o) = (⟨0, 0, 0, 0, []⟩, 13) := bad_empty (by rw [spl, if_pos rfl]; simp)
theorem spl_more (o : OpD) (h : textO o ≠ []) (hb : ∀ p ∈ o.l, InB p.f1) (t : List UInt8) : spl [] (textO o ++ 32 :: t) = wordsO o ++ spl [] t := by
  obtain ⟨h1, h2, h3⟩ := gen_words o h hb
  rw [h3]; exact spl_join_more _ _ h1 h2
theorem forms_1 (o : OpD) (h : textO o ≠ []) (hb : ∀ p ∈ o.l, InB p.f1) : parseR (textO o ++ [32]) = (⟨0, 0, 0, 0, []⟩, 13) := bad_empty (by rw [spl_more o h hb, spl]; simp)
theorem forms_5 (o : OpD) (h : textO o ≠ []) (hb : ∀ p ∈ o.l, InB p.f1) : parseR (textO o ++ [32, 32]) = (⟨0, 0, 0, 0, []⟩, 13) := bad_empty (by rw [spl_more o h hb, spl, if_pos rfl]; simp)
theorem forms_3 (o : OpD) : parseR (textO o ++ [120]) = (⟨0, 0, 0, 0, []⟩, 13) := bad_letter (c := 120) (by simp) (fun h => h.1 rfl)
theorem forms_6 (o : OpD) : parseR (textO o ++ [10]) = (⟨0, 0, 0, 0, []⟩, 13) := bad_letter (c := 10) (by simp) (fun h => h.2 rfl)
theorem forms_4 (o : OpD) : parseR (48 :: textO o) = (⟨0, 0, 0, 0, []⟩, 13) := bad_of_not fun o' ho e => by
  obtain ⟨c, r, h1, h2⟩ := head_textO o' ho.text_ne
  rw [h1] at e
  injection e with e1 e2
  subst e1
  exact absurd h2 (by decide)
theorem forms_2 (o : OpD) (h : textO o ≠ []) (hb : ∀ p ∈ o.l, InB p.f1) : parseR (textO o ++ [32, 49]) = (⟨0, 0, 0, 0, []⟩, 13) := bad_of_not fun o' ho e => by
  have hs := ho.spl
  rw [e, spl_more o h hb [49], show spl [] [49] = [[49]] by rw [spl, if_neg (by decide), spl]; rfl] at hs
  obtain ⟨t, e1, n1⟩ := wordsO_form o h
  obtain ⟨t', e2, n2⟩ := wordsO_form o' ho.text_ne
  rw [e1, e2, List.cons_append] at hs
  injection hs with hw ht
  have hk := wordL_inj (textO_some o h).1 (textO_some o' ho.text_ne).1 hw
  have hl := congrArg List.length ht
  rw [List.length_append, List.length_singleton] at hl
  rcases n1 with ⟨k1, l1⟩ | ⟨k1, l1⟩ | ⟨k1, n, l1⟩ | ⟨k1, l1⟩ | ⟨k1, l1⟩ <;> rcases n2 with ⟨k2, l2⟩ | ⟨k2, l2⟩ | ⟨k2, n', l2⟩ | ⟨k2, l2⟩ | ⟨k2, l2⟩ <;> omega
end Go.Proofs.YtjjpnmeldgnfeaaDoor
