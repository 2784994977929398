/-
  What script.Parse reads: plain functions; the words of a text as strings.Split cuts them.
-/
import Derived.Test.YtjjpnmeldgnfeaaDoorIx
namespace Go.Proofs.YtjjpnmeldgnfeaaDoor
open Go Go.RowKit Go.Proofs.YtjjpnmeldgnfeaaDoor.PScriptTexts Go.Proofs.YtjjpnmeldgnfeaaDoorW.PrintWords
set_option maxRecDepth 100000

structure OpD where
  k : Int
  h : Int
  lba : Int
  len : Int
  l : List S42
def numP (x : List UInt8) : Option Int := match Lib.atoiAll x with
  | .ok n => if -1099511627776 ≤ n ∧ n ≤ 1099511627776 then some n else none
  | _ => none
theorem numOf_false {x : List UInt8} {n : Int} (h : numOf x n false) : numP x = some n := by
  rcases h with ⟨h1, h2⟩ | ⟨_, h2⟩
  · unfold numP
    rw [h1]
    have h3 : ¬ n < -1099511627776 ∧ ¬ 1099511627776 < n := by
      have := h2.symm
      rw [Bool.or_eq_false_iff] at this
      exact ⟨of_decide_eq_false this.1, of_decide_eq_false this.2⟩
    dsimp only
    rw [if_pos (by omega)]
  · cases h2
theorem numOf_true {x : List UInt8} {n : Int} (h : numOf x n true) : numP x = none := by
  unfold numP
  rcases h with ⟨h1, h2⟩ | ⟨h1, _⟩
  · rw [h1]
    dsimp only
    rw [if_neg]
    have := h2.symm
    rw [Bool.or_eq_true] at this
    rcases this with h | h
    · have := of_decide_eq_true h; omega
    · have := of_decide_eq_true h; omega
  · split
    · rename_i n hn; exact absurd hn (h1 n)
    · rfl
theorem numP_range {x : List UInt8} {n : Int} (h : numP x = some n) : -1099511627776 ≤ n ∧ n ≤ 1099511627776 := by
  unfold numP at h
  split at h
  · split at h
    · rename_i h2
      injection h with h; subst h; exact h2
    · cases h
  · cases h
theorem numP_nil : numP [] = none := rfl
def readPuts : List (List UInt8) → Option (List S42)
  | [] => some []
  | [_] => none
  | a :: d :: r => match numP a, (unbP d).2, readPuts r with
    | some n, true, some l => some (⟨n, (unbP d).1⟩ :: l)
    | _, _, _ => none
def parseO (ws : List (List UInt8)) : Option OpD := match ws with
  | [] => none
  | x :: r => match kindOf x with
    | 1 => some ⟨1, 0, 0, 0, []⟩
    | 2 => (match r with
      | a :: b :: c :: _ => (match numP a, numP b, numP c with
        | some n, some m, some k => some ⟨2, n, m, k, []⟩
        | _, _, _ => none)
      | _ => none)
    | 3 => (match r with
      | [] => none
      | a :: r' => (match numP a, readPuts r' with
        | some n, some l => some ⟨3, n, 0, 0, l⟩
        | _, _ => none))
    | 4 => (match r with
      | [] => none
      | a :: _ => (numP a).map fun n => ⟨4, n, 0, 0, []⟩)
    | 5 => (match r with
      | [] => none
      | a :: _ => (numP a).map fun n => ⟨5, n, 0, 0, []⟩)
    | _ => none
def textO (o : OpD) : List UInt8 := textP o.k o.h o.lba o.len o.l
/-- What a text is read as. -/
def parseR (s : List UInt8) : OpD × Int := match parseO (spl [] s) with
  | none => (⟨0, 0, 0, 0, []⟩, 13)
  | some o => if textO o = s then (o, 0) else (⟨0, 0, 0, 0, []⟩, 13)

/-! ### the words, as strings.Split cuts them -/
theorem indexByte_hit : ∀ (h r : List UInt8) (c : UInt8), c ∉ h → Lib.indexByte (h ++ c :: r) c = h.length
  | [], r, c, _ => by simp [Lib.indexByte]
  | x :: h, r, c, hm => by
    have hx : (x == c) = false := by rw [beq_eq_false_iff_ne]; intro e; exact hm (by simp [e])
    have ih := indexByte_hit h r c (fun hh => hm (List.mem_cons_of_mem _ hh))
    rw [List.cons_append, Lib.indexByte, hx, ih]
    have : ¬ ((h.length : Int) = -1) := by omega
    simp [this]
theorem indexByte_miss : ∀ (h : List UInt8) (c : UInt8), c ∉ h → Lib.indexByte h c = -1
  | [], c, _ => rfl
  | x :: h, c, hm => by
    have hx : (x == c) = false := by rw [beq_eq_false_iff_ne]; intro e; exact hm (by simp [e])
    have ih := indexByte_miss h c (fun hh => hm (List.mem_cons_of_mem _ hh))
    rw [Lib.indexByte, hx, ih]; rfl
theorem spl_miss : ∀ (h pre : List UInt8), (32 : UInt8) ∉ h → spl pre h = [pre ++ h]
  | [], pre, _ => by rw [spl, List.append_nil]
  | c :: r, pre, hn => by
    have h1 : c ≠ 32 := fun e => hn (by rw [e]; simp)
    rw [spl, if_neg h1, spl_miss r _ (fun h => hn (by simp [h]))]
    simp
theorem spl_hit : ∀ (h pre r : List UInt8), (32 : UInt8) ∉ h → spl pre (h ++ 32 :: r) = (pre ++ h) :: spl [] r
  | [], pre, r, _ => by rw [List.nil_append, spl, if_pos rfl, List.append_nil]
  | c :: t, pre, r, hn => by
    have h1 : c ≠ 32 := fun e => hn (by rw [e]; simp)
    rw [List.cons_append, spl, if_neg h1, spl_hit t _ r (fun h => hn (by simp [h]))]
    simp
theorem cut_at : ∀ (s : List UInt8), (32 : UInt8) ∈ s → ∃ h r, s = h ++ 32 :: r ∧ (32 : UInt8) ∉ h
  | [], h => by cases h
  | c :: t, h => by
    by_cases e : c = 32
    · exact ⟨[], t, by rw [e]; rfl, by simp⟩
    · obtain ⟨a, b, h1, h2⟩ := cut_at t (by
        rcases List.mem_cons.1 h with h | h
        · exact absurd h.symm e
        · exact h)
      exact ⟨c :: a, b, by rw [h1]; rfl, by simp [h2]; exact fun h => e h.symm⟩
theorem split_spl (n : Nat) : ∀ s : List UInt8, s.length ≤ n → Lib.splitK [32] 0 (Lib.count s [32]) s = spl [] s := by
  induction n with
  | zero =>
    intro s hs
    obtain rfl := List.eq_nil_of_length_eq_zero (Nat.le_zero.1 hs)
    rw [Lib.count_miss (by rw [Lib.index_one]; rfl), spl]; rfl
  | succ n ih =>
    intro s hs
    by_cases hm : (32 : UInt8) ∈ s
    · obtain ⟨h, r, rfl, hn⟩ := cut_at s hm
      have hi : Lib.index (h ++ 32 :: r) [32] = (h.length : Int) := by rw [Lib.index_one]; exact indexByte_hit h r 32 hn
      rw [Lib.count_hit (by simp) hi, Nat.add_comm, Lib.splitK, hi, if_neg (by rw [beq_iff_eq]; omega), spl_hit h [] r hn, Int.toNat_natCast, Nat.add_zero, List.take_left, List.nil_append]
      have hd : (h ++ 32 :: r).drop (h.length + [(32 : UInt8)].length) = r := by
        rw [show h ++ 32 :: r = (h ++ [32]) ++ r by simp]
        exact List.drop_left' (by simp)
      rw [hd, ih r (by rw [List.length_append, List.length_cons] at hs; omega)]
    · have hi : Lib.index s [32] = -1 := by rw [Lib.index_one]; exact indexByte_miss s 32 hm
      rw [Lib.count_miss hi, spl_miss s [] hm]; rfl
theorem splitB_spl (s : ByteArray) : Lib.splitB (ba [32]) 0 (Lib.countB s (ba [32])) s = (spl [] s.data.toList).map ba := by
  have h := Lib.splitB_data (ba [32]) 0 (Lib.countB s (ba [32])) s
  have e : Lib.splitK (ba [32]).data.toList 0 (Lib.countB s (ba [32])) s.data.toList = spl [] s.data.toList := split_spl _ s.data.toList (Nat.le_refl _)
  rw [e] at h
  rw [← h, List.map_map]
  exact ((List.map_congr_left (fun x _ => ba_data x)).trans (List.map_id _)).symm
theorem spl_ne (s : List UInt8) : ∀ pre, spl pre s ≠ [] := by
  induction s with
  | nil => intro pre; rw [spl]; simp
  | cons c r ih =>
    intro pre
    rw [spl]
    split
    · simp
    · exact ih _
theorem spl_mem : ∀ (s pre : List UInt8), ∀ x ∈ spl pre s, x.length ≤ pre.length + s.length
  | [], pre, x, h => by rw [spl, List.mem_singleton] at h; subst h; omega
  | c :: r, pre, x, h => by
    rw [spl] at h
    split at h
    · rcases List.mem_cons.1 h with h | h
      · subst h; omega
      · have := spl_mem r [] x h; simp at *; omega
    · have := spl_mem r _ x h; simp at *; omega
theorem count_len (s : ByteArray) : (spl [] s.data.toList).length = Lib.countB s (ba [32]) + 1 := by
  have h := congrArg List.length (splitB_spl s)
  rw [Lib.splitB_all (ba [32]) (by decide) 0 _ s rfl, List.length_map] at h
  exact h.symm
/-- strings.Split at a blank. -/
theorem split_any (s : ByteArray) (hs : s.size ≤ 100000) (w : World) (E : Env w) :
    Calls Tryd.prog 24 #[.string s, .string ⟨#[32]⟩] w fun e w' => e = .returned (.slice (some ⟨w.heap.size, 0, none⟩) (spl [] s.data.toList).length (spl [] s.data.toList).length) ∧ w' = w.alloc (.cells (strsV (spl [] s.data.toList)).toArray 9) := by
  obtain ⟨m, hm⟩ := E.mx
  refine (Tryd.strings_Split s (ba [32]) m w (by omega) hm (by decide)).mono fun e w' ⟨h1, h2⟩ => ⟨?_, ?_⟩
  · rw [h1, count_len]
  · rw [h2, splitB_spl, List.map_map]; rfl
end Go.Proofs.YtjjpnmeldgnfeaaDoor
