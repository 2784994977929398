/-
  Plain law: what the printed functions answer: a text as bytes, words, numbers, how much a list of puts holds.
-/
import Derived.Test.YtjjpnmeldgnfeaaDoorPla
import Derived.Test.YtjjpnmeldgnfeaaDoorPScriptTextsx7
import Derived.Test.YtjjpnmeldgnfeaaDoorPScriptTextsx8
import Derived.Lib.AtoiAll
import Derived.Lib.Hide
namespace Go.Proofs.YtjjpnmeldgnfeaaDoor
open Go Go.RowKit Go.Proofs.YtjjpnmeldgnfeaaDoor.PScriptTexts Go.Proofs.YtjjpnmeldgnfeaaDoorW.PrintWords

abbrev ba (l : List UInt8) : ByteArray := ⟨l.toArray⟩
theorem ba_size (l : List UInt8) : (ba l).size = l.length := rfl
theorem ba_data (s : ByteArray) : ba s.data.toList = s := by cases s; simp [ba]
theorem ba_toList (l : List UInt8) : (ba l).toList = l := by rw [ByteArray.toList_eq]
theorem size_data (s : ByteArray) : s.size = s.data.toList.length := rfl
theorem bt_get (s : ByteArray) (i : Nat) (h : i < s.data.toList.length) : bt s (i : Int) = ((s.data.toList[i]).toNat : Int) := by
  have h2 : i < s.size := h
  unfold bt
  rw [dif_pos (by rw [Int.toNat_natCast]; exact h2)]
  simp only [Int.toNat_natCast]
  rfl

/-- A string's bytes, its length: letters. -/
structure Str (s : ByteArray) (l : List UInt8) (n : Nat) : Prop where
  sz : s.size = n
  ln : l.length = n
  gt : ∀ i (h : i < l.length), bt s (i : Int) = ((l[i]).toNat : Int)
  tl : s.toList = l
  ex : ∀ a b, s.extract a b = ba ((l.drop a).take (b - a))
theorem wr1 (i : Nat) (h : i < 1000000000) : wrap64 ((i : Int) + 1) = ((i + 1 : Nat) : Int) := by rw [IntWalk.wrap64_in _ (by omega)]; omega
theorem wr2 (i : Nat) (h : i < 1000000000) : wrap64 ((i : Int) + 2) = ((i + 2 : Nat) : Int) := by rw [IntWalk.wrap64_in _ (by omega)]; omega
theorem wrh (m : Nat) (h : m < 1000000000) : wrap64 (Int.tdiv ((2 * m : Nat) : Int) 2) = (m : Int) := by
  rw [Int.tdiv_eq_ediv_of_nonneg (by omega), IntWalk.wrap64_in _ (by omega)]; omega
theorem wrd (x y : Int) (hx : 0 ≤ x ∧ x < 16) (hy : 0 ≤ y ∧ y < 16) : (wrap64 ((wrap64 (x * 16)) + y)) % 256 = 16 * x + y := by
  rw [IntWalk.wrap64_in (x * 16) (by omega), IntWalk.wrap64_in _ (by omega)]; omega
theorem wrn (a c : Nat) (ha : a ≤ 1099511627776) (hc : 48 ≤ c ∧ c ≤ 57) : wrap64 ((wrap64 (10 * (a : Int))) + (((c : Int) - 48) % 256)) = ((10 * a + (c - 48) : Nat) : Int) := by
  rw [IntWalk.wrap64_in (10 * (a : Int)) (by omega), IntWalk.wrap64_in _ (by omega)]; omega
theorem wrap_one : wrap64 (0 + 1) = 1 := by rw [IntWalk.wrap64_in _ (by omega)]; rfl
theorem extract_ba (s : ByteArray) (a b : Nat) : s.extract a b = ba ((s.data.toList.drop a).take (b - a)) := by
  have : (s.extract a b).data = (ba ((s.data.toList.drop a).take (b - a))).data := by
    rw [ByteArray.data_extract]
    apply Array.toList_inj.1
    simp [Array.toList_extract]
  cases h : s.extract a b
  rw [h] at this
  simp only at this
  rw [this]
theorem str_of (s : ByteArray) : Str s s.data.toList s.size := ⟨rfl, rfl, fun i h => bt_get s i h, ByteArray.toList_eq s, fun a b => extract_ba s a b⟩

/-! ### digits -/
/-- A small hex digit's value; -1: it is none. -/
def hv (c : UInt8) : Int := if 48 ≤ c.toNat ∧ c.toNat ≤ 57 then (c.toNat : Int) - 48 else if 97 ≤ c.toNat ∧ c.toNat ≤ 102 then (c.toNat : Int) - 87 else -1
theorem hv_lt (c : UInt8) : -1 ≤ hv c ∧ hv c < 16 := by unfold hv; split <;> (try split) <;> omega
theorem digit_is (c : UInt8) : ∀ k, 1 ≤ k → scarpref28_digit.f k (c.toNat : Int) = some (hv c) := by
  intro k hk
  obtain ⟨k, rfl⟩ : ∃ j, k = j + 1 := ⟨k - 1, by omega⟩
  have hc := c.toNat_lt
  unfold scarpref28_digit.f hv
  generalize c.toNat = n at *
  by_cases h1 : 48 ≤ n
  · rw [if_pos (by omega), scarpref28_digit.j0]
    by_cases h2 : n ≤ 57
    · rw [if_pos (decide_eq_true (by omega)), if_pos ⟨h1, h2⟩]; congr 1; omega
    · have hd : ¬ (decide ((n : Int) ≤ 57) = true) := fun h => h2 (by have := of_decide_eq_true h; omega)
      have h5 : ¬ (48 ≤ n ∧ n ≤ 57) := by omega
      rw [if_neg hd, if_neg h5]
      by_cases h3 : 97 ≤ n
      · rw [if_pos (show (n : Int) ≥ 97 by omega)]
        by_cases h4 : n ≤ 102
        · rw [if_pos (show (n : Int) ≤ 102 by omega), if_pos ⟨h3, h4⟩]; congr 1; omega
        · have h6 : ¬ (97 ≤ n ∧ n ≤ 102) := by omega
          rw [if_neg (show ¬ (n : Int) ≤ 102 by omega), if_neg h6]
      · have h6 : ¬ (97 ≤ n ∧ n ≤ 102) := by omega
        rw [if_neg (show ¬ (n : Int) ≥ 97 by omega), if_neg h6]
  · have h5 : ¬ (48 ≤ n ∧ n ≤ 57) := by omega
    have h6 : ¬ (97 ≤ n ∧ n ≤ 102) := by omega
    rw [if_neg (show ¬ (n : Int) ≥ 48 by omega), scarpref28_digit.j0, if_neg (by decide), if_neg (show ¬ (n : Int) ≥ 97 by omega), if_neg h5, if_neg h6]
/-- Two digits a byte. -/
def pairs : List UInt8 → Option (List Int)
  | [] => some []
  | [_] => none
  | a :: b :: r => if 0 ≤ hv a ∧ 0 ≤ hv b then (pairs r).map (fun l => (16 * hv a + hv b) :: l) else none
theorem pairs_range : ∀ (l : List UInt8) (bs : List Int), pairs l = some bs → (∀ x ∈ bs, 0 ≤ x ∧ x < 256) ∧ 2 * bs.length = l.length
  | [], bs, h => by
    injection h with h; subst h
    exact ⟨fun x hx => absurd hx (by simp), rfl⟩
  | [_], bs, h => by cases h
  | a :: b :: r, bs, h => by
    simp only [pairs] at h
    split at h
    · rename_i hab
      cases hr : pairs r with
      | none => rw [hr] at h; cases h
      | some rs =>
        rw [hr] at h
        injection h with h
        subst h
        obtain ⟨h1, h2⟩ := pairs_range r rs hr
        have ha := hv_lt a
        have hb := hv_lt b
        refine ⟨fun x hx => ?_, by simp only [List.length_cons]; omega⟩
        rcases List.mem_cons.1 hx with rfl | hx
        · omega
        · exact h1 x hx
    · cases h
/-- Forty bytes, the rest noughts. -/
def pad40 (l : List Int) : List Int := l ++ List.replicate (40 - l.length) 0
/-- What pairs leave. -/
def unbV (s : List UInt8) (acc : List Int) (rest : Option (List Int)) : List Int × Bool := match rest with
  | none => ([], false)
  | some bs => if bytesP (pad40 (acc ++ bs)) = s then (pad40 (acc ++ bs), true) else ([], false)
/-- A text as a block's bytes. -/
def unbP (s : List UInt8) : List Int × Bool := if s = [45] then (List.replicate 40 0, true) else if s.length % 2 ≠ 0 ∨ 80 < s.length then ([], false) else unbV s [] (pairs s)
theorem pad40_set (acc : List Int) (v : Int) (h : acc.length < 40) : (pad40 acc).set acc.length v = pad40 (acc ++ [v]) := by
  unfold pad40
  rw [List.set_append_right _ _ (Nat.le_refl _), Nat.sub_self]
  obtain ⟨m, hm⟩ : ∃ m, 40 - acc.length = m + 1 := ⟨40 - acc.length - 1, by omega⟩
  rw [hm, List.replicate_succ, List.set_cons_zero, List.append_assoc, List.length_append, List.length_singleton, show 40 - (acc.length + 1) = m by omega]
  rfl
theorem pad40_len (acc : List Int) (h : acc.length ≤ 40) : (pad40 acc).length = 40 := by unfold pad40; rw [List.length_append, List.length_replicate]; omega
theorem pad40_range (acc : List Int) (h : ∀ x ∈ acc, 0 ≤ x ∧ x < 256) : ∀ x ∈ pad40 acc, 0 ≤ x ∧ x < 256 := by
  intro x hx
  rcases List.mem_append.1 hx with hx | hx
  · exact h x hx
  · have := List.eq_of_mem_replicate hx; omega
theorem toList_eq_iff (a b : ByteArray) : (a.toList = b.toList) ↔ a.data.toList = b.data.toList := by rw [ByteArray.toList_eq, ByteArray.toList_eq]
theorem unb_bad (s : ByteArray) (x4 : List Int) (i : Int) (k : Nat) : scarpref28_Unbytes.j2 (k + 1) s x4 i true = some ([], false) := by rw [scarpref28_Unbytes.j2, if_pos rfl]
theorem unb_good (s : ByteArray) (n m : Nat) (acc : List Int) (x y : Int) (cx cy : Int) (k : Nat) (hsz : s.size = n) (hm : acc.length = m) (hn : 2 * m + 1 < n) (hs : n ≤ 80) (hx : 0 ≤ x ∧ x < 16) (hy : 0 ≤ y ∧ y < 16)
    (b1 : Hid (bt s ((2 * m : Nat) : Int) = cx)) (b2 : Hid (bt s ((2 * m + 1 : Nat) : Int) = cy)) (d1 : scarpref28_digit.f k cx = some x) (d2 : scarpref28_digit.f k cy = some y) :
    scarpref28_Unbytes.j2 (k + 1) s (pad40 acc) ((2 * m : Nat) : Int) false = scarpref28_Unbytes.l0 k s (pad40 (acc ++ [16 * x + y])) ((2 * (m + 1) : Nat) : Int) := by
  have h40 := pad40_len acc (by omega)
  have hset := pad40_set acc (16 * x + y) (by omega)
  rw [hm] at hset
  have g1 : (0 : Int) ≤ ((2 * m : Nat) : Int) := by omega
  have g2 : ((2 * m : Nat) : Int) < ((n : Nat) : Int) := by omega
  have g3 : (0 : Int) ≤ ((2 * m + 1 : Nat) : Int) := by omega
  have g4 : ((2 * m + 1 : Nat) : Int) < ((n : Nat) : Int) := by omega
  have g5 : (0 : Int) ≤ (m : Int) := by omega
  have g6 : (m : Int) < ((pad40 acc).length : Int) := by omega
  have e1 := wr1 (2 * m) (by omega)
  have e2 := wrh m (by omega)
  have e3 := wrd x y hx hy
  have e4 : wrap64 (((2 * m : Nat) : Int) + 2) = ((2 * (m + 1) : Nat) : Int) := wr2 (2 * m) (by omega)
  rw [scarpref28_Unbytes.j2, if_neg Bool.false_ne_true, hsz, if_pos g1, if_pos g2, b1.out, d1, Option.bind_some, e1, if_pos g3, if_pos g4, b2.out, d2, Option.bind_some, e2, if_pos g5, if_pos g6, e3, Int.toNat_natCast, hset, e4]
theorem unb_end (s : ByteArray) (l : List UInt8) (n : Nat) (acc : List Int) (k : Nat) (hsz : s.size = n) (htl : s.toList = l) (h4 : acc.length ≤ 40) (hr : ∀ x ∈ acc, 0 ≤ x ∧ x < 256) (hk : 85 ≤ k) (i : Int) (hi : ¬ i < (n : Int)) :
    scarpref28_Unbytes.l0 (k + 1) s (pad40 acc) i = some (unbV l acc (some [])) := by
  have h40 := pad40_len acc h4
  have hb := rbytes_is (pad40 acc) (pad40_range acc hr) (by omega) k (by omega)
  rw [scarpref28_Unbytes.l0, hsz, if_neg hi, hb, Option.bind_some, ba_toList, htl]
  unfold unbV
  dsimp only
  rw [List.append_nil]
  by_cases h : bytesP (pad40 acc) = l
  · rw [if_pos h, if_pos h]
  · rw [if_neg h, if_neg h]
theorem unb_l0 (s : ByteArray) (l : List UInt8) (n : Nat) (S : Str s l n) (hs : n ≤ 80) (he : n % 2 = 0) : ∀ (d : Nat) (acc : List Int) (m : Nat) (k : Nat), acc.length = m → n - 2 * m = 2 * d → 2 * m ≤ n → (∀ x ∈ acc, 0 ≤ x ∧ x < 256) → 2 * d + 90 ≤ k →
    scarpref28_Unbytes.l0 k s (pad40 acc) (2 * m : Nat) = some (unbV l acc (pairs (l.drop (2 * m)))) := by
  obtain ⟨hsz, hln, hgt, htl, _⟩ := S
  intro d
  induction d with
  | zero =>
    intro acc m k hm hd hle hr hk
    obtain ⟨k, rfl⟩ : ∃ j, k = j + 1 := ⟨k - 1, by omega⟩
    have hdr : l.drop (2 * m) = [] := by rw [List.drop_eq_nil_iff]; omega
    rw [unb_end s l n acc k hsz htl (by omega) hr (by omega) _ (by omega), hdr]
    rfl
  | succ d ih =>
    intro acc m k hm hd hle hr hk
    obtain ⟨k, rfl⟩ : ∃ j, k = j + 2 := ⟨k - 2, by omega⟩
    have hl1 : 2 * m < l.length := by omega
    have hl2 : 2 * m + 1 < l.length := by omega
    have hdr : l.drop (2 * m) = l[2 * m] :: l[2 * m + 1] :: l.drop (2 * (m + 1)) := by
      rw [List.drop_eq_getElem_cons hl1, List.drop_eq_getElem_cons hl2, show 2 * m + 1 + 1 = 2 * (m + 1) by omega]
    have b1 := Lib.hid (hgt (2 * m) hl1)
    have b2 := Lib.hid (hgt (2 * m + 1) hl2)
    generalize l[2 * m] = a at hdr b1
    generalize l[2 * m + 1] = b at hdr b2
    have ha := hv_lt a
    have hb := hv_lt b
    have da := digit_is a
    have db := digit_is b
    have hp : pairs (a :: b :: l.drop (2 * (m + 1))) = if 0 ≤ hv a ∧ 0 ≤ hv b then (pairs (l.drop (2 * (m + 1)))).map (fun r => (16 * hv a + hv b) :: r) else none := rfl
    generalize hv a = x at *
    generalize hv b = y at *
    have g1 : (0 : Int) ≤ ((2 * m : Nat) : Int) := by omega
    have g2 : ((2 * m : Nat) : Int) < ((n : Nat) : Int) := by omega
    have g3 : (0 : Int) ≤ ((2 * m + 1 : Nat) : Int) := by omega
    have g4 : ((2 * m + 1 : Nat) : Int) < ((n : Nat) : Int) := by omega
    rw [hdr, hp, scarpref28_Unbytes.l0, hsz, if_pos g2, if_pos g1, b1.out, da (k + 1) (by omega), Option.bind_some]
    by_cases h1 : x < 0
    · have hn : ¬ (0 ≤ x ∧ 0 ≤ y) := by omega
      rw [if_pos h1, unb_bad, if_neg hn]; rfl
    · rw [if_neg h1, wr1 (2 * m) (by omega), if_pos g3, if_pos g4, b2.out, db (k + 1) (by omega), Option.bind_some]
      by_cases h2 : y < 0
      · have hn : ¬ (0 ≤ x ∧ 0 ≤ y) := by omega
        rw [decide_eq_true h2, unb_bad, if_neg hn]; rfl
      · have hp2 : 0 ≤ x ∧ 0 ≤ y := by omega
        have hgood := unb_good s n m acc x y _ _ k hsz hm (by omega) hs (by omega) (by omega) b1 b2 (da k (by omega)) (db k (by omega))
        have hrec := ih (acc ++ [16 * x + y]) (m + 1) k (by rw [List.length_append, hm]; rfl) (by omega) (by omega) (by
          intro z hz
          rcases List.mem_append.1 hz with hz | hz
          · exact hr z hz
          · rw [List.mem_singleton.1 hz]; omega) (by omega)
        rw [decide_eq_false h2, hgood, hrec, if_pos hp2]
        cases pairs (l.drop (2 * (m + 1))) with
        | none => rfl
        | some bs =>
          simp only [Option.map_some, unbV]
          rw [List.append_assoc]; rfl
theorem runb_str (s : ByteArray) (l : List UInt8) (n : Nat) (S : Str s l n) : ∀ k, 200 ≤ k → scarpref28_Unbytes.f k s = some (unbP l) := by
  intro k hk
  have hu := unb_l0 s l n S
  obtain ⟨hsz, hln, hgt, htl, _⟩ := S
  unfold scarpref28_Unbytes.f unbP
  rw [if_pos (by decide)]
  simp only [Option.bind_some]
  by_cases h1 : l = [45]
  · rw [if_pos (by rw [htl]; exact h1), if_pos h1]
  · rw [if_neg (by rw [htl]; exact h1), if_neg h1, hsz, hln]
    obtain ⟨k, rfl⟩ : ∃ j, k = j + 1 := ⟨k - 1, by omega⟩
    by_cases h2 : n % 2 = 0
    · rw [if_pos (by omega), scarpref28_Unbytes.j0]
      by_cases h3 : 80 < n
      · have h4 : n % 2 ≠ 0 ∨ 80 < n := .inr h3
        rw [if_pos (decide_eq_true (by omega)), if_pos h4]
      · have h4 : ¬ (n % 2 ≠ 0 ∨ 80 < n) := by omega
        have h5 : ¬ (decide ((n : Int) > 80) = true) := fun h => h3 (by have := of_decide_eq_true h; omega)
        rw [if_neg h5, if_neg h4]
        exact hu (by omega) h2 (n / 2) [] 0 k rfl (by omega) (by omega) (fun x hx => by cases hx) (by omega)
    · have h4 : n % 2 ≠ 0 ∨ 80 < n := .inl h2
      rw [if_neg (by omega), scarpref28_Unbytes.j0, if_pos rfl, if_pos h4]
theorem runb_is (s : ByteArray) : ∀ k, 200 ≤ k → scarpref28_Unbytes.f k s = some (unbP s.data.toList) := runb_str s _ _ (str_of s)

/-! ### words -/
/-- Words at blanks; pre: what stands of a word. -/
def spl : List UInt8 → List UInt8 → List (List UInt8)
  | pre, [] => [pre]
  | pre, c :: r => if c = 32 then pre :: spl [] r else spl (pre ++ [c]) r
theorem spl_len : ∀ (l pre : List UInt8), (spl pre l).length ≤ l.length + 1
  | [], _ => by simp [spl]
  | c :: r, pre => by
    simp only [spl]
    split
    · have := spl_len r []; simp; omega
    · have := spl_len r (pre ++ [c]); simp; omega
theorem spl_l0 (s : ByteArray) (l : List UInt8) (n : Nat) (S : Str s l n) (hs : n ≤ 100000) : ∀ (d i f : Nat) (acc : List ByteArray) (q : Nat) (k : Nat), n - i = d → i ≤ n → f ≤ i → acc.length = q → q ≤ i → d + 2 ≤ k →
    scarpref28_split.l0 k s acc (f : Int) (i : Int) = some (acc ++ (spl ((l.drop f).take (i - f)) (l.drop i)).map ba) := by
  obtain ⟨hsz, hln, hgt, htl, hex⟩ := S
  intro d
  induction d with
  | zero =>
    intro i f acc q k hd hi hf hq ha hk
    obtain ⟨k, rfl⟩ : ∃ j, k = j + 2 := ⟨k - 2, by omega⟩
    have e : l.drop i = [] := by rw [List.drop_eq_nil_iff]; omega
    rw [scarpref28_split.l0, hsz, hq, if_pos (show (i : Int) ≤ (n : Int) by omega), if_pos (show (i : Int) = (n : Int) by omega), if_pos (show (0 : Int) ≤ (f : Int) by omega), if_pos (show (f : Int) ≤ (i : Int) by omega), if_pos (show q < 8796093022208 by omega), wr1 i (by omega), scarpref28_split.l0, hsz, if_neg (show ¬ (((i + 1 : Nat) : Int) ≤ (n : Int)) by omega), e, Int.toNat_natCast, Int.toNat_natCast, hex]
    rfl
  | succ d ih =>
    intro i f acc q k hd hi hf hq ha hk
    obtain ⟨k, rfl⟩ : ∃ j, k = j + 1 := ⟨k - 1, by omega⟩
    have hl : i < l.length := by omega
    have e := List.drop_eq_getElem_cons hl
    have b1 := Lib.hid (hgt i hl)
    have ht : (l.drop f).take (i + 1 - f) = (l.drop f).take (i - f) ++ [l[i]] := by
      rw [show i + 1 - f = (i - f) + 1 by omega, List.take_succ_eq_append_getElem (by rw [List.length_drop]; omega)]
      congr 2
      rw [List.getElem_drop]; congr 1; omega
    generalize l[i] = c at e b1 ht
    rw [scarpref28_split.l0, hsz, hq, if_pos (show (i : Int) ≤ (n : Int) by omega), if_neg (show ¬ (i : Int) = (n : Int) by omega), if_pos (show (0 : Int) ≤ (i : Int) by omega), if_pos (show (i : Int) < (n : Int) by omega), b1.out, e]
    by_cases hc : c = 32
    · have h32 : (c.toNat : Int) = 32 := by rw [hc]; rfl
      have hspl : spl ((l.drop f).take (i - f)) (c :: l.drop (i + 1)) = (l.drop f).take (i - f) :: spl [] (l.drop (i + 1)) := by rw [spl, if_pos hc]
      have := ih (i + 1) (i + 1) (acc ++ [ba ((l.drop f).take (i - f))]) (q + 1) k (by omega) (by omega) (by omega) (by simp [hq]) (by omega) (by omega)
      rw [Nat.sub_self, List.take_zero] at this
      rw [if_pos h32, if_pos (show (0 : Int) ≤ (f : Int) by omega), if_pos (show (f : Int) ≤ (i : Int) by omega), if_pos (show q < 8796093022208 by omega), Int.toNat_natCast, Int.toNat_natCast, hex, wr1 i (by omega), this, hspl]
      simp
    · have e3 : (32 : UInt8).toNat = 32 := rfl
      have h32 : ¬ (c.toNat : Int) = 32 := fun h => hc (UInt8.toNat_inj.1 (by omega))
      have hspl : spl ((l.drop f).take (i - f)) (c :: l.drop (i + 1)) = spl ((l.drop f).take (i - f) ++ [c]) (l.drop (i + 1)) := by rw [spl, if_neg hc]
      rw [if_neg h32, wr1 i (by omega), ih (i + 1) f acc q k (by omega) (by omega) (by omega) hq (by omega) (by omega), hspl, ht]
theorem split_is (s : ByteArray) (hs : s.size ≤ 100000) : ∀ k, s.size + 2 ≤ k → scarpref28_split.f k s = some ((spl [] s.data.toList).map ba) := by
  intro k hk
  have := spl_l0 s _ _ (str_of s) hs s.size 0 0 [] 0 k (by omega) (by omega) (by omega) rfl (by omega) (by omega)
  unfold scarpref28_split.f
  simpa using this

/-! ### numbers -/
/-- A number's digits, as the reference reads them. -/
def numL : Nat → List UInt8 → Option Nat
  | a, [] => some a
  | a, c :: r => if 48 ≤ c.toNat ∧ c.toNat ≤ 57 ∧ a ≤ 1099511627776 then numL (10 * a + (c.toNat - 48)) r else none
/-- A number that is written. -/
def numC (n : Int) (s : List UInt8) : Int × Bool := if n ≤ 1099511627776 ∧ -1099511627776 ≤ n ∧ Lib.itoa n = s then (n, true) else (0, false)
theorem num_end (s : ByteArray) (n : Int) (hn : -20000000000000 ≤ n ∧ n ≤ 20000000000000) (k : Nat) (hk : 25 ≤ k) :
    (if n > 1099511627776 then (some (0, false)) else (if n < (-1099511627776) then (some (0, false)) else ((scarpref1_Decimal.f k n).bind fun t227 => (if t227.toList = s.toList then (some (n, true)) else (some (0, false)))))) = some (numC n s.data.toList) := by
  unfold numC
  by_cases h1 : n > 1099511627776
  · rw [if_pos h1, if_neg (by omega)]
  · by_cases h2 : n < -1099511627776
    · rw [if_neg h1, if_pos h2, if_neg (by omega)]
    · rw [if_neg h1, if_neg h2, dec_is n (by omega) (by omega) k hk]
      simp only [Option.bind_some]
      by_cases h3 : Lib.itoa n = s.data.toList
      · rw [if_pos ((toList_eq_iff _ _).2 h3), if_pos ⟨by omega, by omega, h3⟩]
      · rw [if_neg (fun e => h3 ((toList_eq_iff _ _).1 e)), if_neg (fun h => h3 h.2.2)]
theorem num_j2 (s : ByteArray) (a i : Nat) (neg : Bool) (c : UInt8) (hb : Hid (bt s (i : Int) = (c.toNat : Int))) (hi : i < s.size) (hs : s.size ≤ 1000000) (k : Nat) :
    scarpref28_num.j2 (k + 1) s (a : Int) neg (i : Int) false = if 48 ≤ c.toNat ∧ c.toNat ≤ 57 ∧ a ≤ 1099511627776 then scarpref28_num.l0 k s ((10 * a + (c.toNat - 48) : Nat) : Int) neg ((i + 1 : Nat) : Int) else some (0, false) := by
  have hc := c.toNat_lt
  rw [scarpref28_num.j2, if_neg (by decide), if_pos (by omega), if_pos (by omega), hb.out]
  by_cases h1 : c.toNat < 48
  · rw [if_pos (by omega), if_neg (by omega)]
  · rw [if_neg (by omega)]
    by_cases h2 : 57 < c.toNat
    · rw [if_pos (by omega), if_neg (by omega)]
    · rw [if_neg (by omega)]
      by_cases h3 : 1099511627776 < a
      · rw [if_pos (by omega), if_neg (by omega)]
      · rw [if_neg (by omega), if_pos ⟨by omega, by omega, by omega⟩]
        rw [wrn a c.toNat (by omega) (by omega), wr1 i (by omega)]
/-- How the reading ends. -/
def numE (neg : Bool) (s : List UInt8) (r : Option Nat) : Int × Bool := match r with
  | none => (0, false)
  | some u => numC (if neg = true then -(u : Int) else u) s
theorem num_l0 (s : ByteArray) (neg : Bool) (hs : s.size ≤ 1000000) : ∀ (d i : Nat) (a : Nat) (k : Nat), s.size - i = d → i ≤ s.size → (neg = true → 0 < i) → a ≤ 15000000000000 → 2 * d + 40 ≤ k →
    scarpref28_num.l0 k s (a : Int) neg (i : Int) = some (numE neg s.data.toList (numL a (s.data.toList.drop i))) := by
  intro d
  induction d with
  | zero =>
    intro i a k hd hi hneg ha hk
    obtain ⟨k, rfl⟩ : ∃ j, k = j + 1 := ⟨k - 1, by omega⟩
    have e : s.data.toList.drop i = [] := by rw [List.drop_eq_nil_iff, ← size_data]; omega
    rw [scarpref28_num.l0, if_neg (by omega), e]
    cases neg
    · rw [if_neg (by decide)]
      exact num_end s a (by omega) k (by omega)
    · rw [if_pos rfl, IntWalk.wrap64_in _ (by omega)]
      exact num_end s (-(a : Int)) (by omega) k (by omega)
  | succ d ih =>
    intro i a k hd hi hneg ha hk
    obtain ⟨k, rfl⟩ : ∃ j, k = j + 2 := ⟨k - 2, by omega⟩
    have hl : i < s.data.toList.length := by rw [← size_data]; omega
    have e := List.drop_eq_getElem_cons hl
    have b1 := Lib.hid (bt_get s i hl)
    generalize s.data.toList[i] = c at e b1
    have hj : scarpref28_num.j2 (k + 1) s (a : Int) neg (i : Int) false = some (numE neg s.data.toList (numL a (c :: s.data.toList.drop (i + 1)))) := by
      rw [num_j2 s a i neg c b1 (by omega) hs k, numL]
      by_cases h : 48 ≤ c.toNat ∧ c.toNat ≤ 57 ∧ a ≤ 1099511627776
      · rw [if_pos h, if_pos h]
        exact ih (i + 1) (10 * a + (c.toNat - 48)) k (by omega) (by omega) (fun _ => by omega) (by omega) (by omega)
      · rw [if_neg h, if_neg h]; rfl
    rw [scarpref28_num.l0, if_pos (by omega), e]
    cases neg
    · rw [if_neg (by decide)]; exact hj
    · rw [if_pos rfl, show (((i : Int)) == 0) = false by rw [beq_eq_false_iff_ne]; have := hneg rfl; omega]; exact hj
/-- What a text is read as, a number. -/
def numR (s : List UInt8) : Int × Bool := match s with
  | [] => numE false s (some 0)
  | c :: r => if c = 45 then numE true s (numL 0 r) else numE false s (numL 0 s)
theorem rnum_is (s : ByteArray) (hs : s.size ≤ 1000000) : ∀ k, 2 * s.size + 50 ≤ k → scarpref28_num.f k s = some (numR s.data.toList) := by
  intro k hk
  unfold scarpref28_num.f
  obtain ⟨k, rfl⟩ : ∃ j, k = j + 1 := ⟨k - 1, by omega⟩
  rcases h0 : s.data.toList with _ | ⟨c, r⟩
  · have hz : s.size = 0 := by rw [size_data, h0]; rfl
    rw [if_neg (by omega)]
    rw [scarpref28_num.j0]
    have := num_l0 s false hs 0 0 0 k (by omega) (by omega) (by decide) (by omega) (by omega)
    rw [h0] at this
    exact this
  · have hz : 0 < s.size := by rw [size_data, h0]; simp
    have b1 := bt_get s 0 (by rw [h0]; simp)
    simp only [h0, List.getElem_cons_zero] at b1
    rw [if_pos (by omega), if_pos (by omega), show bt s 0 = (c.toNat : Int) from b1]
    rw [scarpref28_num.j0]
    by_cases hc : c = 45
    · subst hc
      obtain ⟨k, rfl⟩ : ∃ j, k = j + 2 := ⟨k - 2, by omega⟩
      have e : (((45 : UInt8).toNat : Int) == 45) = true := rfl
      rw [e]
      have := num_l0 s true hs (s.size - 1) 1 0 k (by omega) (by omega) (by omega) (by omega) (by omega)
      rw [scarpref28_num.l0]
      rw [if_pos (by omega), if_pos rfl, show ((0 : Int) == 0) = true from rfl]
      rw [scarpref28_num.j2]
      rw [if_pos rfl, wrap_one, show (1 : Int) = ((1 : Nat) : Int) from rfl]
      rw [h0] at this
      exact this
    · have e : ((c.toNat : Int) == 45) = false := by
        rw [beq_eq_false_iff_ne]; intro h; exact hc (UInt8.toNat_inj.1 (by have : (45 : UInt8).toNat = 45 := rfl
                                                                           omega))
      rw [e]
      have := num_l0 s false hs s.size 0 0 k (by omega) (by omega) (by decide) (by omega) (by omega)
      rw [h0, List.drop_zero] at this
      unfold numR
      dsimp only
      rw [if_neg hc]
      exact this

/-! ### how much a list of puts holds -/
theorem sum_one (n x : Int) (h0 : 0 ≤ n) (h1 : n ≤ 1099511627776) (hx : 0 ≤ x) (k : Nat) (hk : 3 ≤ k) : ∃ r, scarpalike_Sum.f k n [x] = some r ∧ 0 ≤ r ∧ r ≤ 1099511627776 ∧ (r ≤ 3000 → r = n + x) := by
  obtain ⟨k, rfl⟩ : ∃ j, k = j + 2 := ⟨k - 2, by omega⟩
  unfold scarpalike_Sum.f
  rw [scarpalike_Sum.l0]
  rw [if_pos (by simp), if_neg (by omega), if_pos (by omega), show rd [x] 0 = x from rfl, IntWalk.wrap64_in (1099511627776 - n) (by omega)]
  by_cases h : x > 1099511627776 - n
  · rw [if_pos h]; exact ⟨_, rfl, by omega, by omega, fun h => by omega⟩
  · rw [if_neg h, wrap_one, scarpalike_Sum.l0, if_neg (by simp), IntWalk.wrap64_in (n + x) (by omega)]
    exact ⟨_, rfl, by omega, by omega, fun _ => rfl⟩
/-- How many bytes they hold. -/
def lenSum (l : List S42) : Nat := (l.map fun p => p.f1.length).sum
theorem rdT_at (m : List S42) (i : Nat) (h : i < m.length) : rd_T42 m (i : Int) = m[i] := by
  unfold rd_T42
  rw [Int.toNat_natCast, List.getD_eq_getElem?_getD, List.getElem?_eq_getElem h]; rfl
theorem puts_l0 (l : List S42) (hl : l.length ≤ 140737488351232) : ∀ (d i : Nat) (n : Int) (k : Nat), l.length - i = d → i ≤ l.length → 0 ≤ n → n ≤ 1099511627776 → d + 5 ≤ k →
    ∃ r, scarpalike_Puts.l0 k l 3000 n (i : Int) = some r ∧ (r ≤ 3000 → r = n + (lenSum (l.drop i) : Int)) := by
  intro d
  induction d with
  | zero =>
    intro i n k hd hi h0 h1 hk
    obtain ⟨k, rfl⟩ : ∃ j, k = j + 1 := ⟨k - 1, by omega⟩
    rw [scarpalike_Puts.l0]
    rw [if_neg (by omega)]
    exact ⟨n, rfl, fun _ => by rw [show l.drop i = [] by rw [List.drop_eq_nil_iff]; omega]; simp [lenSum]⟩
  | succ d ih =>
    intro i n k hd hi h0 h1 hk
    obtain ⟨k, rfl⟩ : ∃ j, k = j + 1 := ⟨k - 1, by omega⟩
    have hlt : i < l.length := by omega
    rw [scarpalike_Puts.l0]
    rw [if_pos (by omega)]
    by_cases h3 : n ≤ 3000
    · rw [if_pos h3, if_pos (by omega), rdT_at l i hlt]
      obtain ⟨r1, e1, r0, r2, r3⟩ := sum_one n (l[i].f1.length : Int) h0 h1 (by omega) k (by omega)
      rw [e1]
      simp only [Option.bind_some]
      rw [IntWalk.wrap64_in _ (by omega), show (i : Int) + 1 = ((i + 1 : Nat) : Int) by omega]
      obtain ⟨r, e, hr⟩ := ih (i + 1) r1 k (by omega) (by omega) r0 r2 (by omega)
      refine ⟨r, e, fun h => ?_⟩
      have e4 := hr h
      have e5 := r3 (by omega)
      rw [List.drop_eq_getElem_cons hlt]
      simp only [lenSum, List.map_cons, List.sum_cons] at e4 ⊢
      omega
    · rw [if_neg h3]; exact ⟨n, rfl, fun h => by omega⟩
theorem puts_is (l : List S42) (hl : l.length ≤ 140737488351232) : ∀ k, l.length + 8 ≤ k → ∃ r, scarpalike_Puts.f k l 3000 = some r ∧ (r ≤ 3000 → l.length + lenSum l ≤ 3000) := by
  intro k hk
  unfold scarpalike_Puts.f
  obtain ⟨r1, e1, r0, r2, r3⟩ := sum_one 0 (l.length : Int) (by omega) (by omega) (by omega) k (by omega)
  rw [e1]
  simp only [Option.bind_some]
  obtain ⟨r, e, hr⟩ := puts_l0 l hl l.length 0 r1 k (by omega) (by omega) r0 r2 (by omega)
  refine ⟨r, e, fun h => ?_⟩
  have e4 := hr h
  have e5 := r3 (by omega)
  rw [List.drop_zero] at e4
  omega
attribute [irreducible] unbP numR spl
end Go.Proofs.YtjjpnmeldgnfeaaDoor
