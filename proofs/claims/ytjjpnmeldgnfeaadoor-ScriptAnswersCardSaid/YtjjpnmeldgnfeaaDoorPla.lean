/-
  Plain law: what the printed functions answer for bytes as text and for numbers as text.
-/
import Derived.Test.YtjjpnmeldgnfeaaDoorPScriptTextsx1
import Derived.Test.YtjjpnmeldgnfeaaDoorPScriptTextsx5
import Derived.Lib.ItoaNum
import Derived.Lib.ItoaMem
import Derived.IntWalk
namespace Go.Proofs.YtjjpnmeldgnfeaaDoor
open Go Go.RowKit Go.Proofs.YtjjpnmeldgnfeaaDoor.PScriptTexts Go.Proofs.YtjjpnmeldgnfeaaDoorW.PrintWords

/-- A hex digit. -/
def hd (d : Nat) : UInt8 := if d < 10 then UInt8.ofNat (48 + d) else UInt8.ofNat (87 + d)
/-- Without noughts at the end. -/
def stripZ (l : List Int) : List Int := (l.reverse.dropWhile (fun c => c == 0)).reverse
def hexI (c : Int) : List Int := [((hd (c.toNat / 16)).toNat : Int), ((hd (c.toNat % 16)).toNat : Int)]
def hexB (c : Int) : List UInt8 := [hd (c.toNat / 16), hd (c.toNat % 16)]
/-- Bytes as a text. -/
def bytesP (l : List Int) : List UInt8 := if stripZ l = [] then [45] else (stripZ l).flatMap hexB
theorem stripZ_zero (l : List Int) : stripZ (l ++ [0]) = stripZ l := by unfold stripZ; simp
theorem stripZ_end (l : List Int) (c : Int) (h : c ≠ 0) : stripZ (l ++ [c]) = l ++ [c] := by unfold stripZ; simp [h]
theorem snoc_cases (l : List Int) : l = [] ∨ ∃ m c, l = m ++ [c] := by
  rcases List.eq_nil_or_concat l with h | ⟨m, c, h⟩
  · exact .inl h
  · exact .inr ⟨m, c, by rw [h, List.concat_eq_append]⟩

theorem hex_bt : ∀ d : Fin 16, bt (⟨#[48, 49, 50, 51, 52, 53, 54, 55, 56, 57, 97, 98, 99, 100, 101, 102]⟩ : ByteArray) (d.1 : Int) = ((hd d.1).toNat : Int) := by decide +kernel
theorem and15 : ∀ c : Fin 256, Go.bits .and .u8 (c.1 : Int) 15 = ((c.1 % 16 : Nat) : Int) := by decide +kernel
/-- One byte's digits. -/
theorem hex_of (c : Int) (h0 : 0 ≤ c) (h1 : c < 256) : 0 ≤ c / 16 ∧ c / 16 < 16 ∧ 0 ≤ Go.bits .and .u8 c 15 ∧ Go.bits .and .u8 c 15 < 16 ∧
    [bt (⟨#[48, 49, 50, 51, 52, 53, 54, 55, 56, 57, 97, 98, 99, 100, 101, 102]⟩ : ByteArray) (c / 16), bt (⟨#[48, 49, 50, 51, 52, 53, 54, 55, 56, 57, 97, 98, 99, 100, 101, 102]⟩ : ByteArray) (Go.bits .and .u8 c 15)] = hexI c := by
  obtain ⟨n, rfl⟩ := Int.eq_ofNat_of_zero_le h0
  have hn : n < 256 := by omega
  have e1 := and15 ⟨n, hn⟩
  dsimp only at e1
  have e2 := hex_bt ⟨n / 16, by omega⟩
  have e3 := hex_bt ⟨n % 16, by omega⟩
  dsimp only at e2 e3
  refine ⟨by omega, by omega, by rw [e1]; omega, by rw [e1]; omega, ?_⟩
  rw [e1, e3, show (n : Int) / 16 = ((n / 16 : Nat) : Int) by omega, e2]
  rfl
theorem rd_at (m : List Int) (i : Nat) (h : i < m.length) : rd m (i : Int) = m[i] := by
  unfold rd
  rw [Int.toNat_natCast, List.getD_eq_getElem?_getD, List.getElem?_eq_getElem h]; rfl
theorem flat_step (m : List Int) (i : Nat) (h : i < m.length) : (m.drop i).flatMap hexI = hexI m[i] ++ (m.drop (i + 1)).flatMap hexI := by
  rw [List.drop_eq_getElem_cons h, List.flatMap_cons]
theorem str_hex (m : List Int) : strOfNums (m.flatMap hexI) = ⟨(m.flatMap hexB).toArray⟩ := by
  unfold strOfNums
  congr 2
  induction m with
  | nil => rfl
  | cons c r ih =>
    rw [List.flatMap_cons, List.map_append, ih, List.flatMap_cons]
    congr 1
    simp [hexI, hexB]
theorem sb_l1 (m : List Int) (hm : ∀ x ∈ m, 0 ≤ x ∧ x < 256) (hl : m.length ≤ 1000000) : ∀ (d i : Nat) (acc : List Int) (k : Nat), m.length - i = d → i ≤ m.length → acc.length = 2 * i → d < k →
    script_Bytes.l1 k acc m (m.length : Int) (i : Int) = some (strOfNums (acc ++ (m.drop i).flatMap hexI)) := by
  intro d
  induction d with
  | zero =>
    intro i acc k hd hi ha hk
    obtain ⟨k, rfl⟩ : ∃ j, k = j + 1 := ⟨k - 1, by omega⟩
    obtain rfl : i = m.length := by omega
    simp only [script_Bytes.l1]
    rw [if_neg (by omega), List.drop_length, List.flatMap_nil, List.append_nil]
  | succ d ih =>
    intro i acc k hd hi ha hk
    obtain ⟨k, rfl⟩ : ∃ j, k = j + 1 := ⟨k - 1, by omega⟩
    have hlt : i < m.length := by omega
    have hc := hm m[i] (List.getElem_mem hlt)
    obtain ⟨a1, a2, a3, a4, a5⟩ := hex_of m[i] hc.1 hc.2
    simp only [script_Bytes.l1]
    rw [rd_at m i hlt, if_pos (by omega), if_pos (by omega), if_pos (by omega), if_pos a1, if_pos a2, if_pos a3, if_pos a4, a5]
    simp only [Option.bind_some]
    have h2 : (hexI m[i]).length = 2 := rfl
    rw [if_pos (by omega), IntWalk.wrap64_in _ (by omega), show (i : Int) + 1 = ((i + 1 : Nat) : Int) by omega, ih (i + 1) _ k (by omega) (by omega) (by rw [List.length_append]; omega) (by omega), flat_step m i hlt, List.append_assoc]
theorem sb_any : ∀ (n : Nat) (l : List Int), l.length = n → (∀ x ∈ l, 0 ≤ x ∧ x < 256) → n ≤ 1000000 → ∀ k, 2 * n + 5 ≤ k → script_Bytes.l0 k l = some ⟨(bytesP l).toArray⟩ := by
  intro n
  induction n with
  | zero =>
    intro l hl hm hn k hk
    obtain rfl := List.eq_nil_of_length_eq_zero hl
    obtain ⟨k, rfl⟩ : ∃ j, k = j + 2 := ⟨k - 2, by omega⟩
    rfl
  | succ n ih =>
    intro l hl hm hn k hk
    rcases snoc_cases l with rfl | ⟨m, c, rfl⟩
    · simp at hl
    · have hml : m.length = n := by simpa using hl
      obtain ⟨k, rfl⟩ : ∃ j, k = j + 1 := ⟨k - 1, by omega⟩
      have hle : ((m ++ [c]).length : Int) = (n : Int) + 1 := by rw [hl]; omega
      have hrd : rd (m ++ [c]) (n : Int) = c := by
        rw [rd_at _ n (by omega)]
        rw [List.getElem_append_right (by omega)]; simp [hml]
      simp only [script_Bytes.l0]
      rw [hle, IntWalk.wrap64_in _ (by omega), show (n : Int) + 1 - 1 = (n : Int) by omega, hrd, if_pos (by omega), if_pos (by omega), if_pos (by omega)]
      by_cases hc : c = 0
      · rw [if_pos hc, if_pos (by omega)]
        subst hc
        have ht : (m ++ [0]).take ((n : Int)).toNat = m := by rw [Int.toNat_natCast, ← hml, List.take_left]
        rw [ht, ih m hml (fun x hx => hm x (by simp [hx])) (by omega) k (by omega)]
        unfold bytesP
        rw [stripZ_zero]
      · rw [if_neg hc]
        obtain ⟨k, rfl⟩ : ∃ j, k = j + 1 := ⟨k - 1, by omega⟩
        simp only [script_Bytes.j1]
        rw [if_neg (by omega)]
        have := sb_l1 (m ++ [c]) hm (by omega) (m ++ [c]).length 0 [] k (by omega) (by omega) rfl (by omega)
        rw [show ((0 : Nat) : Int) = 0 from rfl] at this
        rw [this, List.nil_append, List.drop_zero, str_hex]
        unfold bytesP
        rw [stripZ_end _ _ hc, if_neg (by simp)]
theorem rb_l1 (x : List Int) (n : Nat) (hn : n ≤ x.length) (hm : ∀ c ∈ x, 0 ≤ c ∧ c < 256) (hl : n ≤ 1000000) : ∀ (d i : Nat) (acc : List Int) (k : Nat), n - i = d → i ≤ n → acc.length = 2 * i → d < k →
    scarpref28_Bytes.l1 k x (n : Int) acc (i : Int) = some (strOfNums (acc ++ ((x.take n).drop i).flatMap hexI)) := by
  intro d
  have htl : (x.take n).length = n := by rw [List.length_take]; omega
  induction d with
  | zero =>
    intro i acc k hd hi ha hk
    obtain ⟨k, rfl⟩ : ∃ j, k = j + 1 := ⟨k - 1, by omega⟩
    obtain rfl : i = n := by omega
    simp only [scarpref28_Bytes.l1]
    rw [if_neg (by omega), show (x.take i).drop i = [] by rw [List.drop_eq_nil_iff]; omega, List.flatMap_nil, List.append_nil]
  | succ d ih =>
    intro i acc k hd hi ha hk
    obtain ⟨k, rfl⟩ : ∃ j, k = j + 1 := ⟨k - 1, by omega⟩
    have hlt : i < x.length := by omega
    have hc := hm x[i] (List.getElem_mem hlt)
    obtain ⟨a1, a2, a3, a4, a5⟩ := hex_of x[i] hc.1 hc.2
    simp only [scarpref28_Bytes.l1]
    rw [rd_at x i hlt, if_pos (by omega), if_pos (by omega), if_pos (by omega), if_pos a1, if_pos a2, if_pos a3, if_pos a4, a5]
    simp only [Option.bind_some]
    have h2 : (hexI x[i]).length = 2 := rfl
    have hfl := flat_step (x.take n) i (by omega)
    rw [List.getElem_take] at hfl
    rw [if_pos (by omega), IntWalk.wrap64_in _ (by omega), show (i : Int) + 1 = ((i + 1 : Nat) : Int) by omega, ih (i + 1) _ k (by omega) (by omega) (by rw [List.length_append]; omega) (by omega), hfl, List.append_assoc]
theorem rb_any (x : List Int) (hm : ∀ c ∈ x, 0 ≤ c ∧ c < 256) (hl : x.length ≤ 1000000) : ∀ (n : Nat), n ≤ x.length → ∀ k, 2 * n + 5 ≤ k → scarpref28_Bytes.l0 k x (n : Int) = some ⟨(bytesP (x.take n)).toArray⟩ := by
  intro n
  induction n with
  | zero =>
    intro hn k hk
    obtain ⟨k, rfl⟩ : ∃ j, k = j + 2 := ⟨k - 2, by omega⟩
    rfl
  | succ n ih =>
    intro hn k hk
    obtain ⟨k, rfl⟩ : ∃ j, k = j + 1 := ⟨k - 1, by omega⟩
    have hrd := rd_at x n (by omega)
    have htk : x.take (n + 1) = x.take n ++ [x[n]] := List.take_succ_eq_append_getElem (by omega)
    simp only [scarpref28_Bytes.l0]
    rw [IntWalk.wrap64_in _ (by omega), show ((n + 1 : Nat) : Int) - 1 = (n : Int) by omega, hrd, if_pos (by omega), if_pos (by omega), if_pos (by omega)]
    by_cases hc : x[n] = 0
    · rw [if_pos hc, ih (by omega) k (by omega), htk, hc]
      unfold bytesP
      rw [stripZ_zero]
    · rw [if_neg hc]
      obtain ⟨k, rfl⟩ : ∃ j, k = j + 1 := ⟨k - 1, by omega⟩
      simp only [scarpref28_Bytes.j1]
      rw [if_neg (by omega)]
      have := rb_l1 x (n + 1) hn hm (by omega) (n + 1) 0 [] k (by omega) (by omega) rfl (by omega)
      rw [show ((0 : Nat) : Int) = 0 from rfl] at this
      rw [this, List.nil_append, List.drop_zero, str_hex, htk]
      unfold bytesP
      rw [stripZ_end _ _ hc, if_neg (List.append_ne_nil_of_right_ne_nil _ (List.cons_ne_nil _ _))]
theorem sbytes_is (l : List Int) (hm : ∀ x ∈ l, 0 ≤ x ∧ x < 256) (hl : l.length ≤ 1000000) : ∀ k, 2 * l.length + 5 ≤ k → script_Bytes.f k l = some ⟨(bytesP l).toArray⟩ := sb_any l.length l rfl hm hl
theorem rbytes_is (l : List Int) (hm : ∀ x ∈ l, 0 ≤ x ∧ x < 256) (hl : l.length ≤ 1000000) : ∀ k, 2 * l.length + 5 ≤ k → scarpref28_Bytes.f k l = some ⟨(bytesP l).toArray⟩ := fun k hk => by
  have := rb_any l hm hl l.length (Nat.le_refl _) k hk
  rw [List.take_length] at this
  exact this

/-! ### Decimal -/
def decI (u : Nat) : List Int := if u = 0 then [] else (Lib.decDigits u).map fun c => (c.toNat : Int)
theorem decI_step (u : Nat) (h : 0 < u) : decI u = decI (u / 10) ++ [(48 + (u : Int) % 10)] := by
  unfold decI
  rw [if_neg (by omega)]
  have e : ((UInt8.ofNat (48 + u % 10)).toNat : Int) = 48 + (u : Int) % 10 := by simp only [UInt8.toNat_ofNat']; omega
  by_cases h10 : u < 10
  · rw [if_pos (by omega), Lib.decDigits, dif_pos h10, List.nil_append]
    simp only [List.map_cons, List.map_nil]
    rw [show u % 10 = u by omega] at e
    rw [e]
  · rw [if_neg (by omega), Lib.decDigits, dif_neg h10, List.map_append]
    simp only [List.map_cons, List.map_nil]
    rw [e]
def finI (x0 : Int) (a : List Int) : ByteArray := if x0 < 0 then strOfNums ([45] ++ a) else strOfNums a
theorem dec_l0 (x0 : Int) : ∀ (j u : Nat) (acc : List Int) (k : Nat), u < 10 ^ j → u < 18446744073709551616 → acc.length + j ≤ 100 → j + 1 ≤ k → scarpref1_Decimal.l0 k x0 (u : Int) acc = some (finI x0 (decI u ++ acc)) := by
  intro j
  induction j with
  | zero =>
    intro u acc k hu _ ha hk
    obtain ⟨k, rfl⟩ : ∃ m, k = m + 1 := ⟨k - 1, by omega⟩
    obtain rfl : u = 0 := by simpa using hu
    simp only [scarpref1_Decimal.l0]
    rw [if_neg (by omega)]
    unfold finI decI
    by_cases h : x0 < 0
    · rw [if_pos h, if_pos h]; simp only [Option.bind_some]; rw [if_pos (by simp; omega)]; simp
    · rw [if_neg h, if_neg h]; simp
  | succ j ih =>
    intro u acc k hu h64 ha hk
    by_cases h0 : u = 0
    · subst h0
      obtain ⟨k, rfl⟩ : ∃ m, k = m + 1 := ⟨k - 1, by omega⟩
      simp only [scarpref1_Decimal.l0]
      rw [if_neg (by omega)]
      unfold finI decI
      by_cases h : x0 < 0
      · rw [if_pos h, if_pos h]; simp only [Option.bind_some]; rw [if_pos (by simp; omega)]; simp
      · rw [if_neg h, if_neg h]; simp
    · obtain ⟨k, rfl⟩ : ∃ m, k = m + 1 := ⟨k - 1, by omega⟩
      simp only [scarpref1_Decimal.l0]
      rw [if_pos (by omega)]
      simp only [Option.bind_some]
      have e1 : (IntKind.u64.wrap (48 + Int.tmod (u : Int) 10)) % 256 = 48 + (u : Int) % 10 := by
        rw [Int.tmod_eq_emod_of_nonneg (by omega), IntKind.wrap_u64]; omega
      have e2 : IntKind.u64.wrap (Int.tdiv (u : Int) 10) = ((u / 10 : Nat) : Int) := by
        rw [Int.tdiv_eq_ediv_of_nonneg (by omega), IntKind.wrap_u64]; omega
      rw [e1, e2, if_pos (by simp; omega), ih (u / 10) _ k (by rw [Nat.pow_succ] at hu; omega) (by omega) (by simp; omega) (by omega), decI_step u (by omega), List.append_assoc]
theorem str_dec (u : Nat) (h : 0 < u) : strOfNums (decI u) = ⟨(Lib.decDigits u).toArray⟩ := by
  unfold strOfNums decI
  rw [if_neg (by omega), List.map_map]
  congr 2
  conv => rhs; rw [← List.map_id (Lib.decDigits u)]
  apply List.map_congr_left
  intro c _
  simp
theorem str_dec_neg (u : Nat) (h : 0 < u) : strOfNums ([45] ++ decI u) = ⟨(45 :: Lib.decDigits u).toArray⟩ := by
  have := str_dec u h
  unfold strOfNums at this ⊢
  rw [List.map_append]
  injection this with e
  have e2 := congrArg Array.toList e
  simp only [] at e2
  rw [e2]
  rfl
theorem dec_is (n : Int) (h0 : -9223372036854775808 ≤ n) (h1 : n ≤ 9223372036854775807) : ∀ k, 25 ≤ k → scarpref1_Decimal.f k n = some ⟨(Lib.itoa n).toArray⟩ := by
  intro k hk
  unfold scarpref1_Decimal.f
  by_cases hz : n = 0
  · rw [if_pos hz, hz]
    unfold Lib.itoa
    rw [if_neg (by decide), show (0 : Int).toNat = 0 from rfl, Lib.decDigits_one (by decide)]; rfl
  · rw [if_neg hz]
    obtain ⟨k, rfl⟩ : ∃ m, k = m + 1 := ⟨k - 1, by omega⟩
    by_cases hn : n < 0
    · rw [if_pos hn]
      have e : IntKind.u64.wrap (-(IntKind.u64.wrap n)) = ((n.natAbs : Nat) : Int) := by rw [IntKind.wrap_u64, IntKind.wrap_u64]; omega
      simp only [scarpref1_Decimal.j0]
      rw [e, dec_l0 n 20 n.natAbs [] k (by omega) (by omega) (by simp) (by omega), List.append_nil]
      unfold finI
      rw [if_pos hn, str_dec_neg _ (by omega)]
      unfold Lib.itoa
      rw [if_pos hn]
    · rw [if_neg hn]
      have e : IntKind.u64.wrap n = ((n.toNat : Nat) : Int) := by rw [IntKind.wrap_u64]; omega
      simp only [scarpref1_Decimal.j0]
      rw [e, dec_l0 n 20 n.toNat [] k (by omega) (by omega) (by simp) (by omega), List.append_nil]
      unfold finI
      rw [if_neg hn, str_dec _ (by omega)]
      unfold Lib.itoa
      rw [if_neg hn]
attribute [irreducible] bytesP stripZ
end Go.Proofs.YtjjpnmeldgnfeaaDoor
