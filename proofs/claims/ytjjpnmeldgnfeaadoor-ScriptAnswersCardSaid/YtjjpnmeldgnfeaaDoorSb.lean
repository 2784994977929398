/-
  What the walks ask of the world; the contracts of the callees, in plain words.
-/
import Derived.Test.YtjjpnmeldgnfeaaDoorPlb
import Derived.Test.YtjjpnmeldgnfeaaDoorRows
import Derived.Test.YtjjpnmeldgnfeaaDoorShelf
import Derived.WalkSpells
import Derived.WalkLawsBesides
import Derived.Deep.RegionHeld3
import Derived.Deep.DeepCutAuto
import Derived.LoopTactic
namespace Go.Proofs.YtjjpnmeldgnfeaaDoor
open Go Go.RowKit Go.Proofs.YtjjpnmeldgnfeaaDoor.PScriptTexts Go.Proofs.YtjjpnmeldgnfeaaDoorW.PrintWords
set_option maxRecDepth 100000

/-- What the start-up code laid, and one variable of the library's own that holds some int. -/
structure Env (w : World) : Prop where
  tab : Lib.TabIs Tryd.prog w "internal/strconv.uint64pow10" .u64 Lib.pow10Tab
  syn : ∃ te pe, w.cell? ⟨1, 0, none⟩ = some (.iface te pe)
  rng : ∃ te pe, w.cell? ⟨2, 0, none⟩ = some (.iface te pe)
  mx : ∃ m, w.cell? ⟨0, 0, none⟩ = some (.int .i64 m)

theorem tabIs_below {P : Program} {w w' : World} {name : String} {k : IntKind} {zs : List Int} (h : Lib.TabIs P w name k zs) (hb : Below w.heap.size w w') : Lib.TabIs P w' name k zs := by
  unfold Lib.TabIs World.var? at *
  cases hg : P.globalNamed name with
  | none => simp [hg] at h
  | some g =>
    simp only [hg, Option.bind_some] at h ⊢
    have hlt : g < w.heap.size := by
      rcases Nat.lt_or_ge g w.heap.size with h' | h'
      · exact h'
      · rw [Array.getElem?_eq_none h'] at h; simp at h
    rw [hb.block g hlt]
    exact h
theorem cell_below {w w' : World} {g i : Nat} {v : Value} (h : w.cell? ⟨g, i, none⟩ = some v) (hb : Below w.heap.size w w') : w'.cell? ⟨g, i, none⟩ = some v := by
  rw [hb.cell (show (⟨g, i, none⟩ : Addr).block < w.heap.size from Lib.lt_of_cell h)]; exact h
theorem Env.below {w w' : World} (h : Env w) (hb : Below w.heap.size w w') : Env w' :=
  ⟨tabIs_below h.tab hb, let ⟨te, pe, e⟩ := h.syn; ⟨te, pe, cell_below e hb⟩, let ⟨te, pe, e⟩ := h.rng; ⟨te, pe, cell_below e hb⟩, let ⟨m, e⟩ := h.mx; ⟨m, cell_below e hb⟩⟩
theorem below_grow (w : World) (k : Nat) (os : Array Obj) : Below w.heap.size w (Sort.grow (w.drewN k) os) :=
  ⟨rfl, rfl, rfl, by show _ ≤ (w.heap ++ os).size; rw [Array.size_append]; omega, fun j hj => by show (w.heap ++ os)[j]? = _; rw [Array.getElem?_append_left hj]⟩
theorem below_trans {w w1 w2 : World} (h1 : Below w.heap.size w w1) (h2 : Below w1.heap.size w1 w2) : Below w.heap.size w w2 := h1.trans (h2.mono h1.size)
theorem bcell {W w1 : World} (hb : Below W.heap.size W w1) : (∀ b o, b < W.heap.size → w1.cell? ⟨b, o, none⟩ = W.cell? ⟨b, o, none⟩) ∧ (∀ b o, b < W.heap.size → w1.frozen? ⟨b, o, none⟩ = W.frozen? ⟨b, o, none⟩) :=
  ⟨fun b o h => hb.cell (p := ⟨b, o, none⟩) h, fun b o h => hb.frozen (p := ⟨b, o, none⟩) h⟩
theorem ba_append (a b : List UInt8) : (ba a ++ ba b : ByteArray) = ba (a ++ b) := by
  apply ByteArray.ext
  show (ByteArray.append _ _).data = _
  simp [ByteArray.append]

/-! ### numbers as texts -/
theorem itoa_any (n : Int) (h0 : -9223372036854775808 ≤ n) (h1 : n ≤ 9223372036854775807) (w : World) (E : Env w) :
    Calls Tryd.prog 34 #[.int .i64 n] w fun e w' => e = .returned (.string (ba (Lib.itoa n))) ∧ Below w.heap.size w w' :=
  (Tryd.strconv_Itoa n h0 h1 w E.tab).mono fun _ _ ⟨h, k, os, hw⟩ => ⟨h, hw ▸ below_grow w k os⟩
theorem rdec_any (n : Int) (h0 : -9223372036854775808 ≤ n) (h1 : n ≤ 9223372036854775807) (w : World) :
    Calls Tryd.prog 36 #[.int .i64 n] w fun e w' => e = .returned (.string (ba (Lib.itoa n))) ∧ Below w.heap.size w w' :=
  scarpref1_Decimal.calls 25 n _ w (dec_is n h0 h1 25 (Nat.le_refl _))
theorem dec_len (u : Nat) : ∀ j, u < 10 ^ j → (Lib.decDigits u).length ≤ j + 1 := by
  intro j
  induction j generalizing u with
  | zero =>
    intro h
    rw [Lib.decDigits, dif_pos (by omega)]; simp
  | succ j ih =>
    intro h
    rw [Lib.decDigits]
    by_cases h10 : u < 10
    · rw [dif_pos h10]; simp
    · rw [dif_neg h10, List.length_append]
      have := ih (u / 10) (by rw [Nat.pow_succ] at h; omega)
      simp; omega
theorem itoa_len (n : Int) (h0 : -9223372036854775808 ≤ n) (h1 : n ≤ 9223372036854775807) : (Lib.itoa n).length ≤ 22 := by
  unfold Lib.itoa
  split
  · have := dec_len n.natAbs 20 (by omega)
    simp; omega
  · have := dec_len n.toNat 20 (by omega)
    omega

/-! ### bytes as texts -/
/-- A row of bytes that is read. -/
def RowB (w : World) (A : Option Addr) (l : List Int) (c : Nat) : Prop := (Kd.int .u8).C w A l.length l ∧ l.length ≤ c
/-- Bytes are bytes. -/
def InB (l : List Int) : Prop := ∀ x ∈ l, 0 ≤ x ∧ x < 256
theorem RowB.below {w w1 : World} {A : Option Addr} {l : List Int} {c : Nat} (h : RowB w A l c) (hb : Below w.heap.size w w1) : RowB w1 A l c := ⟨Kd.C_below h.1 hb, h.2⟩
theorem sbytes_any (A : Option Addr) (l : List Int) (c : Nat) (w : World) (h : RowB w A l c) (hm : InB l) (hl : l.length ≤ 1000000) :
    Calls Tryd.prog 18 #[.slice A l.length c] w fun e w' => e = .returned (.string (ba (bytesP l))) ∧ Below w.heap.size w w' :=
  script_Bytes.calls (2 * l.length + 5) (fun _ => True) A c l _ w (Kd.V_mk h.2 (fun _ hW => (Kd.heap_int .u8).C (fun k hk => hW k trivial hk) h.1)) (sbytes_is l hm hl _ (Nat.le_refl _))
theorem rbytes_any (A : Option Addr) (l : List Int) (c : Nat) (w : World) (h : RowB w A l c) (hm : InB l) (hl : l.length ≤ 1000000) :
    Calls Tryd.prog 19 #[.slice A l.length c] w fun e w' => e = .returned (.string (ba (bytesP l))) ∧ Below w.heap.size w w' :=
  scarpref28_Bytes.calls (2 * l.length + 5) A c l _ w h.1 h.2 (rbytes_is l hm hl _ (Nat.le_refl _))
theorem strip_len (l : List Int) : (stripZ l).length ≤ l.length := by
  unfold stripZ
  rw [List.length_reverse]
  have := (List.dropWhile_sublist (fun c : Int => c == 0) (l := l.reverse)).length_le
  rw [List.length_reverse] at this
  exact this
theorem flat_len (l : List Int) : (l.flatMap hexB).length = 2 * l.length := by
  induction l with
  | nil => rfl
  | cons c r ih => rw [List.flatMap_cons, List.length_append, ih]; simp [hexB]; omega
theorem bytesP_len (l : List Int) : (bytesP l).length ≤ 2 * l.length + 1 := by
  unfold bytesP
  split
  · simp
  · rw [flat_len]; have := strip_len l; omega

/-! ### the words of kinds -/
def wordL (k : Int) : List UInt8 := if k = 1 then [98, 101, 103, 105, 110] else if k = 2 then [114, 101, 97, 100] else if k = 3 then [119, 114, 105, 116, 101] else if k = 4 then [99, 111, 109, 109, 105, 116] else if k = 5 then [97, 98, 111, 114, 116] else []
theorem word_any (k : Int) (w : World) : Calls Tryd.prog 28 #[.int .i64 k] w fun e w' => e = .returned (.string (ba (wordL k))) ∧ w = w' := by
  by_cases h1 : k = 1
  · subst h1
    go_enter Tryd.func28, Tryd.ntmps28
    go_wp2_with fail
    go_ret
    exact ⟨rfl, rfl⟩
  · by_cases h2 : k = 2
    · subst h2
      go_enter Tryd.func28, Tryd.ntmps28
      go_wp2_with fail
      go_ret
      exact ⟨rfl, rfl⟩
    · by_cases h3 : k = 3
      · subst h3
        go_enter Tryd.func28, Tryd.ntmps28
        go_wp2_with fail
        go_ret
        exact ⟨rfl, rfl⟩
      · by_cases h4 : k = 4
        · subst h4
          go_enter Tryd.func28, Tryd.ntmps28
          go_wp2_with fail
          go_ret
          exact ⟨rfl, rfl⟩
        · by_cases h5 : k = 5
          · subst h5
            go_enter Tryd.func28, Tryd.ntmps28
            go_wp2_with fail
            go_ret
            exact ⟨rfl, rfl⟩
          · have e : wordL k = [] := by unfold wordL; rw [if_neg h1, if_neg h2, if_neg h3, if_neg h4, if_neg h5]
            rw [e]
            have q1 : (k == 1) = false := by rw [beq_eq_false_iff_ne]; exact h1
            have q2 : (k == 2) = false := by rw [beq_eq_false_iff_ne]; exact h2
            have q3 : (k == 3) = false := by rw [beq_eq_false_iff_ne]; exact h3
            have q4 : (k == 4) = false := by rw [beq_eq_false_iff_ne]; exact h4
            have q5 : (k == 5) = false := by rw [beq_eq_false_iff_ne]; exact h5
            clear h1 h2 h3 h4 h5 e
            go_enter Tryd.func28, Tryd.ntmps28
            go_wp2_with fail
            go_ret
            exact ⟨rfl, rfl⟩
theorem rword_is (k : Int) : scarpref28_word.f k = some (ba (wordL k)) := by
  unfold scarpref28_word.f wordL
  simp only [Option.bind_some]
  by_cases h0 : k < 0
  · rw [if_pos h0, if_neg (by omega), if_neg (by omega), if_neg (by omega), if_neg (by omega), if_neg (by omega)]
  · rw [if_neg h0]
    by_cases h6 : k ≥ 6
    · rw [if_pos (by simpa using h6), if_neg (by omega), if_neg (by omega), if_neg (by omega), if_neg (by omega), if_neg (by omega)]
    · have hk : k = 0 ∨ k = 1 ∨ k = 2 ∨ k = 3 ∨ k = 4 ∨ k = 5 := by omega
      rcases hk with rfl | rfl | rfl | rfl | rfl | rfl <;> decide
theorem rword_any (k : Int) (w : World) : Calls Tryd.prog 32 #[.int .i64 k] w fun e w' => e = .returned (.string (ba (wordL k))) ∧ Below w.heap.size w w' :=
  scarpref28_word.calls k _ w (rword_is k)

/-! ### the reference's words, numbers, bytes -/
theorem rsplit_any (s : ByteArray) (hs : s.size ≤ 100000) (w : World) :
    Calls Tryd.prog 31 #[.string s] w fun e w' => ∃ v : Value, e = .returned v ∧ Kd.R Kd.string 9 w' w.heap.size (fun _ => True) v ((spl [] s.data.toList).map ba) ∧ Below w.heap.size w w' :=
  scarpref28_split.calls _ s _ w (split_is s hs _ (Nat.le_refl _))
theorem rnum_any (s : ByteArray) (hs : s.size ≤ 1000000) (w : World) :
    Calls Tryd.prog 33 #[.string s] w fun e w' => e = .returned (.tuple #[.int .i64 (numR s.data.toList).1, .bool (numR s.data.toList).2]) ∧ Below w.heap.size w w' :=
  scarpref28_num.calls _ s _ _ w (rnum_is s hs _ (Nat.le_refl _))
theorem runb_any (s : ByteArray) (w : World) :
    Calls Tryd.prog 17 #[.string s] w fun e w' => ∃ v : Value, e = .returned (.tuple #[v, .bool (unbP s.data.toList).2]) ∧ Kd.R (Kd.int .u8) 5 w' w.heap.size (fun _ => True) v (unbP s.data.toList).1 ∧ Below w.heap.size w w' :=
  scarpref28_Unbytes.calls _ s _ _ w (runb_is s 200 (Nat.le_refl _))
theorem puts_any (A : Option Addr) (c : Nat) (l : List S42) (w : World) (h : Kd.C k42 w A l.length l) (hc : l.length ≤ c) (hl : l.length ≤ 140737488351232) :
    ∃ r : Int, (r ≤ 3000 → l.length + lenSum l ≤ 3000) ∧ Calls Tryd.prog 9 #[.slice A l.length c, .int .i64 3000] w fun e w' => e = .returned (.int .i64 r) ∧ Below w.heap.size w w' := by
  obtain ⟨r, h1, h2⟩ := puts_is l hl _ (Nat.le_refl _)
  exact ⟨r, h2, scarpalike_Puts.calls _ A c l 3000 r w h hc h1⟩
end Go.Proofs.YtjjpnmeldgnfeaaDoor
