/-
  The contract of ftext.Parse: what was written is read; all else is refused.
-/
import Derived.Test.YtjepjheklnaidaaDoorRead
namespace Go.Proofs.YtjepjheklnaidaaDoor
open Go Go.RowKit F64
set_option maxRecDepth 100000

set_option maxHeartbeats 1000000 in
theorem parse_case (s t : ByteArray) (minus ok eqv : Bool) (b B : Nat) (r : Value) (w : World) (E : Env w)
    (h1 : ∀ w, Calls Tryd.prog 22 #[.string s, .string ⟨#[45]⟩] w fun e w' => e = .returned (.tuple #[.string t, .bool minus]) ∧ w = w')
    (h2 : BitsIs t b ok) (hB : (if minus = true then bits .or .u64 (b : Int) 9223372036854775808 else (b : Int)) = (B : Int)) (hB64 : B < 2 ^ 64)
    (he : (textF (bitsF B) == s.toList) = eqv) (hr : r = if (ok && eqv) = true then .tuple #[.float .f64 (bitsF B), .int .i64 0] else .tuple #[.float .f64 0, .int .i64 13]) :
    Calls Tryd.prog 12 #[.string s] w fun e w' => e = .returned r ∧ Below w.heap.size w w' := by
  have hlt := bitsF_lt hB64
  have HLT := Lib.hid hlt
  have HR := Lib.hid hr
  clear hlt hB64 hr
  cases minus
  · simp only [Bool.false_eq_true, if_false] at hB
    have hB' : b = B := by omega
    subst hB'
    clear hB
    cases ok <;> cases eqv
    all_goals
      go_enter Tryd.func12, Tryd.ntmps12
      go_wp2_with (go_at_call 22; refine (h1 _).mono ?_)
      rintro e w1 ⟨rfl, rfl⟩
      go_wp2_with (go_at_call 23; refine (h2 _ E).mono ?_)
      rintro e w2 ⟨rfl, b2⟩
      go_wp2_with (first
        | (go_at_call 18; refine (from_any _ _).mono ?_; rintro e w1 ⟨rfl, rfl⟩)
        | (go_at_call 14; refine (text_any _ HLT.out _ (E.below b2)).mono ?_; rintro e w3 ⟨rfl, b3⟩))
      go_ret2
      first
        | exact ⟨by rw [HR.out]; rfl, b2⟩
        | exact ⟨by rw [HR.out]; rfl, below_trans b2 b3⟩
  · simp only [if_true] at hB
    have hto : ((B : Int)).toNat = B := rfl
    cases ok <;> cases eqv
    all_goals
      go_enter Tryd.func12, Tryd.ntmps12
      go_wp2_with (go_at_call 22; refine (h1 _).mono ?_)
      rintro e w1 ⟨rfl, rfl⟩
      go_wp2_with (go_at_call 23; refine (h2 _ E).mono ?_)
      rintro e w2 ⟨rfl, b2⟩
      go_wp2_with (first
        | (go_at_call 18; refine (from_any _ _).mono ?_; rintro e w1 ⟨rfl, rfl⟩)
        | (go_at_call 14; refine (text_any _ HLT.out _ (E.below b2)).mono ?_; rintro e w3 ⟨rfl, b3⟩))
      go_ret2
      first
        | exact ⟨by rw [HR.out]; rfl, b2⟩
        | exact ⟨by rw [HR.out]; rfl, below_trans b2 b3⟩

/-- A word as the program keeps it: a number, or the one NaN. -/
structure Norm (x : Nat) : Prop where
  lt : x < 2 ^ 64
  nrm : bitsF x = x

theorem word_sgn {x : Nat} (hx : x < 2 ^ 64) : x = rg x + (if sgn x = true then 2 ^ 63 else 0) := by
  cases h : sgn x
  · have := (sgn_false hx).1 h; unfold rg; simp; omega
  · have := (sgn_true hx).1 h; unfold rg; simp; omega
theorem or_sign {b : Nat} (hb : b < 2 ^ 63) : bits .or .u64 (b : Int) 9223372036854775808 = ((b + 2 ^ 63 : Nat) : Int) := by
  have h := u64_or_nat b 9223372036854775808 (by omega) (by decide)
  rw [show ((9223372036854775808 : Nat) : Int) = 9223372036854775808 from rfl] at h
  rw [h, Nat.or_comm, nat_join 63 9223372036854775808 b (by decide) hb, Nat.add_comm]
theorem isNaN_qnan : isNaN QNAN = true := by decide +kernel
theorem norm_nan {x : Nat} (h : Norm x) (hn : isNaN x = true) : x = QNAN := by
  have := h.nrm; unfold bitsF at this; rw [if_pos hn] at this; exact this.symm
theorem norm_bits {x : Nat} (hx : x < 2 ^ 64) : Norm (bitsF x) := ⟨bitsF_lt hx, bitsF_bitsF x⟩

theorem cutPrefix_is (s : ByteArray) (l t : List UInt8) (minus : Bool) (hs : s.data.toList = l) (h1 : Lib.trimPrefix l [45] = t) (h2 : Lib.hasPrefix l [45] = minus) :
    ∀ w, Calls Tryd.prog 22 #[.string s, .string ⟨#[45]⟩] w fun e w' => e = .returned (.tuple #[.string ⟨t.toArray⟩, .bool minus]) ∧ w = w' := fun w => by
  refine (Tryd.strings_CutPrefix s ⟨#[45]⟩ w).mono fun e w' ⟨he, hw⟩ => ⟨?_, hw.symm⟩
  rw [he, hs, show (⟨#[45]⟩ : ByteArray).data.toList = [45] from rfl, h1, h2]

/-- What was written is read as it was. -/
theorem parse_hit (s : ByteArray) (x : Nat) (hx : Norm x) (hs : s.data.toList = textF x) (hl : s.size ≤ 1000) (w : World) (E : Env w) :
    Calls Tryd.prog 12 #[.string s] w fun e w' => e = .returned (.tuple #[.float .f64 x, .int .i64 0]) ∧ Below w.heap.size w w' := by
  have heq : ∀ B, B = x → (textF (bitsF B) == s.toList) = true := fun B hB => by rw [hB, hx.nrm, ByteArray.toList_eq, hs]; simp
  have sz : ∀ l : List UInt8, (⟨l.toArray⟩ : ByteArray).size = l.length := fun l => by rw [Lib.size_eq]
  have hsl : s.data.toList.length ≤ 1000 := by rw [← Lib.size_eq]; exact hl
  cases hn : isNaN x
  · have hr := isNaN_false.1 hn
    have hr63 := rg_lt x
    have e0 : textF x = (if sgn x = true then [45] else []) ++ textAbs (rg x) := by unfold textF; rw [hn]; rfl
    obtain ⟨b, ok, _, h2, _, h4⟩ := read_any ⟨(textAbs (rg x)).toArray⟩ (by rw [sz]; rw [hs, e0, List.length_append] at hsl; omega)
    obtain ⟨rfl, rfl⟩ := h4 (rg x) hr rfl
    have hw := word_sgn hx.lt
    cases hsg : sgn x
    · rw [hsg] at e0 hw
      obtain ⟨c, r, ec, hc⟩ := textAbs_head (rg x)
      have hp : Lib.hasPrefix (textF x) [45] = false := by
        rw [e0, ec]
        rcases hc with rfl | rfl | rfl <;> rfl
      have ht : Lib.trimPrefix (textF x) [45] = textAbs (rg x) := by unfold Lib.trimPrefix; rw [hp, e0]; rfl
      have hrx : rg x = x := by simp at hw; omega
      exact parse_case s ⟨(textAbs (rg x)).toArray⟩ false true true (rg x) x _ w E (cutPrefix_is s _ _ _ hs ht hp) h2 (by rw [hrx]; rfl) hx.lt (heq x rfl) (by rw [hx.nrm]; rfl)
    · rw [hsg] at e0 hw
      have hp : Lib.hasPrefix (textF x) [45] = true := by rw [e0]; rfl
      have ht : Lib.trimPrefix (textF x) [45] = textAbs (rg x) := by unfold Lib.trimPrefix; rw [hp, e0]; rfl
      exact parse_case s ⟨(textAbs (rg x)).toArray⟩ true true true (rg x) x _ w E (cutPrefix_is s _ _ _ hs ht hp) h2 (by rw [if_pos rfl, or_sign hr63]; simp only [if_true] at hw; rw [← hw]) hx.lt (heq x rfl) (by rw [hx.nrm]; rfl)
  · obtain rfl := norm_nan hx hn
    have e0 : textF QNAN = [110, 97, 110] := by unfold textF; rw [isNaN_qnan]; rfl
    obtain ⟨b, ok, _, h2, h3, _⟩ := read_any ⟨([110, 97, 110] : List UInt8).toArray⟩ (by decide)
    obtain ⟨rfl, rfl⟩ := h3 rfl
    exact parse_case s ⟨([110, 97, 110] : List UInt8).toArray⟩ false true true QNAN QNAN _ w E (cutPrefix_is s _ _ _ hs (by rw [e0]; rfl) (by rw [e0]; rfl)) h2 rfl hx.lt (heq QNAN rfl) (by rw [hx.nrm]; rfl)

/-- What was not written is refused. -/
theorem parse_miss (s : ByteArray) (hm : ∀ x, Norm x → textF x ≠ s.data.toList) (hl : s.size ≤ 1000) (w : World) (E : Env w) :
    Calls Tryd.prog 12 #[.string s] w fun e w' => e = .returned (.tuple #[.float .f64 0, .int .i64 13]) ∧ Below w.heap.size w w' := by
  have sz : ∀ l : List UInt8, (⟨l.toArray⟩ : ByteArray).size = l.length := fun l => by rw [Lib.size_eq]
  have hsl : s.data.toList.length ≤ 1000 := by rw [← Lib.size_eq]; exact hl
  obtain ⟨b, ok, hb, h2, _, _⟩ := read_any ⟨(Lib.trimPrefix s.data.toList [45]).toArray⟩ (by
    rw [sz]; unfold Lib.trimPrefix; split
    · rw [List.length_drop]; omega
    · exact hsl)
  have heq : ∀ B, B < 2 ^ 64 → (textF (bitsF B) == s.toList) = false := fun B hB => by
    rw [ByteArray.toList_eq, beq_eq_false_iff_ne]; exact hm _ (norm_bits hB)
  cases hp : Lib.hasPrefix s.data.toList [45]
  · exact parse_case s _ false ok false b b _ w E (cutPrefix_is s _ _ _ rfl rfl hp) h2 rfl hb (heq b hb) (by cases ok <;> rfl)
  · have h0 := bits_lo_u64 .or (b : Int) 9223372036854775808
    have h1 := bits_hi_u64 .or (b : Int) 9223372036854775808
    have e : bits .or .u64 (b : Int) 9223372036854775808 = ((bits .or .u64 (b : Int) 9223372036854775808).toNat : Int) := by omega
    have hlt : (bits .or .u64 (b : Int) 9223372036854775808).toNat < 2 ^ 64 := by omega
    exact parse_case s _ true ok false b _ _ w E (cutPrefix_is s _ _ _ rfl rfl hp) h2 e hlt (heq _ hlt) (by cases ok <;> rfl)
end Go.Proofs.YtjepjheklnaidaaDoor
