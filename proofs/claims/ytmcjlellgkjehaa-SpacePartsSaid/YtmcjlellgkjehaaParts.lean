/-
  SpaceParts: the walk of the law, from its callees' contracts: it returns true at every geometry and every int. No condition.
-/
import Derived.Test.YtmcjlellgkjehaaFills
namespace Go.Proofs.Ytmcjlellgkjehaa
open Go.RowKit F64

set_option maxHeartbeats 1000000 in
theorem parts_no (z s k : Int) (w : World) (h : mayB z s = false) :
    Calls Try.prog 7 #[.agg #[.int .i64 z, .int .i64 s], .int .i64 k] w fun e w' => e = .returned (.bool true) ∧ Below w.heap.size w w' := by
  have H := Lib.hid h
  clear h
  go_enter Try.func7, Try.ntmps7
  go_wp2_with fail
  refine (may_no _ _ _ H.out).mono ?_
  rintro e w1 ⟨rfl, hb1⟩
  obtain ⟨hc1, hf1⟩ := bcell hb1
  have hz1a : w.heap.size < w1.heap.size := by
    have := hb1.size
    try simp at this
    omega
  go_wp2_with fail
  refine (fill_no _ _ _ _ _ H.out).mono ?_
  rintro e w2 ⟨rfl, hb2⟩
  obtain ⟨hc2, hf2⟩ := bcell hb2
  have hz2a : w.heap.size < w2.heap.size := by
    have := hb2.size
    try simp at this
    omega
  go_wp2_with fail
  refine (awake_yes _).mono ?_
  rintro e w3 ⟨rfl, hb3⟩
  go_wp2_with fail
  go_ret
  exact ⟨rfl, ((((Below.refl _ _).alloc (Nat.le_refl _) _).trans (hb1.mono (by simp))).trans (hb2.mono (by omega))).trans (hb3.mono (by omega))⟩

set_option maxHeartbeats 2000000 in
theorem parts_yes (z s k : Int) (p p2 : Nat) (w : World) (h : mayB z s = true) (hp : Ieee.double.mul (floatOfInt .f64 z) (floatOfInt .f64 s) = some p) (hp2 : Ieee.double.mul (floatOfInt .f64 z) (floatOfInt .f64 (2 * s)) = some p2)
    (h1 : Ieee.double.div p p = some ONE) (h2 : Ieee.double.div p2 p = some TWO) (h3 : Ieee.double.div 0 p = some 0) :
    Calls Try.prog 7 #[.agg #[.int .i64 z, .int .i64 s], .int .i64 k] w fun e w' => e = .returned (.bool true) ∧ Below w.heap.size w w' := by
  obtain ⟨b1, b2, b3, b4⟩ := mayB_true h
  have H := Lib.hid h
  have HP := Lib.hid hp
  have HP2 := Lib.hid hp2
  have H1 := Lib.hid h1
  have H2 := Lib.hid h2
  have H3 := Lib.hid h3
  have HZ : Hid (Ieee.double.mul (floatOfInt .f64 0) (floatOfInt .f64 0) = some 0) := Lib.hid (by decide +kernel)
  have E1 : bitsF ONE = ONE := by decide +kernel
  have E2 : bitsF TWO = TWO := by decide +kernel
  have E0 : bitsF 0 = 0 := by decide +kernel
  have O1 : (FloatKind.f64.format.order 4607182418800017408 4607182418800017408 == some .eq) = true := by decide +kernel
  have O2 : (FloatKind.f64.format.order 4611686018427387904 4611686018427387904 == some .eq) = true := by decide +kernel
  have S0 : sameB 0 0 = true := by rw [sameB_true]
  clear h hp hp2 h1 h2 h3
  go_enter Try.func7, Try.ntmps7
  go_wp2_with fail
  refine (may_yes _ _ _ H.out).mono ?_
  rintro e w1 ⟨rfl, hb1⟩
  obtain ⟨hc1, hf1⟩ := bcell hb1
  have hz1a : w.heap.size < w1.heap.size := by
    have := hb1.size
    try simp at this
    omega
  go_wp2_with fail
  refine (fill_yes _ _ _ _ p p ONE _ H.out HP.out HP.out H1.out (by decide)).mono ?_
  rintro e w2 ⟨rfl, hb2⟩
  obtain ⟨hc2, hf2⟩ := bcell hb2
  have hz2a : w.heap.size < w2.heap.size := by
    have := hb2.size
    try simp at this
    omega
  go_wp2_with fail
  refine (fill_yes _ _ _ _ 0 p 0 _ H.out HZ.out HP.out H3.out (by decide)).mono ?_
  rintro e w3 ⟨rfl, hb3⟩
  obtain ⟨hc3, hf3⟩ := bcell hb3
  have hz3a : w.heap.size < w3.heap.size := by
    have := hb3.size
    try simp at this
    omega
  go_wp2_with fail
  refine (fill_yes _ _ _ _ p2 p TWO _ H.out HP2.out HP.out H2.out (by decide)).mono ?_
  rintro e w4 ⟨rfl, hb4⟩
  obtain ⟨hc4, hf4⟩ := bcell hb4
  have hz4a : w.heap.size < w4.heap.size := by
    have := hb4.size
    try simp at this
    omega
  go_wp2_with (go_at_call 21; refine (rsame_any _ _ _).mono ?_; rintro e w5 ⟨rfl, rfl⟩)
  refine (awake_yes _).mono ?_
  rintro e w5 ⟨rfl, hb5⟩
  go_wp2_with fail
  go_ret
  exact ⟨rfl, ((((((Below.refl _ _).alloc (Nat.le_refl _) _).trans (hb1.mono (by simp))).trans (hb2.mono (by omega))).trans (hb3.mono (by omega))).trans (hb4.mono (by omega))).trans (hb5.mono (by omega))⟩

theorem parts_any (z s k : Int) (w : World) (_ : (Lit.int .i64 z).wf = true) (_ : (Lit.int .i64 s).wf = true) (_ : (Lit.int .i64 k).wf = true) :
    Calls Try.prog 7 #[.agg #[.int .i64 z, .int .i64 s], .int .i64 k] w fun e w' => e = .returned (.bool true) ∧ Below w.heap.size w w' := by
  cases h : mayB z s
  · exact parts_no z s k w h
  · have hm := mayB_true h
    obtain ⟨d, d2, hd, hd2, h3, h4, h5⟩ := fill_words (z := z.toNat) (s := s.toNat) (by omega) (by omega) (by omega) (by omega)
    rw [← floatOfInt_pos (by omega), ← floatOfInt_pos (by omega)] at hd
    rw [show 2 * s.toNat = (2 * s).toNat from by omega, ← floatOfInt_pos (by omega), ← floatOfInt_pos (by omega)] at hd2
    exact parts_yes z s k d d2 w h hd hd2 h3 h4 h5
end Go.Proofs.Ytmcjlellgkjehaa
