/-
  SpaceFills: the walk of the law, from its callees' contracts: it returns true at every two geometries. No condition.
-/
import Derived.Test.YtmcjlellgkjehaaFill
namespace Go.Proofs.Ytmcjlellgkjehaa
open Go.RowKit F64

set_option maxHeartbeats 1000000 in
theorem fills_no (u v z s : Int) (w : World) (h : mayB z s = false) :
    Calls Try.prog 6 #[.agg #[.int .i64 u, .int .i64 v], .agg #[.int .i64 z, .int .i64 s]] w fun e w' => e = .returned (.bool true) ∧ Below w.heap.size w w' := by
  have H := Lib.hid h
  have S1 : sameB 0 0 = true := by rw [sameB_true]
  clear h
  go_enter Try.func6, Try.ntmps6
  go_wp2_with fail
  refine (fill_no _ _ _ _ _ H.out).mono ?_
  rintro e w1 ⟨rfl, hb1⟩
  obtain ⟨hc1, hf1⟩ := bcell hb1
  have hz1a : w.heap.size + 1 < w1.heap.size := by
    have := hb1.size
    try simp at this
    omega
  have hz1b : w.heap.size < w1.heap.size := by
    have := hb1.size
    try simp at this
    omega
  go_wp2_with fail
  refine (rfill_no _ _ _ _ _ H.out).mono ?_
  rintro e w2 ⟨rfl, hb2⟩
  obtain ⟨hc2, hf2⟩ := bcell hb2
  have hz2a : w.heap.size + 1 < w2.heap.size := by
    have := hb2.size
    try simp at this
    omega
  have hz2b : w.heap.size < w2.heap.size := by
    have := hb2.size
    try simp at this
    omega
  go_wp2_with (go_at_call 21; refine (rsame_any _ _ _).mono ?_; rintro e w3 ⟨rfl, rfl⟩)
  refine (awake_yes _).mono ?_
  rintro e w3 ⟨rfl, hb3⟩
  go_wp2_with fail
  go_ret
  exact ⟨rfl, (((((Below.refl _ _).alloc (Nat.le_refl _) _).alloc (by simp) _).trans (hb1.mono (by simp; omega))).trans (hb2.mono (by omega))).trans (hb3.mono (by omega))⟩

set_option maxHeartbeats 1000000 in
theorem fills_yes (u v z s : Int) (p d q : Nat) (w : World) (h : mayB z s = true) (hp : Ieee.double.mul (floatOfInt .f64 u) (floatOfInt .f64 v) = some p) (hd : Ieee.double.mul (floatOfInt .f64 z) (floatOfInt .f64 s) = some d) (hq : Ieee.double.div p d = some q) (hl : q < 2 ^ 64) :
    Calls Try.prog 6 #[.agg #[.int .i64 u, .int .i64 v], .agg #[.int .i64 z, .int .i64 s]] w fun e w' => e = .returned (.bool true) ∧ Below w.heap.size w w' := by
  have H := Lib.hid h
  have HP := Lib.hid hp
  have HD := Lib.hid hd
  have HQ := Lib.hid hq
  have HL := Lib.hid hl
  have S1 : sameB (bitsF q) (bitsF q) = true := by rw [sameB_true]
  clear h hp hd hq hl
  go_enter Try.func6, Try.ntmps6
  go_wp2_with fail
  refine (fill_yes _ _ _ _ p d q _ H.out HP.out HD.out HQ.out HL.out).mono ?_
  rintro e w1 ⟨rfl, hb1⟩
  obtain ⟨hc1, hf1⟩ := bcell hb1
  have hz1a : w.heap.size + 1 < w1.heap.size := by
    have := hb1.size
    try simp at this
    omega
  have hz1b : w.heap.size < w1.heap.size := by
    have := hb1.size
    try simp at this
    omega
  go_wp2_with fail
  refine (rfill_yes _ _ _ _ p d q _ H.out HP.out HD.out HQ.out HL.out).mono ?_
  rintro e w2 ⟨rfl, hb2⟩
  obtain ⟨hc2, hf2⟩ := bcell hb2
  have hz2a : w.heap.size + 1 < w2.heap.size := by
    have := hb2.size
    try simp at this
    omega
  have hz2b : w.heap.size < w2.heap.size := by
    have := hb2.size
    try simp at this
    omega
  go_wp2_with (go_at_call 21; refine (rsame_any _ _ _).mono ?_; rintro e w3 ⟨rfl, rfl⟩)
  refine (awake_yes _).mono ?_
  rintro e w3 ⟨rfl, hb3⟩
  go_wp2_with fail
  go_ret
  exact ⟨rfl, (((((Below.refl _ _).alloc (Nat.le_refl _) _).alloc (by simp) _).trans (hb1.mono (by simp; omega))).trans (hb2.mono (by omega))).trans (hb3.mono (by omega))⟩

theorem i64_abs {n : Int} (h : (Lit.int .i64 n).wf = true) : n.natAbs ≤ 2 ^ 63 := by
  have : -9223372036854775808 ≤ n ∧ n ≤ 9223372036854775807 := by simpa [Lit.wf, IntKind.min, IntKind.max, IntKind.signed, IntKind.bits] using h
  omega

theorem floatOfInt_pos {n : Int} (h : 0 ≤ n) : floatOfInt .f64 n = Ieee.double.nearest false n.toNat 0 := by
  show Ieee.double.nearest (decide (n < 0)) n.natAbs 0 = _
  have e1 : decide (n < 0) = false := by rw [decide_eq_false_iff_not]; omega
  have e2 : n.natAbs = n.toNat := by omega
  rw [e1, e2]

theorem fills_any (u v z s : Int) (w : World) (hu : (Lit.int .i64 u).wf = true) (hv : (Lit.int .i64 v).wf = true) (_ : (Lit.int .i64 z).wf = true) (_ : (Lit.int .i64 s).wf = true) :
    Calls Try.prog 6 #[.agg #[.int .i64 u, .int .i64 v], .agg #[.int .i64 z, .int .i64 s]] w fun e w' => e = .returned (.bool true) ∧ Below w.heap.size w w' := by
  cases h : mayB z s
  · exact fills_no u v z s w h
  · obtain ⟨p, hp, hpn⟩ := mul_some (floatOfInt_finite (i64_abs hu)) (floatOfInt_finite (i64_abs hv))
    have hm := mayB_true h
    obtain ⟨d, d2, hd, hd2, h3, h4, h5⟩ := fill_words (z := z.toNat) (s := s.toNat) (by omega) (by omega) (by omega) (by omega)
    rw [← floatOfInt_pos (by omega), ← floatOfInt_pos (by omega)] at hd
    obtain ⟨d', hd', hdn⟩ := mul_some (floatOfInt_finite (n := z) (by omega)) (floatOfInt_finite (n := s) (by omega))
    obtain rfl : d = d' := by rw [hd] at hd'; exact Option.some.inj hd'
    have hdr : rg d < INF ∧ rg d ≠ 0 := div_one_only h3
    obtain ⟨q, hq, hqn⟩ := div_some hpn hdr.1 hdr.2
    exact fills_yes u v z s p d q w h hp hd hq (Ieee.Format.div_lt _ hq)
end Go.Proofs.Ytmcjlellgkjehaa
