/-
  SpaceHolds: the walk of the law, from its callees' contracts: it returns true at every geometry. No condition.
-/
import Derived.Test.YtmcjlellgkjehaaBase
namespace Go.Proofs.Ytmcjlellgkjehaa
open Go.RowKit

set_option maxHeartbeats 1000000 in
theorem holds_no (z s : Int) (w : World) (h : mayB z s = false) :
    Calls Try.prog 3 #[.agg #[.int .i64 z, .int .i64 s]] w fun e w' => e = .returned (.bool true) ∧ Below w.heap.size w w' := by
  have H := Lib.hid h
  clear h
  go_enter Try.func3, Try.ntmps3
  go_wp2_with fail
  refine (split_no _ _ _ H.out).mono ?_
  rintro e w1 ⟨rfl, hb1⟩
  obtain ⟨hc1, hf1⟩ := bcell hb1
  have hz1a : w.heap.size < w1.heap.size := by
    have := hb1.size
    try simp at this
    omega
  go_wp2_with fail
  refine (may_no _ _ _ H.out).mono ?_
  rintro e w2 ⟨rfl, hb2⟩
  obtain ⟨hc2, hf2⟩ := bcell hb2
  have hz2a : w.heap.size < w2.heap.size := by
    have := hb2.size
    try simp at this
    omega
  have hz2b : w1.heap.size < w2.heap.size := by
    have := hb2.size
    try simp at this
    omega
  go_wp2_with fail
  refine (cap_no _ _ _ H.out).mono ?_
  rintro e w3 ⟨rfl, hb3⟩
  obtain ⟨hc3, hf3⟩ := bcell hb3
  have hz3a : w.heap.size < w3.heap.size := by
    have := hb3.size
    try simp at this
    omega
  have hz3b : w1.heap.size < w3.heap.size := by
    have := hb3.size
    try simp at this
    omega
  go_wp2_with fail
  refine (awake_yes _).mono ?_
  rintro e w4 ⟨rfl, hb4⟩
  obtain ⟨hc4, hf4⟩ := bcell hb4
  have hz4a : w.heap.size < w4.heap.size := by
    have := hb4.size
    try simp at this
    omega
  go_wp2_with fail
  go_ret
  refine ⟨rfl, ?_⟩
  have b1 : Below w.heap.size w w1 := ((Below.refl _ _).alloc (Nat.le_refl _) _).trans (hb1.mono (by simp))
  have b2 : Below w.heap.size w w2 := (b1.alloc (by omega) _).trans (hb2.mono (by simp; omega))
  exact (b2.trans (hb3.mono (by omega))).trans (hb4.mono (by omega))

set_option maxHeartbeats 2000000 in
theorem holds_yes (z s k c : Int) (w : World) (h : mayB z s = true) (h5 : 8 * k ≤ 3 * z) (h6 : 3 * z < 8 * k + 8) (h7 : 44 * c ≤ 40 * (k * s - 2) - 64) (h8 : 40 * (k * s - 2) - 64 < 44 * c + 44) :
    Calls Try.prog 3 #[.agg #[.int .i64 z, .int .i64 s]] w fun e w' => e = .returned (.bool true) ∧ Below w.heap.size w w' := by
  obtain ⟨h1, h2, h3, h4⟩ := mayB_true h
  have h9 : 3 * 96 ≤ k * s := mul_low (by omega) (by omega) (by omega) h3
  have h10 : k * s ≤ 24 * 192 := mul_low (by omega) (by omega) (by omega) h4
  have h11 : 1 * 88 ≤ (z - 1 - 2 * k) * (s - 8) := mul_low (by omega) (by omega) (by omega) (by omega)
  have h12 : (z - 1 - 2 * k) * (s - 8) ≤ 63 * 184 := mul_low (by omega) (by omega) (by omega) (by omega)
  have H := Lib.hid h
  clear h
  go_enter Try.func3, Try.ntmps3
  go_wp2_with fail
  refine (split_yes _ _ k _ H.out h5 h6).mono ?_
  rintro e w1 ⟨rfl, hb1⟩
  obtain ⟨hc1, hf1⟩ := bcell hb1
  have hz1a : w.heap.size < w1.heap.size := by
    have := hb1.size
    try simp at this
    omega
  go_wp2_with fail
  refine (may_yes _ _ _ H.out).mono ?_
  rintro e w2 ⟨rfl, hb2⟩
  obtain ⟨hc2, hf2⟩ := bcell hb2
  have hz2a : w.heap.size < w2.heap.size := by
    have := hb2.size
    try simp at this
    omega
  have hz2b : w1.heap.size < w2.heap.size := by
    have := hb2.size
    try simp at this
    omega
  go_wp2_with fail
  refine (cap_yes _ _ k c _ H.out h5 h6 h7 h8).mono ?_
  rintro e w3 ⟨rfl, hb3⟩
  obtain ⟨hc3, hf3⟩ := bcell hb3
  have hz3a : w.heap.size < w3.heap.size := by
    have := hb3.size
    try simp at this
    omega
  have hz3b : w1.heap.size < w3.heap.size := by
    have := hb3.size
    try simp at this
    omega
  go_wp2_with fail
  refine (cap_yes _ _ k c _ H.out h5 h6 h7 h8).mono ?_
  rintro e w4 ⟨rfl, hb4⟩
  obtain ⟨hc4, hf4⟩ := bcell hb4
  have hz4a : w.heap.size < w4.heap.size := by
    have := hb4.size
    try simp at this
    omega
  have hz4b : w1.heap.size < w4.heap.size := by
    have := hb4.size
    try simp at this
    omega
  go_wp2_with fail
  refine (awake_yes _).mono ?_
  rintro e w5 ⟨rfl, hb5⟩
  obtain ⟨hc5, hf5⟩ := bcell hb5
  have hz5a : w.heap.size < w5.heap.size := by
    have := hb5.size
    try simp at this
    omega
  go_wp2_with fail
  go_ret
  refine ⟨rfl, ?_⟩
  have b1 : Below w.heap.size w w1 := ((Below.refl _ _).alloc (Nat.le_refl _) _).trans (hb1.mono (by simp))
  have b2 : Below w.heap.size w w2 := (b1.alloc (by omega) _).trans (hb2.mono (by simp; omega))
  exact ((b2.trans (hb3.mono (by omega))).trans (hb4.mono (by omega))).trans (hb5.mono (by omega))

theorem holds_any (z s : Int) (w : World) (_ : (Lit.int .i64 z).wf = true) (_ : (Lit.int .i64 s).wf = true) :
    Calls Try.prog 3 #[.agg #[.int .i64 z, .int .i64 s]] w fun e w' => e = .returned (.bool true) ∧ Below w.heap.size w w' := by
  cases h : mayB z s
  · exact holds_no z s w h
  · exact holds_yes z s (3 * z / 8) ((40 * (3 * z / 8 * s - 2) - 64) / 44) w h (by omega) (by omega) (by omega) (by omega)
end Go.Proofs.Ytmcjlellgkjehaa
