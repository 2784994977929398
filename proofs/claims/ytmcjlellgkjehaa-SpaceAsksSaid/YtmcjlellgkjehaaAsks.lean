/-
  SpaceAsks: the walk of the law, from its callees' contracts: it returns true at every geometry. No condition.
-/
import Derived.Test.YtmcjlellgkjehaaBase
import Derived.Deep.RegionHeld3
namespace Go.Proofs.Ytmcjlellgkjehaa
open Go.RowKit

theorem asks_keep {w x y : World} {B C : Nat} {z s a b c d : Int} (h : x.cell? ⟨w.heap.size, 0, none⟩ = some (.int .i64 z) ∧ x.cell? ⟨w.heap.size, 1, none⟩ = some (.int .i64 s) ∧ x.cell? ⟨B, 0, none⟩ = some (.int .i64 a) ∧ x.cell? ⟨B, 1, none⟩ = some (.int .i64 b) ∧ x.cell? ⟨B, 2, none⟩ = some (.int .i64 c) ∧ x.cell? ⟨B, 3, none⟩ = some (.int .i64 d) ∧ x.cell? ⟨C, 0, none⟩ = some (.int .i64 a) ∧ x.cell? ⟨C, 1, none⟩ = some (.int .i64 b) ∧ x.cell? ⟨C, 2, none⟩ = some (.int .i64 c) ∧ x.cell? ⟨C, 3, none⟩ = some (.int .i64 d) ∧ w.heap.size < x.heap.size ∧ B < x.heap.size ∧ C < x.heap.size ∧ Below w.heap.size w x)
    (hb : Below x.heap.size x y) : y.cell? ⟨w.heap.size, 0, none⟩ = some (.int .i64 z) ∧ y.cell? ⟨w.heap.size, 1, none⟩ = some (.int .i64 s) ∧ y.cell? ⟨B, 0, none⟩ = some (.int .i64 a) ∧ y.cell? ⟨B, 1, none⟩ = some (.int .i64 b) ∧ y.cell? ⟨B, 2, none⟩ = some (.int .i64 c) ∧ y.cell? ⟨B, 3, none⟩ = some (.int .i64 d) ∧ y.cell? ⟨C, 0, none⟩ = some (.int .i64 a) ∧ y.cell? ⟨C, 1, none⟩ = some (.int .i64 b) ∧ y.cell? ⟨C, 2, none⟩ = some (.int .i64 c) ∧ y.cell? ⟨C, 3, none⟩ = some (.int .i64 d) ∧ w.heap.size < y.heap.size ∧ B < y.heap.size ∧ C < y.heap.size ∧ Below w.heap.size w y := by
  obtain ⟨h1, h2, h3, h4, h5, h6, h7, h8, h9, h10, h11, h12, h13, h14⟩ := h
  have hs := hb.size
  obtain ⟨hc, -⟩ := bcell hb
  refine ⟨?_, ?_, ?_, ?_, ?_, ?_, ?_, ?_, ?_, ?_, by omega, by omega, by omega, h14.trans (hb.mono (by omega))⟩
  · rw [hc _ _ (by omega)]; exact h1
  · rw [hc _ _ (by omega)]; exact h2
  · rw [hc _ _ (by omega)]; exact h3
  · rw [hc _ _ (by omega)]; exact h4
  · rw [hc _ _ (by omega)]; exact h5
  · rw [hc _ _ (by omega)]; exact h6
  · rw [hc _ _ (by omega)]; exact h7
  · rw [hc _ _ (by omega)]; exact h8
  · rw [hc _ _ (by omega)]; exact h9
  · rw [hc _ _ (by omega)]; exact h10

set_option maxHeartbeats 8000000 in
theorem asks_no (z s : Int) (w : World) (h : mayB z s = false) :
    Calls Try.prog 5 #[.agg #[.int .i64 z, .int .i64 s]] w fun e w' => e = .returned (.bool true) ∧ Below w.heap.size w w' := by
  have H := Lib.hid h
  clear h
  go_enter Try.func5, Try.ntmps5
  go_wp2_with fail
  refine (split_no _ _ _ H.out).mono ?_
  rintro e w1 ⟨rfl, hb1⟩
  obtain ⟨hc1, hf1⟩ := bcell hb1
  have hz1a : w.heap.size < w1.heap.size := by
    have := hb1.size
    try simp at this
    omega
  go_wp2_with fail
  refine (rsplit_no _ _ _ H.out).mono ?_
  rintro e w2 ⟨rfl, hb2⟩
  obtain ⟨hc2, hf2⟩ := bcell hb2
  have hz2a : w.heap.size < w2.heap.size := by
    have := hb2.size
    try simp at this
    omega
  have hz2b : w1.heap.size < w2.heap.size := by
    have := hb2.size
    try simp at this
    omega
  go_wp2_with fail
  have S0 : ∀ t, (fun x => x.cell? ⟨w.heap.size, 0, none⟩ = some (.int .i64 z) ∧ x.cell? ⟨w.heap.size, 1, none⟩ = some (.int .i64 s) ∧ x.cell? ⟨w1.heap.size, 0, none⟩ = some (.int .i64 0) ∧ x.cell? ⟨w1.heap.size, 1, none⟩ = some (.int .i64 0) ∧ x.cell? ⟨w1.heap.size, 2, none⟩ = some (.int .i64 0) ∧ x.cell? ⟨w1.heap.size, 3, none⟩ = some (.int .i64 0) ∧ x.cell? ⟨w2.heap.size, 0, none⟩ = some (.int .i64 0) ∧ x.cell? ⟨w2.heap.size, 1, none⟩ = some (.int .i64 0) ∧ x.cell? ⟨w2.heap.size, 2, none⟩ = some (.int .i64 0) ∧ x.cell? ⟨w2.heap.size, 3, none⟩ = some (.int .i64 0) ∧ w.heap.size < x.heap.size ∧ w1.heap.size < x.heap.size ∧ w2.heap.size < x.heap.size ∧ Below w.heap.size w x) ((w2.alloc (.cells #[.int .i64 0, .int .i64 0, .int .i64 0, .int .i64 0] t)).drew) := by
    intro t
    refine ⟨by go_simp, by go_simp, by go_simp, by go_simp, by go_simp, by go_simp, by go_simp, by go_simp, by go_simp, by go_simp, by simp; omega, by simp; omega, by simp, ?_⟩
    exact (((((Below.refl _ _).alloc (Nat.le_refl _) _).trans (hb1.mono (by simp))).alloc (by omega) _).trans (hb2.mono (by simp; omega))) |>.alloc (by omega) _ |>.drew
  go_region_held3 (fun x => x.cell? ⟨w.heap.size, 0, none⟩ = some (.int .i64 z) ∧ x.cell? ⟨w.heap.size, 1, none⟩ = some (.int .i64 s) ∧ x.cell? ⟨w1.heap.size, 0, none⟩ = some (.int .i64 0) ∧ x.cell? ⟨w1.heap.size, 1, none⟩ = some (.int .i64 0) ∧ x.cell? ⟨w1.heap.size, 2, none⟩ = some (.int .i64 0) ∧ x.cell? ⟨w1.heap.size, 3, none⟩ = some (.int .i64 0) ∧ x.cell? ⟨w2.heap.size, 0, none⟩ = some (.int .i64 0) ∧ x.cell? ⟨w2.heap.size, 1, none⟩ = some (.int .i64 0) ∧ x.cell? ⟨w2.heap.size, 2, none⟩ = some (.int .i64 0) ∧ x.cell? ⟨w2.heap.size, 3, none⟩ = some (.int .i64 0) ∧ w.heap.size < x.heap.size ∧ w1.heap.size < x.heap.size ∧ w2.heap.size < x.heap.size ∧ Below w.heap.size w x) (first | assumption | exact S0 _)
    (first | (go_at_call 9; refine (may_no _ _ _ H.out).mono ?_; rintro e y ⟨rfl, hby⟩; have SY := asks_keep (by assumption) hby) | (go_at_call 14; refine (rmay_no _ _ _ H.out).mono ?_; rintro e y ⟨rfl, hby⟩; have SY := asks_keep (by assumption) hby) | (go_at_call 10; refine (cap_no _ _ _ H.out).mono ?_; rintro e y ⟨rfl, hby⟩; have SY := asks_keep (by assumption) hby) | (go_at_call 15; refine (rcap_no _ _ _ H.out).mono ?_; rintro e y ⟨rfl, hby⟩; have SY := asks_keep (by assumption) hby) | (go_at_call 16; refine (steps_no _ _ _ H.out).mono ?_; rintro e y ⟨rfl, hby⟩; have SY := asks_keep (by assumption) hby) | (go_at_call 17; refine (rsteps_no _ _ _ H.out).mono ?_; rintro e y ⟨rfl, hby⟩; have SY := asks_keep (by assumption) hby) | (go_at_call 12; refine (reads_no _ _ _ H.out).mono ?_; rintro e y ⟨rfl, hby⟩; have SY := asks_keep (by assumption) hby) | (go_at_call 18; refine (rreads_no _ _ _ H.out).mono ?_; rintro e y ⟨rfl, hby⟩; have SY := asks_keep (by assumption) hby) | (go_at_call 11; refine (awake_yes _).mono ?_; rintro e y ⟨rfl, hby⟩; have SY := asks_keep (by assumption) hby))
  go_wp2_with fail
  go_ret
  exact ⟨rfl, SY.2.2.2.2.2.2.2.2.2.2.2.2.2⟩


set_option maxHeartbeats 8000000 in
theorem asks_yes (z s k c : Int) (w : World) (h : mayB z s = true) (h5 : 8 * k ≤ 3 * z) (h6 : 3 * z < 8 * k + 8) (h7 : 44 * c ≤ 40 * (k * s - 2) - 64) (h8 : 40 * (k * s - 2) - 64 < 44 * c + 44) :
    Calls Try.prog 5 #[.agg #[.int .i64 z, .int .i64 s]] w fun e w' => e = .returned (.bool true) ∧ Below w.heap.size w w' := by
  have H := Lib.hid h
  have H7 := Lib.hid h7
  have H8 := Lib.hid h8
  clear h h7 h8
  go_enter Try.func5, Try.ntmps5
  go_wp2_with fail
  refine (split_yes _ _ k _ H.out h5 h6).mono ?_
  rintro e w1 ⟨rfl, hb1⟩
  obtain ⟨hc1, hf1⟩ := bcell hb1
  have hz1a : w.heap.size < w1.heap.size := by
    have := hb1.size
    try simp at this
    omega
  go_wp2_with fail
  refine (rsplit_yes _ _ k _ H.out h5 h6).mono ?_
  rintro e w2 ⟨rfl, hb2⟩
  obtain ⟨hc2, hf2⟩ := bcell hb2
  have hz2a : w.heap.size < w2.heap.size := by
    have := hb2.size
    try simp at this
    omega
  have hz2b : w1.heap.size < w2.heap.size := by
    have := hb2.size
    try simp at this
    omega
  go_wp2_with fail
  have S0 : ∀ t, (fun x => x.cell? ⟨w.heap.size, 0, none⟩ = some (.int .i64 z) ∧ x.cell? ⟨w.heap.size, 1, none⟩ = some (.int .i64 s) ∧ x.cell? ⟨w1.heap.size, 0, none⟩ = some (.int .i64 0) ∧ x.cell? ⟨w1.heap.size, 1, none⟩ = some (.int .i64 k) ∧ x.cell? ⟨w1.heap.size, 2, none⟩ = some (.int .i64 (2 * k)) ∧ x.cell? ⟨w1.heap.size, 3, none⟩ = some (.int .i64 (z - 1)) ∧ x.cell? ⟨w2.heap.size, 0, none⟩ = some (.int .i64 0) ∧ x.cell? ⟨w2.heap.size, 1, none⟩ = some (.int .i64 k) ∧ x.cell? ⟨w2.heap.size, 2, none⟩ = some (.int .i64 (2 * k)) ∧ x.cell? ⟨w2.heap.size, 3, none⟩ = some (.int .i64 (z - 1)) ∧ w.heap.size < x.heap.size ∧ w1.heap.size < x.heap.size ∧ w2.heap.size < x.heap.size ∧ Below w.heap.size w x) ((w2.alloc (.cells #[.int .i64 0, .int .i64 k, .int .i64 (2 * k), .int .i64 (z - 1)] t)).drew) := by
    intro t
    refine ⟨by go_simp, by go_simp, by go_simp, by go_simp, by go_simp, by go_simp, by go_simp, by go_simp, by go_simp, by go_simp, by simp; omega, by simp; omega, by simp, ?_⟩
    exact (((((Below.refl _ _).alloc (Nat.le_refl _) _).trans (hb1.mono (by simp))).alloc (by omega) _).trans (hb2.mono (by simp; omega))) |>.alloc (by omega) _ |>.drew
  go_region_held3 (fun x => x.cell? ⟨w.heap.size, 0, none⟩ = some (.int .i64 z) ∧ x.cell? ⟨w.heap.size, 1, none⟩ = some (.int .i64 s) ∧ x.cell? ⟨w1.heap.size, 0, none⟩ = some (.int .i64 0) ∧ x.cell? ⟨w1.heap.size, 1, none⟩ = some (.int .i64 k) ∧ x.cell? ⟨w1.heap.size, 2, none⟩ = some (.int .i64 (2 * k)) ∧ x.cell? ⟨w1.heap.size, 3, none⟩ = some (.int .i64 (z - 1)) ∧ x.cell? ⟨w2.heap.size, 0, none⟩ = some (.int .i64 0) ∧ x.cell? ⟨w2.heap.size, 1, none⟩ = some (.int .i64 k) ∧ x.cell? ⟨w2.heap.size, 2, none⟩ = some (.int .i64 (2 * k)) ∧ x.cell? ⟨w2.heap.size, 3, none⟩ = some (.int .i64 (z - 1)) ∧ w.heap.size < x.heap.size ∧ w1.heap.size < x.heap.size ∧ w2.heap.size < x.heap.size ∧ Below w.heap.size w x) (first | assumption | exact S0 _)
    (first | (go_at_call 9; refine (may_yes _ _ _ H.out).mono ?_; rintro e y ⟨rfl, hby⟩; have SY := asks_keep (by assumption) hby) | (go_at_call 14; refine (rmay_yes _ _ _ H.out).mono ?_; rintro e y ⟨rfl, hby⟩; have SY := asks_keep (by assumption) hby) | (go_at_call 10; refine (cap_yes _ _ k c _ H.out h5 h6 H7.out H8.out).mono ?_; rintro e y ⟨rfl, hby⟩; have SY := asks_keep (by assumption) hby) | (go_at_call 15; refine (rcap_yes _ _ k c _ H.out h5 h6 H7.out H8.out).mono ?_; rintro e y ⟨rfl, hby⟩; have SY := asks_keep (by assumption) hby) | (go_at_call 16; refine (steps_yes _ _ _ H.out).mono ?_; rintro e y ⟨rfl, hby⟩; have SY := asks_keep (by assumption) hby) | (go_at_call 17; refine (rsteps_yes _ _ _ H.out).mono ?_; rintro e y ⟨rfl, hby⟩; have SY := asks_keep (by assumption) hby) | (go_at_call 12; refine (reads_yes _ _ _ H.out).mono ?_; rintro e y ⟨rfl, hby⟩; have SY := asks_keep (by assumption) hby) | (go_at_call 18; refine (rreads_yes _ _ _ H.out).mono ?_; rintro e y ⟨rfl, hby⟩; have SY := asks_keep (by assumption) hby) | (go_at_call 11; refine (awake_yes _).mono ?_; rintro e y ⟨rfl, hby⟩; have SY := asks_keep (by assumption) hby))
  go_wp2_with fail
  go_ret
  exact ⟨rfl, SY.2.2.2.2.2.2.2.2.2.2.2.2.2⟩


theorem asks_any (z s : Int) (w : World) (_ : (Lit.int .i64 z).wf = true) (_ : (Lit.int .i64 s).wf = true) :
    Calls Try.prog 5 #[.agg #[.int .i64 z, .int .i64 s]] w fun e w' => e = .returned (.bool true) ∧ Below w.heap.size w w' := by
  cases h : mayB z s
  · exact asks_no z s w h
  · exact asks_yes z s (3 * z / 8) ((40 * (3 * z / 8 * s - 2) - 64) / 44) w h (by omega) (by omega) (by omega) (by omega)
end Go.Proofs.Ytmcjlellgkjehaa
