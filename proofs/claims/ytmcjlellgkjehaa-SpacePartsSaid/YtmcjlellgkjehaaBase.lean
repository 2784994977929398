/-
  The contracts of the functions that divide a device (May, Split, Capacity, Steps, Reads), of the program and of its reference, and of the law's own 'awake'. Conditions: a geometry that is valid ('.._yes') or not ('.._no').
-/
import Derived.Test.YtmcjlellgkjehaaRows
import Derived.WalkKit
import Derived.WalkSpells
import Derived.WalkLawsBesides
import Derived.Lib.Hide
namespace Go.Proofs.Ytmcjlellgkjehaa
open Go.RowKit

theorem bcell {W w1 : World} (hb : Below W.heap.size W w1) : (∀ b o, b < W.heap.size → w1.cell? ⟨b, o, none⟩ = W.cell? ⟨b, o, none⟩) ∧ (∀ b o, b < W.heap.size → w1.frozen? ⟨b, o, none⟩ = W.frozen? ⟨b, o, none⟩) :=
  ⟨fun b o h => hb.cell (p := ⟨b, o, none⟩) h, fun b o h => hb.frozen (p := ⟨b, o, none⟩) h⟩

theorem ret_bool {a b : Bool} (h : a = b) : Ending.returned (.bool a) = .returned (.bool b) := by rw [h]
theorem ret_int {k : IntKind} {a b : Int} (h : a = b) : Ending.returned (.int k a) = .returned (.int k b) := by rw [h]

def mayB (z s : Int) : Bool := decide (8 ≤ z ∧ z ≤ 64 ∧ 96 ≤ s ∧ s ≤ 192)
theorem mayB_true {z s : Int} (h : mayB z s = true) : 8 ≤ z ∧ z ≤ 64 ∧ 96 ≤ s ∧ s ≤ 192 := of_decide_eq_true h
theorem mayB_false {z s : Int} (h : mayB z s = false) : z < 8 ∨ 8 ≤ z ∧ 64 < z ∨ 8 ≤ z ∧ z ≤ 64 ∧ s < 96 ∨ 8 ≤ z ∧ z ≤ 64 ∧ 96 ≤ s ∧ 192 < s := by
  have := of_decide_eq_false h; omega
theorem mul_low {a b x y : Int} (ha : 0 ≤ a) (hy : 0 ≤ y) (h1 : a ≤ x) (h2 : b ≤ y) : a * b ≤ x * y :=
  Int.le_trans (Int.mul_le_mul_of_nonneg_left h2 ha) (Int.mul_le_mul_of_nonneg_right h1 hy)


set_option maxHeartbeats 400000 in
theorem may_yes (z s : Int) (w : World) (h : mayB z s = true) :
    Calls Try.prog 9 #[.agg #[.int .i64 z, .int .i64 s]] w fun e w' => e = .returned (.bool true) ∧ Below w.heap.size w w' := by
  obtain ⟨h1, h2, h3, h4⟩ := mayB_true h
  clear h
  go_enter Try.func9, Try.ntmps9
  go_wp2
  go_ret
  exact ⟨rfl, (Below.refl _ _).alloc (Nat.le_refl _) _⟩

set_option maxHeartbeats 800000 in
theorem may_no (z s : Int) (w : World) (h : mayB z s = false) :
    Calls Try.prog 9 #[.agg #[.int .i64 z, .int .i64 s]] w fun e w' => e = .returned (.bool false) ∧ Below w.heap.size w w' := by
  have h' := mayB_false h
  clear h
  rcases h' with h1 | ⟨h1, h2⟩ | ⟨h1, h2, h3⟩ | ⟨h1, h2, h3, h4⟩
  all_goals
    go_enter Try.func9, Try.ntmps9
    go_wp2
    go_ret
    exact ⟨ret_bool (by first | rfl | (simp; omega)), (Below.refl _ _).alloc (Nat.le_refl _) _⟩

set_option maxHeartbeats 400000 in
theorem split_yes (z s k : Int) (w : World) (h : mayB z s = true) (h5 : 8 * k ≤ 3 * z) (h6 : 3 * z < 8 * k + 8) :
    Calls Try.prog 8 #[.agg #[.int .i64 z, .int .i64 s]] w fun e w' => e = .returned (.tuple #[.agg #[.int .i64 0, .int .i64 k, .int .i64 (2 * k), .int .i64 (z - 1)], .int .i64 0]) ∧ Below w.heap.size w w' := by
  obtain ⟨h1, h2, h3, h4⟩ := mayB_true h
  obtain rfl : k = 3 * z / 8 := by omega
  have H := Lib.hid h
  clear h
  go_enter Try.func8, Try.ntmps8
  go_wp2_with (go_at_call 9; refine (may_yes _ _ _ H.out).mono ?_; rintro e w1 ⟨rfl, hb⟩; obtain ⟨hc, hf⟩ := bcell hb; have hz : w.heap.size + 1 < w1.heap.size := by have := hb.size; simp at this; omega)
  refine bodyPost_ret (v := .tuple #[.agg #[.int .i64 0, .int .i64 (3 * z / 8), .int .i64 (2 * (3 * z / 8)), .int .i64 (z - 1)], .int .i64 0]) (by simp [results, Try.results8, go_sem, hc]) rfl ⟨rfl, ?_⟩
  exact (((((((Below.refl _ _).alloc (Nat.le_refl _) _).alloc (by simp) _).trans (hb.mono (by simp; omega))).setCell (by simp) _).setCell (by simp) _).setCell (by simp) _).setCell (by simp) _

set_option maxHeartbeats 400000 in
theorem split_no (z s : Int) (w : World) (h : mayB z s = false) :
    Calls Try.prog 8 #[.agg #[.int .i64 z, .int .i64 s]] w fun e w' => e = .returned (.tuple #[.agg #[.int .i64 0, .int .i64 0, .int .i64 0, .int .i64 0], .int .i64 1]) ∧ Below w.heap.size w w' := by
  have H := Lib.hid h
  clear h
  go_enter Try.func8, Try.ntmps8
  go_wp2_with (go_at_call 9; refine (may_no _ _ _ H.out).mono ?_; rintro e w1 ⟨rfl, hb⟩; obtain ⟨hc, hf⟩ := bcell hb; have hz : w.heap.size + 1 < w1.heap.size := by have := hb.size; simp at this; omega)
  refine bodyPost_ret (v := .tuple #[.agg #[.int .i64 0, .int .i64 0, .int .i64 0, .int .i64 0], .int .i64 1]) (by simp [results, Try.results8, go_sem, hc]) rfl ⟨rfl, ?_⟩
  exact (((((((Below.refl _ _).alloc (Nat.le_refl _) _).alloc (by simp) _).trans (hb.mono (by simp; omega))).setCell (by simp) _).setCell (by simp) _).setCell (by simp) _).setCell (by simp) _

set_option maxHeartbeats 400000 in
theorem cap_yes (z s k c : Int) (w : World) (h : mayB z s = true) (h5 : 8 * k ≤ 3 * z) (h6 : 3 * z < 8 * k + 8) (h7 : 44 * c ≤ 40 * (k * s - 2) - 64) (h8 : 40 * (k * s - 2) - 64 < 44 * c + 44) :
    Calls Try.prog 10 #[.agg #[.int .i64 z, .int .i64 s]] w fun e w' => e = .returned (.int .i64 c) ∧ Below w.heap.size w w' := by
  obtain ⟨h1, h2, h3, h4⟩ := mayB_true h
  have h9 : 3 * 96 ≤ k * s := mul_low (by omega) (by omega) (by omega) h3
  have h10 : k * s ≤ 24 * 192 := mul_low (by omega) (by omega) (by omega) h4
  have H := Lib.hid h
  clear h
  go_enter Try.func10, Try.ntmps10
  go_wp2_with (go_at_call 8; refine (split_yes _ _ k _ H.out h5 h6).mono ?_; rintro e w1 ⟨rfl, hb⟩; obtain ⟨hc, hf⟩ := bcell hb; have hz : w.heap.size < w1.heap.size := by have := hb.size; simp at this; omega)
  go_ret
  refine ⟨ret_int (by omega), ?_⟩
  exact (((((((Below.refl _ _).alloc (Nat.le_refl _) _).trans (hb.mono (by simp))).alloc (by omega) _))))

set_option maxHeartbeats 400000 in
theorem cap_no (z s : Int) (w : World) (h : mayB z s = false) :
    Calls Try.prog 10 #[.agg #[.int .i64 z, .int .i64 s]] w fun e w' => e = .returned (.int .i64 0) ∧ Below w.heap.size w w' := by
  have H := Lib.hid h
  clear h
  go_enter Try.func10, Try.ntmps10
  go_wp2_with (go_at_call 8; refine (split_no _ _ _ H.out).mono ?_; rintro e w1 ⟨rfl, hb⟩; obtain ⟨hc, hf⟩ := bcell hb; have hz : w.heap.size < w1.heap.size := by have := hb.size; simp at this; omega)
  go_ret
  refine ⟨rfl, ?_⟩
  exact (((((((Below.refl _ _).alloc (Nat.le_refl _) _).trans (hb.mono (by simp))).alloc (by omega) _))))

set_option maxHeartbeats 400000 in
theorem steps_yes (z s : Int) (w : World) (h : mayB z s = true) :
    Calls Try.prog 16 #[.agg #[.int .i64 z, .int .i64 s]] w fun e w' => e = .returned (.int .i64 (2 * z)) ∧ Below w.heap.size w w' := by
  obtain ⟨h1, h2, h3, h4⟩ := mayB_true h
  have H := Lib.hid h
  clear h
  go_enter Try.func16, Try.ntmps16
  go_wp2_with (go_at_call 9; refine (may_yes _ _ _ H.out).mono ?_; rintro e w1 ⟨rfl, hb⟩; obtain ⟨hc, hf⟩ := bcell hb; have hz : w.heap.size < w1.heap.size := by have := hb.size; simp at this; omega)
  go_ret
  exact ⟨rfl, ((Below.refl _ _).alloc (Nat.le_refl _) _).trans (hb.mono (by simp))⟩

set_option maxHeartbeats 400000 in
theorem steps_no (z s : Int) (w : World) (h : mayB z s = false) :
    Calls Try.prog 16 #[.agg #[.int .i64 z, .int .i64 s]] w fun e w' => e = .returned (.int .i64 0) ∧ Below w.heap.size w w' := by
  have H := Lib.hid h
  clear h
  go_enter Try.func16, Try.ntmps16
  go_wp2_with (go_at_call 9; refine (may_no _ _ _ H.out).mono ?_; rintro e w1 ⟨rfl, hb⟩; obtain ⟨hc, hf⟩ := bcell hb; have hz : w.heap.size < w1.heap.size := by have := hb.size; simp at this; omega)
  go_ret
  exact ⟨rfl, ((Below.refl _ _).alloc (Nat.le_refl _) _).trans (hb.mono (by simp))⟩

set_option maxHeartbeats 400000 in
theorem reads_yes (z s : Int) (w : World) (h : mayB z s = true) :
    Calls Try.prog 12 #[.agg #[.int .i64 z, .int .i64 s]] w fun e w' => e = .returned (.int .i64 (4 * z * s)) ∧ Below w.heap.size w w' := by
  obtain ⟨h1, h2, h3, h4⟩ := mayB_true h
  have h9 : 32 * 96 ≤ 4 * z * s := mul_low (by omega) (by omega) (by omega) h3
  have h10 : 4 * z * s ≤ 256 * 192 := mul_low (by omega) (by omega) (by omega) h4
  have H := Lib.hid h
  clear h
  go_enter Try.func12, Try.ntmps12
  go_wp2_with (go_at_call 9; refine (may_yes _ _ _ H.out).mono ?_; rintro e w1 ⟨rfl, hb⟩; obtain ⟨hc, hf⟩ := bcell hb; have hz : w.heap.size < w1.heap.size := by have := hb.size; simp at this; omega)
  go_ret
  exact ⟨rfl, ((Below.refl _ _).alloc (Nat.le_refl _) _).trans (hb.mono (by simp))⟩

set_option maxHeartbeats 400000 in
theorem reads_no (z s : Int) (w : World) (h : mayB z s = false) :
    Calls Try.prog 12 #[.agg #[.int .i64 z, .int .i64 s]] w fun e w' => e = .returned (.int .i64 0) ∧ Below w.heap.size w w' := by
  have H := Lib.hid h
  clear h
  go_enter Try.func12, Try.ntmps12
  go_wp2_with (go_at_call 9; refine (may_no _ _ _ H.out).mono ?_; rintro e w1 ⟨rfl, hb⟩; obtain ⟨hc, hf⟩ := bcell hb; have hz : w.heap.size < w1.heap.size := by have := hb.size; simp at this; omega)
  go_ret
  exact ⟨rfl, ((Below.refl _ _).alloc (Nat.le_refl _) _).trans (hb.mono (by simp))⟩


set_option maxHeartbeats 400000 in
theorem rmay_yes (z s : Int) (w : World) (h : mayB z s = true) :
    Calls Try.prog 14 #[.agg #[.int .i64 z, .int .i64 s]] w fun e w' => e = .returned (.bool true) ∧ Below w.heap.size w w' := by
  obtain ⟨h1, h2, h3, h4⟩ := mayB_true h
  clear h
  go_enter Try.func14, Try.ntmps14
  go_wp2
  go_ret
  exact ⟨rfl, (Below.refl _ _).alloc (Nat.le_refl _) _⟩

set_option maxHeartbeats 800000 in
theorem rmay_no (z s : Int) (w : World) (h : mayB z s = false) :
    Calls Try.prog 14 #[.agg #[.int .i64 z, .int .i64 s]] w fun e w' => e = .returned (.bool false) ∧ Below w.heap.size w w' := by
  have h' := mayB_false h
  clear h
  rcases h' with h1 | ⟨h1, h2⟩ | ⟨h1, h2, h3⟩ | ⟨h1, h2, h3, h4⟩
  all_goals
    go_enter Try.func14, Try.ntmps14
    go_wp2
    go_ret
    exact ⟨ret_bool (by first | rfl | (simp; omega)), (Below.refl _ _).alloc (Nat.le_refl _) _⟩

set_option maxHeartbeats 400000 in
theorem rsplit_yes (z s k : Int) (w : World) (h : mayB z s = true) (h5 : 8 * k ≤ 3 * z) (h6 : 3 * z < 8 * k + 8) :
    Calls Try.prog 13 #[.agg #[.int .i64 z, .int .i64 s]] w fun e w' => e = .returned (.tuple #[.agg #[.int .i64 0, .int .i64 k, .int .i64 (2 * k), .int .i64 (z - 1)], .int .i64 0]) ∧ Below w.heap.size w w' := by
  obtain ⟨h1, h2, h3, h4⟩ := mayB_true h
  obtain rfl : k = 3 * z / 8 := by omega
  have H := Lib.hid h
  clear h
  go_enter Try.func13, Try.ntmps13
  go_wp2_with (go_at_call 14; refine (rmay_yes _ _ _ H.out).mono ?_; rintro e w1 ⟨rfl, hb⟩; obtain ⟨hc, hf⟩ := bcell hb; have hz : w.heap.size + 1 < w1.heap.size := by have := hb.size; simp at this; omega)
  refine bodyPost_ret (v := .tuple #[.agg #[.int .i64 0, .int .i64 (3 * z / 8), .int .i64 (2 * (3 * z / 8)), .int .i64 (z - 1)], .int .i64 0]) (by simp [results, Try.results13, go_sem, hc]) rfl ⟨rfl, ?_⟩
  exact (((((((Below.refl _ _).alloc (Nat.le_refl _) _).alloc (by simp) _).trans (hb.mono (by simp; omega))).setCell (by simp) _).setCell (by simp) _).setCell (by simp) _).setCell (by simp) _

set_option maxHeartbeats 400000 in
theorem rsplit_no (z s : Int) (w : World) (h : mayB z s = false) :
    Calls Try.prog 13 #[.agg #[.int .i64 z, .int .i64 s]] w fun e w' => e = .returned (.tuple #[.agg #[.int .i64 0, .int .i64 0, .int .i64 0, .int .i64 0], .int .i64 1]) ∧ Below w.heap.size w w' := by
  have H := Lib.hid h
  clear h
  go_enter Try.func13, Try.ntmps13
  go_wp2_with (go_at_call 14; refine (rmay_no _ _ _ H.out).mono ?_; rintro e w1 ⟨rfl, hb⟩; obtain ⟨hc, hf⟩ := bcell hb; have hz : w.heap.size + 1 < w1.heap.size := by have := hb.size; simp at this; omega)
  refine bodyPost_ret (v := .tuple #[.agg #[.int .i64 0, .int .i64 0, .int .i64 0, .int .i64 0], .int .i64 1]) (by simp [results, Try.results13, go_sem, hc]) rfl ⟨rfl, ?_⟩
  exact (((((((Below.refl _ _).alloc (Nat.le_refl _) _).alloc (by simp) _).trans (hb.mono (by simp; omega))).setCell (by simp) _).setCell (by simp) _).setCell (by simp) _).setCell (by simp) _

set_option maxHeartbeats 400000 in
theorem rcap_yes (z s k c : Int) (w : World) (h : mayB z s = true) (h5 : 8 * k ≤ 3 * z) (h6 : 3 * z < 8 * k + 8) (h7 : 44 * c ≤ 40 * (k * s - 2) - 64) (h8 : 40 * (k * s - 2) - 64 < 44 * c + 44) :
    Calls Try.prog 15 #[.agg #[.int .i64 z, .int .i64 s]] w fun e w' => e = .returned (.int .i64 c) ∧ Below w.heap.size w w' := by
  obtain ⟨h1, h2, h3, h4⟩ := mayB_true h
  have h9 : 3 * 96 ≤ k * s := mul_low (by omega) (by omega) (by omega) h3
  have h10 : k * s ≤ 24 * 192 := mul_low (by omega) (by omega) (by omega) h4
  have H := Lib.hid h
  clear h
  go_enter Try.func15, Try.ntmps15
  go_wp2_with (go_at_call 13; refine (rsplit_yes _ _ k _ H.out h5 h6).mono ?_; rintro e w1 ⟨rfl, hb⟩; obtain ⟨hc, hf⟩ := bcell hb; have hz : w.heap.size < w1.heap.size := by have := hb.size; simp at this; omega)
  go_ret
  refine ⟨ret_int (by omega), ?_⟩
  exact (((((((Below.refl _ _).alloc (Nat.le_refl _) _).trans (hb.mono (by simp))).alloc (by omega) _))))

set_option maxHeartbeats 400000 in
theorem rcap_no (z s : Int) (w : World) (h : mayB z s = false) :
    Calls Try.prog 15 #[.agg #[.int .i64 z, .int .i64 s]] w fun e w' => e = .returned (.int .i64 0) ∧ Below w.heap.size w w' := by
  have H := Lib.hid h
  clear h
  go_enter Try.func15, Try.ntmps15
  go_wp2_with (go_at_call 13; refine (rsplit_no _ _ _ H.out).mono ?_; rintro e w1 ⟨rfl, hb⟩; obtain ⟨hc, hf⟩ := bcell hb; have hz : w.heap.size < w1.heap.size := by have := hb.size; simp at this; omega)
  go_ret
  refine ⟨rfl, ?_⟩
  exact (((((((Below.refl _ _).alloc (Nat.le_refl _) _).trans (hb.mono (by simp))).alloc (by omega) _))))

set_option maxHeartbeats 400000 in
theorem rsteps_yes (z s : Int) (w : World) (h : mayB z s = true) :
    Calls Try.prog 17 #[.agg #[.int .i64 z, .int .i64 s]] w fun e w' => e = .returned (.int .i64 (2 * z)) ∧ Below w.heap.size w w' := by
  obtain ⟨h1, h2, h3, h4⟩ := mayB_true h
  have H := Lib.hid h
  clear h
  go_enter Try.func17, Try.ntmps17
  go_wp2_with (go_at_call 14; refine (rmay_yes _ _ _ H.out).mono ?_; rintro e w1 ⟨rfl, hb⟩; obtain ⟨hc, hf⟩ := bcell hb; have hz : w.heap.size < w1.heap.size := by have := hb.size; simp at this; omega)
  go_ret
  exact ⟨rfl, ((Below.refl _ _).alloc (Nat.le_refl _) _).trans (hb.mono (by simp))⟩

set_option maxHeartbeats 400000 in
theorem rsteps_no (z s : Int) (w : World) (h : mayB z s = false) :
    Calls Try.prog 17 #[.agg #[.int .i64 z, .int .i64 s]] w fun e w' => e = .returned (.int .i64 0) ∧ Below w.heap.size w w' := by
  have H := Lib.hid h
  clear h
  go_enter Try.func17, Try.ntmps17
  go_wp2_with (go_at_call 14; refine (rmay_no _ _ _ H.out).mono ?_; rintro e w1 ⟨rfl, hb⟩; obtain ⟨hc, hf⟩ := bcell hb; have hz : w.heap.size < w1.heap.size := by have := hb.size; simp at this; omega)
  go_ret
  exact ⟨rfl, ((Below.refl _ _).alloc (Nat.le_refl _) _).trans (hb.mono (by simp))⟩

set_option maxHeartbeats 400000 in
theorem rreads_yes (z s : Int) (w : World) (h : mayB z s = true) :
    Calls Try.prog 18 #[.agg #[.int .i64 z, .int .i64 s]] w fun e w' => e = .returned (.int .i64 (4 * z * s)) ∧ Below w.heap.size w w' := by
  obtain ⟨h1, h2, h3, h4⟩ := mayB_true h
  have h9 : 32 * 96 ≤ 4 * z * s := mul_low (by omega) (by omega) (by omega) h3
  have h10 : 4 * z * s ≤ 256 * 192 := mul_low (by omega) (by omega) (by omega) h4
  have H := Lib.hid h
  clear h
  go_enter Try.func18, Try.ntmps18
  go_wp2_with (go_at_call 14; refine (rmay_yes _ _ _ H.out).mono ?_; rintro e w1 ⟨rfl, hb⟩; obtain ⟨hc, hf⟩ := bcell hb; have hz : w.heap.size < w1.heap.size := by have := hb.size; simp at this; omega)
  go_ret
  exact ⟨rfl, ((Below.refl _ _).alloc (Nat.le_refl _) _).trans (hb.mono (by simp))⟩

set_option maxHeartbeats 400000 in
theorem rreads_no (z s : Int) (w : World) (h : mayB z s = false) :
    Calls Try.prog 18 #[.agg #[.int .i64 z, .int .i64 s]] w fun e w' => e = .returned (.int .i64 0) ∧ Below w.heap.size w w' := by
  have H := Lib.hid h
  clear h
  go_enter Try.func18, Try.ntmps18
  go_wp2_with (go_at_call 14; refine (rmay_no _ _ _ H.out).mono ?_; rintro e w1 ⟨rfl, hb⟩; obtain ⟨hc, hf⟩ := bcell hb; have hz : w.heap.size < w1.heap.size := by have := hb.size; simp at this; omega)
  go_ret
  exact ⟨rfl, ((Below.refl _ _).alloc (Nat.le_refl _) _).trans (hb.mono (by simp))⟩


set_option maxHeartbeats 400000 in
theorem awake_yes (w : World) : Calls Try.prog 11 #[] w fun e w' => e = .returned (.bool true) ∧ Below w.heap.size w w' := by
  go_enter Try.func11, Try.ntmps11
  go_wp2_with (go_at_call 10; refine (cap_yes 8 96 3 258 _ (by decide) (by decide) (by decide) (by decide) (by decide)).mono ?_; rintro e w1 ⟨rfl, hb⟩)
  go_ret
  exact ⟨rfl, hb⟩
end Go.Proofs.Ytmcjlellgkjehaa
