/-
  SpaceGrows: the walk of the law, from its callees' contracts: it returns true at every two geometries. No condition.
-/
import Derived.Test.YtmcjlellgkjehaaBase
import Derived.Deep.RegionHeld3
import Derived.IntWalk
namespace Go.Proofs.Ytmcjlellgkjehaa
open Go.RowKit

theorem grows_keep {w x y : World} {za sa zb sb : Int} (h : x.cell? ⟨w.heap.size, 0, none⟩ = some (.int .i64 za) ∧ x.cell? ⟨w.heap.size, 1, none⟩ = some (.int .i64 sa) ∧ x.cell? ⟨w.heap.size + 1, 0, none⟩ = some (.int .i64 zb) ∧ x.cell? ⟨w.heap.size + 1, 1, none⟩ = some (.int .i64 sb) ∧ w.heap.size + 1 < x.heap.size ∧ Below w.heap.size w x)
    (hb : Below x.heap.size x y) : y.cell? ⟨w.heap.size, 0, none⟩ = some (.int .i64 za) ∧ y.cell? ⟨w.heap.size, 1, none⟩ = some (.int .i64 sa) ∧ y.cell? ⟨w.heap.size + 1, 0, none⟩ = some (.int .i64 zb) ∧ y.cell? ⟨w.heap.size + 1, 1, none⟩ = some (.int .i64 sb) ∧ w.heap.size + 1 < y.heap.size ∧ Below w.heap.size w y := by
  obtain ⟨h1, h2, h3, h4, h5, h6⟩ := h
  have hs := hb.size
  obtain ⟨hc, -⟩ := bcell hb
  refine ⟨?_, ?_, ?_, ?_, by omega, h6.trans (hb.mono (by omega))⟩
  · rw [hc _ _ (by omega)]; exact h1
  · rw [hc _ _ (by omega)]; exact h2
  · rw [hc _ _ (by omega)]; exact h3
  · rw [hc _ _ (by omega)]; exact h4

set_option maxHeartbeats 1000000 in
theorem grows_a (za sa zb sb : Int) (w : World) (h : mayB za sa = false) :
    Calls Try.prog 4 #[.agg #[.int .i64 za, .int .i64 sa], .agg #[.int .i64 zb, .int .i64 sb]] w fun e w' => e = .returned (.bool true) ∧ Below w.heap.size w w' := by
  have H := Lib.hid h
  clear h
  go_enter Try.func4, Try.ntmps4
  go_wp2_with fail
  refine (may_no _ _ _ H.out).mono ?_
  rintro e w1 ⟨rfl, hb1⟩
  obtain ⟨hc1, hf1⟩ := bcell hb1
  have hz1a : w.heap.size + 1 < w1.heap.size := by
    have := hb1.size
    try simp at this
    omega
  have hz1b : w.heap.size < w1.heap.size := by
    have := hb1.size
    try simp at this
    omega
  go_wp2_with fail
  refine (awake_yes _).mono ?_
  rintro e w2 ⟨rfl, hb2⟩
  obtain ⟨hc2, hf2⟩ := bcell hb2
  have hz2a : w.heap.size < w2.heap.size := by
    have := hb2.size
    try simp at this
    omega
  go_wp2_with fail
  go_ret
  exact ⟨rfl, ((((Below.refl _ _).alloc (Nat.le_refl _) _).alloc (by simp) _).trans (hb1.mono (by simp; omega))).trans (hb2.mono (by omega))⟩

set_option maxHeartbeats 1000000 in
theorem grows_b (za sa zb sb : Int) (w : World) (h : mayB za sa = true) (h' : mayB zb sb = false) :
    Calls Try.prog 4 #[.agg #[.int .i64 za, .int .i64 sa], .agg #[.int .i64 zb, .int .i64 sb]] w fun e w' => e = .returned (.bool true) ∧ Below w.heap.size w w' := by
  have H := Lib.hid h
  have H' := Lib.hid h'
  clear h h'
  go_enter Try.func4, Try.ntmps4
  go_wp2_with fail
  refine (may_yes _ _ _ H.out).mono ?_
  rintro e w1 ⟨rfl, hb1⟩
  obtain ⟨hc1, hf1⟩ := bcell hb1
  have hz1a : w.heap.size + 1 < w1.heap.size := by
    have := hb1.size
    try simp at this
    omega
  have hz1b : w.heap.size < w1.heap.size := by
    have := hb1.size
    try simp at this
    omega
  go_wp2_with fail
  refine (may_no _ _ _ H'.out).mono ?_
  rintro e w2 ⟨rfl, hb2⟩
  obtain ⟨hc2, hf2⟩ := bcell hb2
  have hz2a : w.heap.size + 1 < w2.heap.size := by
    have := hb2.size
    try simp at this
    omega
  have hz2b : w.heap.size < w2.heap.size := by
    have := hb2.size
    try simp at this
    omega
  go_wp2_with fail
  refine (awake_yes _).mono ?_
  rintro e w3 ⟨rfl, hb3⟩
  obtain ⟨hc3, hf3⟩ := bcell hb3
  have hz3a : w.heap.size < w3.heap.size := by
    have := hb3.size
    try simp at this
    omega
  go_wp2_with fail
  go_ret
  exact ⟨rfl, (((((Below.refl _ _).alloc (Nat.le_refl _) _).alloc (by simp) _).trans (hb1.mono (by simp; omega))).trans (hb2.mono (by omega))).trans (hb3.mono (by omega))⟩

set_option maxHeartbeats 1000000 in
theorem grows_c (za sa zb sb : Int) (w : World) (h : mayB za sa = true) (h' : mayB zb sb = true) (h1 : zb < za ∨ za ≤ zb ∧ sb < sa) :
    Calls Try.prog 4 #[.agg #[.int .i64 za, .int .i64 sa], .agg #[.int .i64 zb, .int .i64 sb]] w fun e w' => e = .returned (.bool true) ∧ Below w.heap.size w w' := by
  have H := Lib.hid h
  have H' := Lib.hid h'
  clear h h'
  rcases h1 with h1 | ⟨h1, h2⟩
  all_goals
    go_enter Try.func4, Try.ntmps4
    go_wp2_with fail
    refine (may_yes _ _ _ H.out).mono ?_
    rintro e w1 ⟨rfl, hb1⟩
    obtain ⟨hc1, hf1⟩ := bcell hb1
    have hz1a : w.heap.size + 1 < w1.heap.size := by
      have := hb1.size
      try simp at this
      omega
    have hz1b : w.heap.size < w1.heap.size := by
      have := hb1.size
      try simp at this
      omega
    go_wp2_with fail
    refine (may_yes _ _ _ H'.out).mono ?_
    rintro e w2 ⟨rfl, hb2⟩
    obtain ⟨hc2, hf2⟩ := bcell hb2
    have hz2a : w.heap.size + 1 < w2.heap.size := by
      have := hb2.size
      try simp at this
      omega
    have hz2b : w.heap.size < w2.heap.size := by
      have := hb2.size
      try simp at this
      omega
    go_wp2_with fail
    refine (awake_yes _).mono ?_
    rintro e w3 ⟨rfl, hb3⟩
    obtain ⟨hc3, hf3⟩ := bcell hb3
    have hz3a : w.heap.size < w3.heap.size := by
      have := hb3.size
      try simp at this
      omega
    go_wp2_with fail
    go_ret
    exact ⟨rfl, (((((Below.refl _ _).alloc (Nat.le_refl _) _).alloc (by simp) _).trans (hb1.mono (by simp; omega))).trans (hb2.mono (by omega))).trans (hb3.mono (by omega))⟩

set_option maxHeartbeats 4000000 in
theorem grows_d (za sa zb sb k c k' c' : Int) (w : World) (h : mayB za sa = true) (h' : mayB zb sb = true) (hza : za ≤ zb) (hsa : sa ≤ sb)
    (h5 : 8 * k ≤ 3 * za) (h6 : 3 * za < 8 * k + 8) (h7 : 44 * c ≤ 40 * (k * sa - 2) - 64) (h8 : 40 * (k * sa - 2) - 64 < 44 * c + 44)
    (h5' : 8 * k' ≤ 3 * zb) (h6' : 3 * zb < 8 * k' + 8) (h7' : 44 * c' ≤ 40 * (k' * sb - 2) - 64) (h8' : 40 * (k' * sb - 2) - 64 < 44 * c' + 44) :
    Calls Try.prog 4 #[.agg #[.int .i64 za, .int .i64 sa], .agg #[.int .i64 zb, .int .i64 sb]] w fun e w' => e = .returned (.bool true) ∧ Below w.heap.size w w' := by
  have p1 : 3 * 96 ≤ k * sa := by have := mayB_true h; exact mul_low (by omega) (by omega) (by omega) (by omega)
  have p2 : k * sa ≤ k' * sb := by have := mayB_true h; have := mayB_true h'; exact mul_low (by omega) (by omega) (by omega) (by omega)
  have p3 : 8 * k * sa ≤ 3 * za * sa := by have := mayB_true h; exact mul_low (by omega) (by omega) (by omega) (by omega)
  have p4 : 8 * 96 ≤ za * sa := by have := mayB_true h; exact mul_low (by omega) (by omega) (by omega) (by omega)
  have p5 : za * sa ≤ 64 * 192 := by have := mayB_true h; exact mul_low (by omega) (by omega) (by omega) (by omega)
  have p6 : 4 * za * sa ≤ 4 * zb * sb := by have := mayB_true h; have := mayB_true h'; exact mul_low (by omega) (by omega) (by omega) (by omega)
  have p7 : c ≤ c' := by omega
  have p8 : 0 < c := by omega
  have p9 : 2 * c < za * sa := by
    rw [Int.mul_assoc] at p3; rw [Int.mul_assoc] at p3; omega
  have p10 : c < 10000 := by
    rw [Int.mul_assoc] at p3; rw [Int.mul_assoc] at p3; omega
  have q1 := (mayB_true h).1
  have q2 := (mayB_true h).2.1
  have C1 := Lib.hid h7; have C2 := Lib.hid h8; have C3 := Lib.hid h7'; have C4 := Lib.hid h8'
  have H := Lib.hid h
  have H' := Lib.hid h'
  clear h h' h7 h8 h7' h8' p1 p2 p3
  go_enter Try.func4, Try.ntmps4
  go_wp2_with fail
  refine (may_yes _ _ _ H.out).mono ?_
  rintro e w1 ⟨rfl, hb1⟩
  obtain ⟨hc1, hf1⟩ := bcell hb1
  have hz1a : w.heap.size + 1 < w1.heap.size := by
    have := hb1.size
    try simp at this
    omega
  have hz1b : w.heap.size < w1.heap.size := by
    have := hb1.size
    try simp at this
    omega
  go_wp2_with fail
  refine (may_yes _ _ _ H'.out).mono ?_
  rintro e w2 ⟨rfl, hb2⟩
  obtain ⟨hc2, hf2⟩ := bcell hb2
  have hz2a : w.heap.size + 1 < w2.heap.size := by
    have := hb2.size
    try simp at this
    omega
  have hz2b : w.heap.size < w2.heap.size := by
    have := hb2.size
    try simp at this
    omega
  go_wp2_with fail
  refine (cap_yes _ _ k c _ H.out h5 h6 C1.out C2.out).mono ?_
  rintro e w3 ⟨rfl, hb3⟩
  obtain ⟨hc3, hf3⟩ := bcell hb3
  have hz3a : w.heap.size + 1 < w3.heap.size := by
    have := hb3.size
    try simp at this
    omega
  have hz3b : w.heap.size < w3.heap.size := by
    have := hb3.size
    try simp at this
    omega
  go_wp2_with fail
  refine (split_yes _ _ k _ H.out h5 h6).mono ?_
  rintro e w4 ⟨rfl, hb4⟩
  obtain ⟨hc4, hf4⟩ := bcell hb4
  have hz4a : w.heap.size + 1 < w4.heap.size := by
    have := hb4.size
    try simp at this
    omega
  have hz4b : w.heap.size < w4.heap.size := by
    have := hb4.size
    try simp at this
    omega
  go_wp2_with fail
  have d1 : decide (0 < c) = true := by simp; omega
  have d2 : decide (2 * c < za * sa) = true := by simp; omega
  have d3 : decide (c ≤ c') = true := by simp; omega
  have d4 : decide (4 * za * sa ≤ 4 * zb * sb) = true := by simp; omega
  have e1 : IntKind.i64.wrap (za * sa) = za * sa := IntWalk.i64_in _ (by omega)
  have e2 : IntKind.i64.wrap (2 * c) = 2 * c := IntWalk.i64_in _ (by omega)
  have S0 : ∀ o, (fun x => x.cell? ⟨w.heap.size, 0, none⟩ = some (.int .i64 za) ∧ x.cell? ⟨w.heap.size, 1, none⟩ = some (.int .i64 sa) ∧ x.cell? ⟨w.heap.size + 1, 0, none⟩ = some (.int .i64 zb) ∧ x.cell? ⟨w.heap.size + 1, 1, none⟩ = some (.int .i64 sb) ∧ w.heap.size + 1 < x.heap.size ∧ Below w.heap.size w x) (w4.alloc o).drew := by
    intro o
    refine ⟨by go_simp, by go_simp, by go_simp, by go_simp, by simp; omega, ?_⟩
    exact ((((((Below.refl _ _).alloc (Nat.le_refl _) _).alloc (by simp) _).trans (hb1.mono (by simp; omega))).trans (hb2.mono (by omega))).trans (hb3.mono (by omega))).trans (hb4.mono (by omega)) |>.alloc (by omega) _ |>.drew
  go_region_held3 (fun x => x.cell? ⟨w.heap.size, 0, none⟩ = some (.int .i64 za) ∧ x.cell? ⟨w.heap.size, 1, none⟩ = some (.int .i64 sa) ∧ x.cell? ⟨w.heap.size + 1, 0, none⟩ = some (.int .i64 zb) ∧ x.cell? ⟨w.heap.size + 1, 1, none⟩ = some (.int .i64 sb) ∧ w.heap.size + 1 < x.heap.size ∧ Below w.heap.size w x) (first | assumption | exact S0 _)
    (first | (go_at_call 10; refine (cap_yes _ _ k' c' _ H'.out h5' h6' C3.out C4.out).mono ?_; rintro e y ⟨rfl, hby⟩; have SY := grows_keep (by assumption) hby) | (go_at_call 12; refine (reads_yes _ _ _ (by first | exact H.out | exact H'.out)).mono ?_; rintro e y ⟨rfl, hby⟩; have SY := grows_keep (by assumption) hby) | (go_at_call 11; refine (awake_yes _).mono ?_; rintro e y ⟨rfl, hby⟩; have SY := grows_keep (by assumption) hby))
  clear d1 d2 d3 d4 e1 e2
  go_wp2_with fail
  go_ret
  exact ⟨rfl, SY.2.2.2.2.2⟩

theorem grows_any (za sa zb sb : Int) (w : World) (_ : (Lit.int .i64 za).wf = true) (_ : (Lit.int .i64 sa).wf = true) (_ : (Lit.int .i64 zb).wf = true) (_ : (Lit.int .i64 sb).wf = true) :
    Calls Try.prog 4 #[.agg #[.int .i64 za, .int .i64 sa], .agg #[.int .i64 zb, .int .i64 sb]] w fun e w' => e = .returned (.bool true) ∧ Below w.heap.size w w' := by
  cases h : mayB za sa
  · exact grows_a za sa zb sb w h
  cases h' : mayB zb sb
  · exact grows_b za sa zb sb w h h'
  by_cases h1 : zb < za ∨ za ≤ zb ∧ sb < sa
  · exact grows_c za sa zb sb w h h' h1
  · exact grows_d za sa zb sb (3 * za / 8) ((40 * (3 * za / 8 * sa - 2) - 64) / 44) (3 * zb / 8) ((40 * (3 * zb / 8 * sb - 2) - 64) / 44) w h h' (by omega) (by omega) (by omega) (by omega) (by omega) (by omega) (by omega) (by omega) (by omega) (by omega)
end Go.Proofs.Ytmcjlellgkjehaa
