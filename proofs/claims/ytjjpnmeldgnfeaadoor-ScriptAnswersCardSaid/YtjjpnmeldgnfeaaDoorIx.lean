/-
  Which kind a word is: the function value of Parse, and slices.IndexFunc at it.
-/
import Derived.Test.YtjjpnmeldgnfeaaDoorRe
import Derived.Shelf.Abstract
namespace Go.Proofs.YtjjpnmeldgnfeaaDoor
open Go Go.RowKit Go.Proofs.YtjjpnmeldgnfeaaDoor.PScriptTexts Go.Proofs.YtjjpnmeldgnfeaaDoorW.PrintWords
set_option maxRecDepth 100000

/-- The kind that a word is of; 0: it is none. -/
def kindOf (x : List UInt8) : Nat := if wordL (1 : Nat) = x then 1 else if wordL (2 : Nat) = x then 2 else if wordL (3 : Nat) = x then 3 else if wordL (4 : Nat) = x then 4 else if wordL (5 : Nat) = x then 5 else 0
theorem kindOf_at (x : List UInt8) (k : Nat) (h1 : 1 ≤ k) (h5 : k ≤ 5) (h : wordL (k : Int) = x) (hn : ∀ j : Nat, 1 ≤ j → j < k → wordL (j : Int) ≠ x) : kindOf x = k := by
  unfold kindOf
  have hk : k = 1 ∨ k = 2 ∨ k = 3 ∨ k = 4 ∨ k = 5 := by omega
  rcases hk with rfl | rfl | rfl | rfl | rfl
  · rw [if_pos h]
  · rw [if_neg (hn 1 (by omega) (by omega)), if_pos h]
  · rw [if_neg (hn 1 (by omega) (by omega)), if_neg (hn 2 (by omega) (by omega)), if_pos h]
  · rw [if_neg (hn 1 (by omega) (by omega)), if_neg (hn 2 (by omega) (by omega)), if_neg (hn 3 (by omega) (by omega)), if_pos h]
  · rw [if_neg (hn 1 (by omega) (by omega)), if_neg (hn 2 (by omega) (by omega)), if_neg (hn 3 (by omega) (by omega)), if_neg (hn 4 (by omega) (by omega)), if_pos h]
theorem kindOf_none (x : List UInt8) (hn : ∀ j : Nat, 1 ≤ j → j < 6 → wordL (j : Int) ≠ x) : kindOf x = 0 := by
  unfold kindOf
  rw [if_neg (hn 1 (by omega) (by omega)), if_neg (hn 2 (by omega) (by omega)), if_neg (hn 3 (by omega) (by omega)), if_neg (hn 4 (by omega) (by omega)), if_neg (hn 5 (by omega) (by omega))]

set_option maxHeartbeats 1000000 in
theorem clos_any (x : List UInt8) (k : Int) (fb : Nat) (w : World) (hc : w.cell? ⟨fb, 0, none⟩ = some (.string (ba x))) :
    Calls Tryd.prog 27 #[.int .i64 k, .pointer (some ⟨fb, 0, none⟩)] w fun e w' => e = .returned (.bool (decide (wordL k = x))) ∧ ∃ q, w' = w.drewN q := by
  have hW := Lib.hid (fun w => (word_any k w).mono fun _ _ h => (⟨h.1, h.2.symm⟩ : _ ∧ _ = w))
  have HD := Lib.hid (beq_dec (wordL k) x)
  generalize wordL k = y at hW HD
  go_enter Tryd.func27, Tryd.ntmps27
  go_wp2_with fail
  go_quiet ((go_at_call 28; exact Calls.quiet_of_same (hW.out _)))
  go_wp2_with fail
  go_ret
  exact ⟨by rw [← HD.out]; rfl, _, rfl⟩

set_option maxHeartbeats 4000000 in
theorem kind_any (x : List UInt8) (fb sb : Nat) (w : World) (hc : w.cell? ⟨fb, 0, none⟩ = some (.string (ba x))) (hk : ∀ j : Nat, j < 5 → w.cell? ⟨sb, j, none⟩ = some (.int .i64 ((j : Int) + 1))) :
    Calls Tryd.prog 26 #[.slice (some ⟨sb, 0, none⟩) 5 5, .func (.func 27) #[] #[.pointer (some ⟨fb, 0, none⟩)]] w fun e w' => e = .returned (.int .i64 ((kindOf x : Int) - 1)) ∧ Below w.heap.size w w' := by
  have e27 : ∀ args w, (callFunc 27 args).run Tryd.prog w = .ok (.enter 27 args) w := enters_of Tryd.func27 (by kernel_rfl) rfl
  have HC := Lib.hid (fun (w' : World) (hb : Below w.heap.size w w') => cell_below hc hb)
  have HK := Lib.hid (fun (w' : World) (hb : Below w.heap.size w w') (j : Nat) (hj : j < 5) => cell_below (hk j hj) hb)
  have HA := Lib.hid (kindOf_at x)
  have HN := Lib.hid (kindOf_none x)
  clear hc hk
  go_enter Tryd.func26, Tryd.ntmps26
  go_wp2_with fail
  go_loopw [8] (fun vi wr => ∃ j : Nat, j ≤ 5 ∧ vi = .int .i64 (j : Int) ∧ Hid (∀ i : Nat, 1 ≤ i → i < j + 1 → wordL (i : Int) ≠ x) ∧ Hid (Below w.heap.size w wr)) (fun vi _ => 5 - (intOf vi).toNat)
  case atStart => exact ⟨0, by omega, rfl, Lib.hid (fun i h1 h2 => by omega), Lib.hid (Below.refl _ _)⟩
  case round =>
    obtain ⟨j, hj, rfl, HI, HB⟩ := hrel
    rename World => W
    by_cases hlt : j < 5
    · have kc := HK.out W HB.out j hlt
      have g1 : (0 : Int) ≤ (j : Int) := by omega
      have g2 : (j : Int) < 5 := by omega
      have HL := Lib.hid (clos_any x ((j : Int) + 1) fb W (HC.out W HB.out))
      obtain ⟨b, hb⟩ : ∃ b, decide (wordL ((j : Int) + 1) = x) = b := ⟨_, rfl⟩
      rw [hb] at HL
      have HB2 := Lib.hid hb
      clear hb
      cases b
      · go_wp2_with (go_at_fn 27; refine HL.out.mono ?_; rintro e w' ⟨rfl, q, rfl⟩)
        go_roundw
        case rel =>
          refine ⟨j + 1, by omega, by go_num, Lib.hid (fun i h1 h2 => ?_), Lib.hid (below_trans HB.out (below_drewN' _ _))⟩
          by_cases e : i = j + 1
          · subst e
            exact of_decide_eq_false HB2.out
          · exact HI.out i h1 (by omega)
        case measure => simp [intOf]; omega
      · go_wp2_with (go_at_fn 27; refine HL.out.mono ?_; rintro e w' ⟨rfl, q, rfl⟩)
        go_ret
        refine ⟨?_, below_trans HB.out (below_drewN' _ _)⟩
        have := HA.out (j + 1) (by omega) (by omega) (of_decide_eq_true HB2.out) (fun i h1 h2 => HI.out i h1 h2)
        rw [this]
        show Ending.returned (.int .i64 (j : Int)) = _
        congr 2; omega
    · obtain rfl : j = 5 := by omega
      go_wp2_with fail
      go_ret
      refine ⟨?_, HB.out⟩
      rw [HN.out (fun i h1 h2 => HI.out i h1 h2)]; rfl
end Go.Proofs.YtjjpnmeldgnfeaaDoor
