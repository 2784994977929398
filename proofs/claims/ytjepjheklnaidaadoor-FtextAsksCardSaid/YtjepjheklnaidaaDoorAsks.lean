/-
  FtextAsks: the walk of the law: it returns true at every number and every text, in a world where the start-up code's tables lie.
-/
import Derived.Test.YtjepjheklnaidaaDoorAskl
namespace Go.Proofs.YtjepjheklnaidaaDoor
open Go Go.RowKit F64
set_option maxRecDepth 100000

set_option maxHeartbeats 1000000 in
theorem asks_case (x : Nat) (s : ByteArray) (y : Nat) (c : Int) (w : World) (E : Env w) (hx : x < 2 ^ 64) (hs : s.size ≤ 500) (hyy : sameB y y = true)
    (hp : ∀ w, Env w → Calls Tryd.prog 12 #[.string s] w fun e w' => e = .returned (.tuple #[.float .f64 y, .int .i64 c]) ∧ Below w.heap.size w w')
    (hr : ∀ w, Calls Tryd.prog 13 #[.string s] w fun e w' => e = .returned (.tuple #[.float .f64 y, .int .i64 c]) ∧ Below w.heap.size w w') :
    Calls Tryd.prog 4 #[.float .f64 x, .string s] w fun e w' => e = .returned (.bool true) ∧ Below w.heap.size w w' := by
  have t1 := Lib.hid (fun w E => text_any x hx w E)
  have t2 := Lib.hid (fun w => rtext_any x hx w)
  have HP := Lib.hid hp
  have HR := Lib.hid hr
  have hd : ∀ b : List UInt8, (b == b) = true := fun b => by simp
  have hcc : (c == c) = true := by simp
  clear hp hr hx
  generalize textF x = tx at *
  have htt := hd tx
  clear hd
  go_enter Tryd.func4, Tryd.ntmps4
  go_wp2_with (go_at_call 12; refine (HP.out _ E).mono ?_)
  rintro e w1 ⟨rfl, b1⟩
  have E1 := E.below b1
  go_wp2_with (go_at_call 13; refine (HR.out _).mono ?_)
  rintro e w2 ⟨rfl, b2⟩
  have E2 := E1.below b2
  go_wp2_with (go_at_call 14; refine (t1.out _ E2).mono ?_)
  rintro e w3 ⟨rfl, b3⟩
  have E3 := E2.below b3
  go_wp2_with (go_at_call 15; refine (t2.out _).mono ?_)
  rintro e w4 ⟨rfl, b4⟩
  have E4 := E3.below b4
  go_wp2_with (first
    | (go_at_call 11; refine (rsame_any _ _ _).mono ?_; rintro e w3 ⟨rfl, rfl⟩)
    | (go_at_call 8; refine (awake_any _ E4).mono ?_; rintro e w5 ⟨rfl, b5⟩))
  go_ret
  exact ⟨rfl, below_trans (below_trans (below_trans (below_trans b1 b2) b3) b4) b5⟩

theorem asks_far (x : Nat) (s : ByteArray) (w : World) (E : Env w) (hs : 500 < s.size) :
    Calls Tryd.prog 4 #[.float .f64 x, .string s] w fun e w' => e = .returned (.bool true) ∧ Below w.heap.size w w' := by
  go_enter Tryd.func4, Tryd.ntmps4
  go_wp2_with (go_at_call 8; refine (awake_any _ E).mono ?_; rintro e w5 ⟨rfl, b5⟩)
  go_ret
  exact ⟨rfl, b5⟩

theorem asks_all (x : Nat) (s : ByteArray) (w : World) (E : Env w) (hx : (Lit.float .f64 x).wf = true) (_ : s.size ≤ maxLen) :
    Calls Tryd.prog 4 #[.float .f64 x, .string s] w fun e w' => e = .returned (.bool true) ∧ Below w.heap.size w w' := by
  have hx : x < 2 ^ 64 := by simpa [Lit.wf] using hx
  by_cases h : 500 < s.size
  · exact asks_far x s w E h
  · have h5 : s.size ≤ 500 := by omega
    by_cases hit : ∃ y, Norm y ∧ textF y = s.data.toList
    · obtain ⟨y, hy, hys⟩ := hit
      refine asks_case x s y 0 w E hx h5 (sameB_true.2 rfl) (fun w E => parse_hit s y hy hys.symm (by omega) w E) (fun w => ?_)
      have := rparse_any s h5 w
      rw [← hys, rpS_hit y hy] at this
      exact this
    · have hm : ∀ y, Norm y → textF y ≠ s.data.toList := fun y hy e => hit ⟨y, hy, e⟩
      refine asks_case x s 0 13 w E hx h5 (by decide +kernel) (fun w E => parse_miss s hm (by omega) w E) (fun w => ?_)
      have := rparse_any s h5 w
      rw [rpS_miss _ hm] at this
      exact this
end Go.Proofs.YtjepjheklnaidaaDoor
