/-
  FtextSigns: the walk of the law: it returns true at every word, in a world where the start-up code's tables lie.
-/
import Derived.Test.YtjepjheklnaidaaDoorBack
namespace Go.Proofs.YtjepjheklnaidaaDoor
open Go Go.RowKit F64
set_option maxRecDepth 100000

@[go_sem] theorem run_neg_float (b : Nat) (w : World) : (Op.unary .neg (.float .f64 b)).run Tryd.prog w = .ok (.float .f64 (negW b)) w := by unfold negW; rfl

set_option maxHeartbeats 1000000 in
theorem signs_nan (v x : Nat) (w : World) (E : Env w) (hv : v < 2 ^ 64) (hx : bitsF v = x) (hn : isNaN x = true) :
    Calls Tryd.prog 7 #[.int .u64 (v : Int)] w fun e w' => e = .returned (.bool true) ∧ Below w.heap.size w w' := by
  have hlt : x < 2 ^ 64 := by rw [← hx]; exact bitsF_lt hv
  have f1 := fun w => rfrom_any v w hv
  rw [hx] at f1
  have t1 := Lib.hid (fun w => text_nan x w hn)
  have t2 := Lib.hid (fun w => text_nan (negW x) w (by rw [negW_opp hlt, isNaN_opp]; exact hn))
  have h1 := ord_self_nan hn
  clear hv hx hn hlt
  go_enter Tryd.func7, Tryd.ntmps7
  go_wp2_with (go_at_call 16; refine (f1 _).mono ?_)
  rintro e w1 ⟨rfl, rfl⟩
  go_wp2_with (go_at_call 14; refine (t1.out _).mono ?_)
  rintro e w1 ⟨rfl, b1⟩
  go_wp2_with (go_at_call 14; refine (t2.out _).mono ?_)
  rintro e w2 ⟨rfl, b2⟩
  go_wp2_with (go_at_call 8; refine (awake_any _ ((E.below b1).below b2)).mono ?_; rintro e w5 ⟨rfl, b5⟩)
  go_ret
  exact ⟨rfl, below_trans (below_trans b1 b2) b5⟩

set_option maxHeartbeats 1000000 in
theorem signs_num (v x : Nat) (tx ty : List UInt8) (s : Bool) (w : World) (E : Env w) (hv : v < 2 ^ 64) (hx : bitsF v = x) (hn : isNaN x = false) (h1 : textF x = tx) (h2 : textF (negW x) = ty) (hl : tx.length ≤ 110) (hl2 : ty.length ≤ 110)
    (q1 : (tx == 45 :: ty) = s) (q2 : (ty == 45 :: tx) = !s) :
    Calls Tryd.prog 7 #[.int .u64 (v : Int)] w fun e w' => e = .returned (.bool true) ∧ Below w.heap.size w w' := by
  have hlt : x < 2 ^ 64 := by rw [← hx]; exact bitsF_lt hv
  have f1 := fun w => rfrom_any v w hv
  rw [hx] at f1
  have t1 := Lib.hid (fun w E => text_any x hlt w E)
  have t2 := Lib.hid (fun w E => text_any (negW x) (negW_lt hlt) w E)
  rw [h1] at t1
  rw [h2] at t2
  have ho := ord_self_num hn
  have hap := ba_append
  clear hv hx hn hlt h1 h2
  cases s
  all_goals
    go_enter Tryd.func7, Tryd.ntmps7
    go_wp2_with (go_at_call 16; refine (f1 _).mono ?_)
    rintro e w1 ⟨rfl, rfl⟩
    go_wp2_with (go_at_call 14; refine (t1.out _ E).mono ?_)
    rintro e w1 ⟨rfl, b1⟩
    go_wp2_with (go_at_call 14; refine (t2.out _ (E.below b1)).mono ?_)
    rintro e w2 ⟨rfl, b2⟩
    go_wp2_with (go_at_call 8; refine (awake_any _ ((E.below b1).below b2)).mono ?_; rintro e w5 ⟨rfl, b5⟩)
    go_ret
    exact ⟨rfl, below_trans (below_trans b1 b2) b5⟩
theorem signs_walk (v : Nat) (hv : v < 2 ^ 64) (w : World) (E : Env w) :
    Calls Tryd.prog 7 #[.int .u64 (v : Int)] w fun e w' => e = .returned (.bool true) ∧ Below w.heap.size w w' := by
  have hlt := bitsF_lt hv
  cases hn : isNaN (bitsF v)
  · have e2 : negW (bitsF v) = opp (bitsF v) := negW_opp hlt
    have hn2 : isNaN (negW (bitsF v)) = false := by rw [e2, isNaN_opp]; exact hn
    have hl := textF_len (bitsF v)
    have hl2 := textF_len (negW (bitsF v))
    refine signs_num v _ _ _ (sgn (bitsF v)) w E hv rfl hn rfl rfl (by omega) (by omega) ?_ ?_
    · rw [textF_num hn, textF_num hn2, e2, sgn_opp, rg_opp]
      cases sgn (bitsF v)
      · rw [beq_eq_false_iff_ne]; intro h
        have := congrArg List.length h
        simp at this; omega
      · simp
    · rw [textF_num hn, textF_num hn2, e2, sgn_opp, rg_opp]
      cases sgn (bitsF v)
      · simp
      · rw [Bool.not_true, beq_eq_false_iff_ne]; intro h
        have := congrArg List.length h
        simp at this; omega
  · exact signs_nan v _ w E hv rfl hn
theorem signs_all (v : Int) (w : World) (E : Env w) (hv : (Lit.int .u64 v).wf = true) :
    Calls Tryd.prog 7 #[.int .u64 v] w fun e w' => e = .returned (.bool true) ∧ Below w.heap.size w w' := by
  obtain ⟨n, rfl, hn⟩ := u64_open hv
  exact signs_walk n hn w E
end Go.Proofs.YtjepjheklnaidaaDoor
