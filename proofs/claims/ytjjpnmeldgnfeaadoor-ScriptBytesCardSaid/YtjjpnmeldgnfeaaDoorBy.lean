/-
  The walk of the law ScriptBytes.
-/
import Derived.Test.YtjjpnmeldgnfeaaDoorAw
namespace Go.Proofs.YtjjpnmeldgnfeaaDoor
open Go Go.RowKit Go.Proofs.YtjjpnmeldgnfeaaDoor.PScriptTexts Go.Proofs.YtjjpnmeldgnfeaaDoorW.PrintWords
set_option maxRecDepth 100000

theorem alike_same (A0 A1 : Option Addr) (c0 c1 : Nat) (a : List Int) (w : World) (h0 : (Kd.int .u8).C w A0 a.length a) (h1 : (Kd.int .u8).C w A1 a.length a) (hl : a.length ≤ 140737488351232) :
    Calls Tryd.prog 20 #[.slice A0 a.length c0, .slice A1 a.length c1] w fun e w' => e = .returned (.bool true) ∧ Below w.heap.size w w' :=
  (alike_any A0 A1 c0 c1 a a w h0 h1 hl).mono fun _ _ h => ⟨by rw [h.1, decide_eq_true rfl], h.2⟩
set_option maxHeartbeats 4000000 in
theorem bytes_all (A : Option Addr) (l : List Int) (c : Nat) (s : ByteArray) (w : World) (E : Env w) (h : RowB w A l c) (hm : InB l) :
    Calls Tryd.prog 4 #[.slice A l.length c, .string s] w fun e w' => e = .returned (.bool true) ∧ Below w.heap.size w w' := by
  have HR := Lib.hid h
  have HM := Lib.hid hm
  have HA := Lib.hid (awake_any w E)
  clear h hm
  by_cases h1 : (l.length : Int) > 300
  · go_enter Tryd.func4, Tryd.ntmps4
    go_wp2_with (go_at_call 10; refine HA.out.mono ?_; rintro e w1 ⟨rfl, b1⟩)
    go_ret
    exact ⟨rfl, b1⟩
  · by_cases h2 : (s.size : Int) > 300
    · go_enter Tryd.func4, Tryd.ntmps4
      go_wp2_with (go_at_call 10; refine HA.out.mono ?_; rintro e w1 ⟨rfl, b1⟩)
      go_ret
      exact ⟨rfl, b1⟩
    · have HL : Hid (l.length ≤ 300) := Lib.hid (by omega)
      have HS := Lib.hid (fun w => sunb_any s w)
      have HU := Lib.hid (fun w => runb_any s w)
      have HUL := Lib.hid (unbP_ok s.data.toList).2
      have HB := Lib.hid (fun w hr => sbytes_any A l c w hr HM.out (by have := HL.out; omega))
      have HB2 := Lib.hid (fun w hr => rbytes_any A l c w hr HM.out (by have := HL.out; omega))
      generalize unbP s.data.toList = U at HS HU HUL
      obtain ⟨x, ok⟩ := U
      generalize bytesP l = tx at HB HB2
      dsimp only at HS HU HUL
      have e1 : ((ba tx).toList == (ba tx).toList) = true := by simp
      have e2 : (ok == ok) = true := by simp
      go_enter Tryd.func4, Tryd.ntmps4
      go_wp2_with (first
        | (go_at_call 16; refine (HS.out _).mono ?_; rintro e w1 ⟨v1, rfl, r1, b1⟩; obtain ⟨A1, c1, rfl, q1⟩ := row_of_R r1; have Q1 := Lib.hid q1; have B1 := Lib.hid b1; clear r1 q1 b1)
        | (go_at_call 17; refine (HU.out _).mono ?_; rintro e w2 ⟨v2, rfl, r2, b2⟩; obtain ⟨A2, c2, rfl, q2⟩ := row_of_R r2; have Q2 := Lib.hid q2; have P1 := Lib.hid (Q1.out.below b2); have B2 := Lib.hid (below_trans B1.out b2); clear r2 q2 b2)
        | (go_at_call 18; refine (HB.out _ (HR.out.below B2.out)).mono ?_; rintro e w3 ⟨rfl, b3⟩; have Q3 := Lib.hid (Q2.out.below b3); have P3 := Lib.hid (P1.out.below b3); have B3 := Lib.hid (below_trans B2.out b3); clear b3)
        | (go_at_call 19; refine (HB2.out _ (HR.out.below B3.out)).mono ?_; rintro e w4 ⟨rfl, b4⟩; have Q4 := Lib.hid (Q3.out.below b4); have P4 := Lib.hid (P3.out.below b4); have B4 := Lib.hid (below_trans B3.out b4); clear b4)
        | (go_at_call 20; refine (alike_same _ _ _ _ x _ P4.out.1 Q4.out.1 (by have := HUL.out; omega)).mono ?_; rintro e w5 ⟨rfl, b5⟩; have B5 := Lib.hid (below_trans B4.out b5); clear b5)
        | (go_at_call 10; refine (awake_any _ (E.below B5.out)).mono ?_; rintro e w6 ⟨rfl, b6⟩; have B6 := Lib.hid (below_trans B5.out b6); clear b6))
      go_ret
      exact ⟨rfl, B6.out⟩
end Go.Proofs.YtjjpnmeldgnfeaaDoor
