/-
  The walk of the law ScriptAnswers.
-/
import Derived.Test.YtjjpnmeldgnfeaaDoorAr
namespace Go.Proofs.YtjjpnmeldgnfeaaDoor
open Go Go.RowKit Go.Proofs.YtjjpnmeldgnfeaaDoor.PScriptTexts Go.Proofs.YtjjpnmeldgnfeaaDoorW.PrintWords
set_option maxRecDepth 100000

set_option maxHeartbeats 16000000 in
theorem answers_all (k cd hh tm : Int) (A : Option Addr) (d : List Int) (c : Nat) (w : World) (E : Env w) (_ : I64 k) (ic : I64 cd) (ih : I64 hh) (it : I64 tm) (hR : RowB w A d c) (hm : InB d) :
    Calls Tryd.prog 8 #[.agg #[.int .i64 k, .int .i64 cd, .int .i64 hh, .int .i64 tm, .slice A d.length c]] w fun e w' => e = .returned (.bool true) ∧ Below w.heap.size w w' := by
  have B0 : Hid (Below w.heap.size w (w.alloc (.cells #[.int .i64 k, .int .i64 cd, .int .i64 hh, .int .i64 tm, .slice A d.length c] 47))) := Lib.hid ((Below.refl _ _).alloc (Nat.le_refl _) _)
  by_cases g1 : (d.length : Int) > 3000
  · clear hR hm ic ih it
    go_enter Tryd.func8, Tryd.ntmps8
    go_wp2_with (go_at_call 10; refine (awake_any _ (E.below B0.out)).mono ?_; rintro e w2 ⟨rfl, b2⟩; have B2 := Lib.hid (below_trans B0.out b2); clear b2)
    go_ret
    exact ⟨rfl, B2.out⟩
  · have H1 := Lib.hid (fun W (b : Below w.heap.size w W) => sans_any k cd hh tm A d c W (E.below b) ic ih it (hR.below b) hm (by omega))
    have H2 := Lib.hid (fun W (b : Below w.heap.size w W) => rans_any k cd hh tm A d c W ic ih it (hR.below b) hm (by omega))
    generalize ansP k cd hh tm d = tx at H1 H2
    clear hR hm ic ih it
    have e1 : (tx == tx) = true := by simp
    have N0 : Hid (Below (w.heap.size + 1) (w.alloc (.cells #[.int .i64 k, .int .i64 cd, .int .i64 hh, .int .i64 tm, .slice A d.length c] 47)) (w.alloc (.cells #[.int .i64 k, .int .i64 cd, .int .i64 hh, .int .i64 tm, .slice A d.length c] 47)).drew) := Lib.hid (Below.refl _ _).drew
    go_enter Tryd.func8, Tryd.ntmps8
    go_upto_region 3 with fail
    obtain ⟨q0, q1, q2, q3, q4⟩ := boxes (Below.refl (w.heap.size + 1) (w.alloc (.cells #[.int .i64 k, .int .i64 cd, .int .i64 hh, .int .i64 tm, .slice A d.length c] 47)))
    go_region_held3 (fun w' => w'.cell? ⟨w.heap.size, 0, none⟩ = some (.int .i64 k) ∧ w'.cell? ⟨w.heap.size, 1, none⟩ = some (.int .i64 cd) ∧ w'.cell? ⟨w.heap.size, 2, none⟩ = some (.int .i64 hh) ∧ w'.cell? ⟨w.heap.size, 3, none⟩ = some (.int .i64 tm) ∧ w'.cell? ⟨w.heap.size, 4, none⟩ = some (.slice A d.length c)) (go_keep)
      (first
        | (go_at_call 21; refine (H1.out _ (below_up N0.out)).mono ?_; rintro e w2 ⟨rfl, b2⟩; clear q0 q1 q2 q3 q4; have N2 := Lib.hid (below_next N0.out b2); obtain ⟨q0, q1, q2, q3, q4⟩ := boxes N2.out; clear b2)
        | (go_at_call 22; refine (H2.out _ (below_up N2.out)).mono ?_; rintro e w3 ⟨rfl, b3⟩; clear q0 q1 q2 q3 q4; have N3 := Lib.hid (below_next N2.out b3); obtain ⟨q0, q1, q2, q3, q4⟩ := boxes N3.out; clear b3)
        | (go_at_call 10; refine (awake_any _ (E.below (below_up N3.out))).mono ?_; rintro e w4 ⟨rfl, b4⟩; clear q0 q1 q2 q3 q4; have N4 := Lib.hid (below_next N3.out b4); obtain ⟨q0, q1, q2, q3, q4⟩ := boxes N4.out; clear b4))
    all_goals
      go_wp2_with fail
      go_ret
      exact ⟨rfl, below_up N4.out⟩
end Go.Proofs.YtjjpnmeldgnfeaaDoor
