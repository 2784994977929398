/-
  The walk of the reference's Text.
-/
import Derived.Test.YtjjpnmeldgnfeaaDoorStw
namespace Go.Proofs.YtjjpnmeldgnfeaaDoor
open Go Go.RowKit Go.Proofs.YtjjpnmeldgnfeaaDoor.PScriptTexts Go.Proofs.YtjjpnmeldgnfeaaDoorW.PrintWords
set_option maxRecDepth 100000

theorem below_b (w : World) (o : Obj) : Below (w.heap.size + 1) (w.alloc o) (w.alloc o) := Below.refl _ _
theorem hap (a b : List UInt8) : (⟨a.toArray⟩ ++ ⟨b.toArray⟩ : ByteArray) = ⟨(a ++ b).toArray⟩ := ba_append a b
set_option maxHeartbeats 1000000 in
theorem rtext_one (h lba len : Int) (A : Option Addr) (n c : Nat) (w : World) :
    Calls Tryd.prog 14 #[.agg #[.int .i64 1, .int .i64 h, .int .i64 lba, .int .i64 len, .slice A n c]] w fun e w' => e = .returned (.string (ba (textP 1 h lba len []))) ∧ Below w.heap.size w w' := by
  go_enter Tryd.func14, Tryd.ntmps14
  go_wp2_with fail
  go_ret
  exact ⟨rfl, (Below.refl _ _).alloc (Nat.le_refl _) _⟩
set_option maxHeartbeats 1000000 in
theorem rtext_none (k h lba len : Int) (A : Option Addr) (n c : Nat) (w : World) (h1 : k ≠ 1) (h2 : k ≠ 2) (h3 : k ≠ 3) (h4 : k ≠ 4) (h5 : k ≠ 5) :
    Calls Tryd.prog 14 #[.agg #[.int .i64 k, .int .i64 h, .int .i64 lba, .int .i64 len, .slice A n c]] w fun e w' => e = .returned (.string (ba [])) ∧ Below w.heap.size w w' := by
  have q1 : (k == 1) = false := by rw [beq_eq_false_iff_ne]; exact h1
  have q2 : (k == 2) = false := by rw [beq_eq_false_iff_ne]; exact h2
  have q3 : (k == 3) = false := by rw [beq_eq_false_iff_ne]; exact h3
  have q4 : (k == 4) = false := by rw [beq_eq_false_iff_ne]; exact h4
  have q5 : (k == 5) = false := by rw [beq_eq_false_iff_ne]; exact h5
  clear h1 h2 h3 h4 h5
  go_enter Tryd.func14, Tryd.ntmps14
  go_wp2_with fail
  go_ret
  exact ⟨rfl, (Below.refl _ _).alloc (Nat.le_refl _) _⟩
set_option maxHeartbeats 1000000 in
theorem rtext_four (h lba len : Int) (A : Option Addr) (n c : Nat) (w : World) (hh : I64 h) :
    Calls Tryd.prog 14 #[.agg #[.int .i64 4, .int .i64 h, .int .i64 lba, .int .i64 len, .slice A n c]] w fun e w' => e = .returned (.string (ba (textP 4 h lba len []))) ∧ Below w.heap.size w w' := by
  have HI := Lib.hid (fun w => rdec_any h hh.1 hh.2 w)
  have hil := itoa_len h hh.1 hh.2
  have HT : Hid (textP 4 h lba len [] = [99, 111, 109, 109, 105, 116, 32] ++ Lib.itoa h) := Lib.hid rfl
  generalize Lib.itoa h = it at HI hil HT
  have hp := hap
  go_enter Tryd.func14, Tryd.ntmps14
  go_wp2_with (go_at_call 36; refine (HI.out _).mono ?_; rintro e w1 ⟨rfl, b1⟩; have B1 := Lib.hid (below_next (below_b w _) b1); clear b1)
  go_ret
  exact ⟨by rw [HT.out]; rfl, below_up B1.out⟩
set_option maxHeartbeats 1000000 in
theorem rtext_five (h lba len : Int) (A : Option Addr) (n c : Nat) (w : World) (hh : I64 h) :
    Calls Tryd.prog 14 #[.agg #[.int .i64 5, .int .i64 h, .int .i64 lba, .int .i64 len, .slice A n c]] w fun e w' => e = .returned (.string (ba (textP 5 h lba len []))) ∧ Below w.heap.size w w' := by
  have HI := Lib.hid (fun w => rdec_any h hh.1 hh.2 w)
  have hil := itoa_len h hh.1 hh.2
  have HT : Hid (textP 5 h lba len [] = [97, 98, 111, 114, 116, 32] ++ Lib.itoa h) := Lib.hid rfl
  generalize Lib.itoa h = it at HI hil HT
  have hp := hap
  go_enter Tryd.func14, Tryd.ntmps14
  go_wp2_with (go_at_call 36; refine (HI.out _).mono ?_; rintro e w1 ⟨rfl, b1⟩; have B1 := Lib.hid (below_next (below_b w _) b1); clear b1)
  go_ret
  exact ⟨by rw [HT.out]; rfl, below_up B1.out⟩
set_option maxHeartbeats 4000000 in
theorem rtext_two (h lba len : Int) (A : Option Addr) (n c : Nat) (w : World) (hh : I64 h) (hb : I64 lba) (hl : I64 len) :
    Calls Tryd.prog 14 #[.agg #[.int .i64 2, .int .i64 h, .int .i64 lba, .int .i64 len, .slice A n c]] w fun e w' => e = .returned (.string (ba (textP 2 h lba len []))) ∧ Below w.heap.size w w' := by
  have H1 := Lib.hid (fun w => rdec_any h hh.1 hh.2 w)
  have H2 := Lib.hid (fun w => rdec_any lba hb.1 hb.2 w)
  have H3 := Lib.hid (fun w => rdec_any len hl.1 hl.2 w)
  have l1 : (ba (Lib.itoa h)).size ≤ 22 := itoa_len h hh.1 hh.2
  have l2 : (ba (Lib.itoa lba)).size ≤ 22 := itoa_len lba hb.1 hb.2
  have l3 : (ba (Lib.itoa len)).size ≤ 22 := itoa_len len hl.1 hl.2
  have HT : Hid (ba (textP 2 h lba len []) = ba [114, 101, 97, 100, 32] ++ ba (Lib.itoa h) ++ ba [32] ++ ba (Lib.itoa lba) ++ ba [32] ++ ba (Lib.itoa len)) := Lib.hid (by
    rw [ba_append, ba_append, ba_append, ba_append, ba_append]
    show ba ([114, 101, 97, 100] ++ 32 :: Lib.itoa h ++ 32 :: Lib.itoa lba ++ 32 :: Lib.itoa len) = _
    simp)
  generalize ba (Lib.itoa h) = i1 at H1 l1 HT
  generalize ba (Lib.itoa lba) = i2 at H2 l2 HT
  generalize ba (Lib.itoa len) = i3 at H3 l3 HT
  have d1 : (9223372036854775807 < 5 + i1.size) = False := eq_false (by omega)
  have d2 : (9223372036854775807 < 5 + i1.size + 1) = False := eq_false (by omega)
  have d3 : (9223372036854775807 < 5 + i1.size + 1 + i2.size) = False := eq_false (by omega)
  have d4 : (9223372036854775807 < 5 + i1.size + 1 + i2.size + 1) = False := eq_false (by omega)
  have d5 : (9223372036854775807 < 5 + i1.size + 1 + i2.size + 1 + i3.size) = False := eq_false (by omega)
  go_enter Tryd.func14, Tryd.ntmps14
  go_wp2_with fail
  go_region_held3 (fun w' => w'.cell? ⟨w.heap.size, 1, none⟩ = some (.int .i64 h) ∧ w'.cell? ⟨w.heap.size, 2, none⟩ = some (.int .i64 lba) ∧ w'.cell? ⟨w.heap.size, 3, none⟩ = some (.int .i64 len)) (go_keep)
    (first
      | (go_at_call_of 36 (Value.int .i64 h); refine (H1.out _).mono ?_; rintro e w1 ⟨rfl, b1⟩; have B1 := Lib.hid (below_next (below_b w _).drew b1); have k11 := box_cell B1.out 1 (.int .i64 h) (by rfl); have k12 := box_cell B1.out 2 (.int .i64 lba) (by rfl); have k13 := box_cell B1.out 3 (.int .i64 len) (by rfl); clear b1)
      | (go_at_call_of 36 (Value.int .i64 lba); refine (H2.out _).mono ?_; rintro e w2 ⟨rfl, b2⟩; have B2 := Lib.hid (below_next B1.out b2); have k21 := box_cell B2.out 1 (.int .i64 h) (by rfl); have k22 := box_cell B2.out 2 (.int .i64 lba) (by rfl); have k23 := box_cell B2.out 3 (.int .i64 len) (by rfl); clear b2)
      | (go_at_call_of 36 (Value.int .i64 len); refine (H3.out _).mono ?_; rintro e w3 ⟨rfl, b3⟩; have B3 := Lib.hid (below_next B2.out b3); have k31 := box_cell B3.out 1 (.int .i64 h) (by rfl); have k32 := box_cell B3.out 2 (.int .i64 lba) (by rfl); have k33 := box_cell B3.out 3 (.int .i64 len) (by rfl); clear b3))
  all_goals
    go_wp2_with fail
    go_ret
    exact ⟨by rw [HT.out]; rfl, below_up B3.out⟩
end Go.Proofs.YtjjpnmeldgnfeaaDoor
