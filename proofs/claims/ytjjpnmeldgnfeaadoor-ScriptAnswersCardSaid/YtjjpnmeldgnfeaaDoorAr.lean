/-
  The walk of the reference's Answer.
-/
import Derived.Test.YtjjpnmeldgnfeaaDoorAv
namespace Go.Proofs.YtjjpnmeldgnfeaaDoor
open Go Go.RowKit Go.Proofs.YtjjpnmeldgnfeaaDoor.PScriptTexts Go.Proofs.YtjjpnmeldgnfeaaDoorW.PrintWords
set_option maxRecDepth 100000

theorem boxes {w W : World} {k cd hh tm : Int} {v : Value} (p : Below (w.heap.size + 1) (w.alloc (.cells #[.int .i64 k, .int .i64 cd, .int .i64 hh, .int .i64 tm, v] 47)) W) :
    W.cell? ⟨w.heap.size, 0, none⟩ = some (.int .i64 k) ∧ W.cell? ⟨w.heap.size, 1, none⟩ = some (.int .i64 cd) ∧ W.cell? ⟨w.heap.size, 2, none⟩ = some (.int .i64 hh) ∧ W.cell? ⟨w.heap.size, 3, none⟩ = some (.int .i64 tm) ∧ W.cell? ⟨w.heap.size, 4, none⟩ = some v :=
  ⟨box_cell p 0 _ rfl, box_cell p 1 _ rfl, box_cell p 2 _ rfl, box_cell p 3 _ rfl, box_cell p 4 _ rfl⟩
set_option maxHeartbeats 16000000 in
theorem rans_any (k cd hh tm : Int) (A : Option Addr) (d : List Int) (c : Nat) (w : World) (ic : I64 cd) (ih : I64 hh) (it : I64 tm) (hR : RowB w A d c) (hm : InB d) (hl : d.length ≤ 3000) :
    Calls Tryd.prog 22 #[.agg #[.int .i64 k, .int .i64 cd, .int .i64 hh, .int .i64 tm, .slice A d.length c]] w fun e w' => e = .returned (.string (ba (ansP k cd hh tm d))) ∧ Below w.heap.size w w' := by
  have H1 := Lib.hid (fun w => rdec_any hh ih.1 ih.2 w)
  have H2 := Lib.hid (fun w => rdec_any cd ic.1 ic.2 w)
  have H3 := Lib.hid (fun w => rdec_any tm it.1 it.2 w)
  have l1 := itoa_len hh ih.1 ih.2
  have l2 := itoa_len cd ic.1 ic.2
  have l3 := itoa_len tm it.1 it.2
  have HW := Lib.hid (fun w => rword_any k w)
  have HR := Lib.hid hR
  have HM := Lib.hid hm
  have HT : Hid (ansW k cd hh tm d = if cd ≠ 0 then [ansW0 k, Lib.itoa hh, [101, 114, 114, 111, 114, 32] ++ Lib.itoa cd] else if k = 1 ∨ k = 4 then [ansW0 k, Lib.itoa hh, [111, 107]] ++ [[97, 116], Lib.itoa tm] else if k = 2 then [ansW0 k, Lib.itoa hh, [111, 107]] ++ chT d (chN d) else [ansW0 k, Lib.itoa hh, [111, 107]]) := Lib.hid rfl
  obtain ⟨w0, hw0⟩ : ∃ x, ansW0 k = x := ⟨_, rfl⟩
  have HW0 : Hid ((wordL k = [] → w0 = [111, 112]) ∧ (wordL k ≠ [] → w0 = wordL k)) := Lib.hid ⟨fun e => by rw [← hw0, ansW0, if_pos e], fun e => by rw [← hw0, ansW0, if_neg e]⟩
  rw [hw0] at HT
  have hwl : w0.length ≤ 10 := by
    rw [← hw0]; unfold ansW0 wordL
    repeat' split
    all_goals simp
  unfold ansP
  generalize Lib.itoa hh = i1 at H1 l1 HT
  generalize Lib.itoa cd = i2 at H2 l2 HT
  generalize Lib.itoa tm = i3 at H3 l3 HT
  generalize ansW k cd hh tm d = aw at HT
  generalize wordL k = wk at HW HW0
  clear hw0 hR hm ic ih it
  have hp := hap
  obtain ⟨eb, heb⟩ : ∃ b, wk.isEmpty = b := ⟨_, rfl⟩
  go_enter Tryd.func22, Tryd.ntmps22
  go_upto_if 9 with (go_at_call 32; refine (HW.out _).mono ?_; rintro e w1 ⟨rfl, b1⟩; have B1 := Lib.hid (below_next (Below.refl (w.heap.size + 1) (w.alloc (.cells #[.int .i64 k, .int .i64 cd, .int .i64 hh, .int .i64 tm, .slice A d.length c] 47))) b1); clear b1)
  go_cut [3] (fun s3 wx => s3 = .string (ba w0) ∧ Hid (Below (w.heap.size + 1) (w.alloc (.cells #[.int .i64 k, .int .i64 cd, .int .i64 hh, .int .i64 tm, .slice A d.length c] 47)) wx))
  case first => as_aux_lemma =>
    have HEB := Lib.hid heb
    clear heb
    cases eb
    · obtain rfl := HW0.out.2 (by rintro rfl; cases HEB.out)
      go_wp2_with fail
      go_meet
      exact ⟨rfl, B1⟩
    · obtain rfl := HW0.out.1 (List.isEmpty_iff.1 HEB.out)
      go_wp2_with fail
      go_meet
      exact ⟨rfl, B1⟩
  case rest => as_aux_lemma =>
    obtain ⟨rfl, B2⟩ := hcut
    clear HW HW0 heb B1
    obtain ⟨q0, q1, q2, q3, q4⟩ := boxes B2.out
    by_cases hcd : cd = 0
    · have e0 : (cd != 0) = false := by rw [hcd]; rfl
      by_cases hk1 : k = 1 ∨ k = 4
      · have HTA : Hid (joinW aw = w0 ++ 32 :: (i1 ++ 32 :: 111 :: 107 :: 32 :: 97 :: 116 :: 32 :: i3)) := Lib.hid (by rw [HT.out, if_neg (fun h => h hcd), if_pos hk1]; simp [joinW])
        clear hcd HT
        rcases hk1 with rfl | rfl
        all_goals
          go_wp2_with (first
            | (go_at_call 36; have _h3 := B3.out; clear _h3; refine (H3.out _).mono ?_; rintro e w4 ⟨rfl, b4⟩; have B4 := Lib.hid (below_next B3.out b4); clear b4)
            | (go_at_call 36; refine (H1.out _).mono ?_; rintro e w3 ⟨rfl, b3⟩; clear q0 q1 q2 q3 q4; have B3 := Lib.hid (below_next B2.out b3); obtain ⟨q0, q1, q2, q3, q4⟩ := boxes B3.out; clear b3))
          go_ret
          exact ⟨by rw [HTA.out]; rfl, below_up B4.out⟩
      · have q1' : (k == 1) = false := by rw [beq_eq_false_iff_ne]; exact fun h => hk1 (.inl h)
        have q4' : (k == 4) = false := by rw [beq_eq_false_iff_ne]; exact fun h => hk1 (.inr h)
        by_cases hk2 : k = 2
        · subst hk2
          have HTA : Hid (joinW aw = (w0 ++ 32 :: (i1 ++ [32, 111, 107])) ++ flW (chT d (chN d))) := Lib.hid (by rw [HT.out, if_neg (fun h => h hcd), if_neg hk1, if_pos rfl, join_more _ _ (by simp)]; simp [joinW])
          have HCN : Hid (chN d = (d.length + 39) / 40) := Lib.hid rfl
          have HBT : Hid ((w0 ++ 32 :: (i1 ++ [32, 111, 107])).length ≤ 100) := Lib.hid (by simp; omega)
          clear hcd HT hk1 q1' q4'
          go_wp2_with (go_at_call 36; refine (H1.out _).mono ?_; rintro e w3 ⟨rfl, b3⟩; clear q0 q1 q2 q3 q4; have B3 := Lib.hid (below_next B2.out b3); obtain ⟨q0, q1, q2, q3, q4⟩ := boxes B3.out; clear b3)
          clear q0 q1 q2 q3 q4 e0
          generalize w0 ++ 32 :: (i1 ++ [32, 111, 107]) = bt at *
          go_loopw [3, 4] (fun vs vi wr => ∃ (i j : Nat) (tl : List UInt8), j ≤ 3040 ∧ tl.length ≤ 100 + 82 * 76 ∧ vs = .string (ba tl) ∧ vi = .int .i64 (j : Int) ∧ Hid (j = 40 * i ∧ i ≤ chN d) ∧ Hid (tl = bt ++ flW (chT d i)) ∧ Hid (Below (w.heap.size + 1) (w.alloc (.cells #[.int .i64 2, .int .i64 cd, .int .i64 hh, .int .i64 tm, .slice A d.length c] 47)) wr)) (fun _ vi _ => d.length + 40 - (intOf vi).toNat)
          case atStart => exact ⟨0, 0, bt, by omega, by have := HBT.out; omega, rfl, rfl, Lib.hid ⟨rfl, Nat.zero_le _⟩, Lib.hid (by rw [show chT d 0 = [] from rfl]; simp [flW]), B3⟩
          case round =>
            clear B2 B3
            obtain ⟨i, j, tl, hj, htl, rfl, rfl, HI, HO, HB⟩ := hrel
            rename World => W
            have q4 := box_cell HB.out 4 (.slice A d.length c) (by rfl)
            by_cases hlt : j < d.length
            · obtain ⟨ad, hA, -⟩ := row_cell (HR.out.below (below_up HB.out)).1 j hlt
              subst hA
              have hcap := HR.out.2
              have hij := HI.out
              have hcn := HCN.out
              have HCH := Lib.hid (part_calls (HR.out.below (below_up HB.out)) HM.out i j hij.1 hlt 19 rbytes_any)
              have HSU := Lib.hid (chT_succ d i)
              have HI2 : Hid (j + 40 = 40 * (i + 1) ∧ i + 1 ≤ chN d) := Lib.hid ⟨by omega, by omega⟩
              have hcl : (bytesP (chunk d i)).length ≤ 81 := by have h1 := bytesP_len (chunk d i); have h2 := chunk_len d i; omega
              have HNL : Hid ((bt ++ flW (chT d (i + 1))).length ≤ 100 + 82 * 76) := Lib.hid (by rw [List.length_append]; have h1 := flW_len d (i + 1); have h2 := HBT.out; have h3 := HI2.out; omega)
              clear hij hcn HI
              generalize bytesP (chunk d i) = cb at HCH HSU hcl
              have HNE : Hid (tl ++ 32 :: cb = bt ++ flW (chT d (i + 1))) := Lib.hid (by rw [HO.out, HSU.out]; simp [flW])
              go_wp2_with (go_at_call 19; refine HCH.out.mono ?_; rintro e w4 ⟨rfl, b4⟩; have B4 := Lib.hid (below_next HB.out b4); clear b4)
              go_roundw
              case rel => exact ⟨i + 1, j + 40, tl ++ 32 :: cb, by omega, by rw [HNE.out]; exact HNL.out, rfl, by go_num, HI2, HNE, B4⟩
              case measure => simp [intOf]; omega
            · have hij := HI.out
              have hcn := HCN.out
              obtain rfl : i = chN d := by omega
              clear hij hcn HI
              go_wp2_with fail
              go_ret
              exact ⟨by rw [HTA.out, ← HO.out]; rfl, below_up HB.out⟩
        · have q2' : (k == 2) = false := by rw [beq_eq_false_iff_ne]; exact hk2
          have HTA : Hid (joinW aw = w0 ++ 32 :: (i1 ++ [32, 111, 107])) := Lib.hid (by rw [HT.out, if_neg (fun h => h hcd), if_neg hk1, if_neg hk2]; simp [joinW])
          clear hcd HT hk1 hk2
          go_wp2_with (go_at_call 36; refine (H1.out _).mono ?_; rintro e w3 ⟨rfl, b3⟩; clear q0 q1 q2 q3 q4; have B3 := Lib.hid (below_next B2.out b3); obtain ⟨q0, q1, q2, q3, q4⟩ := boxes B3.out; clear b3)
          go_ret
          exact ⟨by rw [HTA.out]; rfl, below_up B3.out⟩
    · have e0 : (cd != 0) = true := by rw [bne_iff_ne]; exact hcd
      have HTA : Hid (joinW aw = w0 ++ 32 :: (i1 ++ 32 :: 101 :: 114 :: 114 :: 111 :: 114 :: 32 :: i2)) := Lib.hid (by rw [HT.out, if_pos hcd]; simp [joinW])
      clear hcd HT
      go_wp2_with (first
        | (go_at_call 36; have _h3 := B3.out; clear _h3; refine (H2.out _).mono ?_; rintro e w4 ⟨rfl, b4⟩; have B4 := Lib.hid (below_next B3.out b4); clear b4)
        | (go_at_call 36; refine (H1.out _).mono ?_; rintro e w3 ⟨rfl, b3⟩; clear q0 q1 q2 q3 q4; have B3 := Lib.hid (below_next B2.out b3); obtain ⟨q0, q1, q2, q3, q4⟩ := boxes B3.out; clear b3))
      go_ret
      exact ⟨by rw [HTA.out]; rfl, below_up B4.out⟩
end Go.Proofs.YtjjpnmeldgnfeaaDoor
