/-
  The walk of script.Text, kind by kind.
-/
import Derived.Test.YtjjpnmeldgnfeaaDoorSo
namespace Go.Proofs.YtjjpnmeldgnfeaaDoor
open Go Go.RowKit Go.Proofs.YtjjpnmeldgnfeaaDoor.PScriptTexts Go.Proofs.YtjjpnmeldgnfeaaDoorW.PrintWords
set_option maxRecDepth 100000

theorem own_box (w : World) (o : Obj) (ws : List (List UInt8)) (cs : Array Value) (hm : ws.length ≤ 1000000) (hcs : cs.toList = strsV ws) :
    OwnS ((w.alloc o).alloc (.cells cs 9)) w.heap.size (.slice (some ⟨w.heap.size + 1, 0, none⟩) ws.length ws.length) ws := by
  have := OwnS.lit (w.alloc o) w.heap.size ws (by simp) hm cs hcs
  simpa using this
theorem below_box (w : World) (o o2 : Obj) : Below w.heap.size w ((w.alloc o).alloc o2) := ((Below.refl _ _).alloc (Nat.le_refl _) _).alloc (by simp) _
theorem below_drew (w : World) : Below w.heap.size w w.drew := ⟨rfl, rfl, rfl, Nat.le_refl _, fun _ _ => rfl⟩
theorem own_box1 (w : World) (o : Obj) (ws : List (List UInt8)) (cs : Array Value) (hm : ws.length ≤ 1000000) (hcs : cs.toList = strsV ws) :
    OwnS (((w.alloc o).alloc (.cells cs 9)).drew) (w.heap.size + 1) (.slice (some ⟨w.heap.size + 1, 0, none⟩) ws.length ws.length) ws := by
  have := (OwnS.lit (w.alloc o) (w.heap.size + 1) ws (by simp) hm cs hcs).below (below_drew _)
  simpa using this
theorem own_boxn (w : World) (o : Obj) (ws : List (List UInt8)) (cs : Array Value) (hm : ws.length ≤ 1000000) (hcs : cs.toList = strsV ws) :
    OwnS ((w.alloc o).alloc (.cells cs 9)) (w.heap.size + 1) (.slice (some ⟨w.heap.size + 1, 0, none⟩) ws.length ws.length) ws := by
  have := OwnS.lit (w.alloc o) (w.heap.size + 1) ws (by simp) hm cs hcs
  simpa using this
theorem below_box1 (w : World) (o o2 : Obj) : Below (w.heap.size + 1) (w.alloc o) (((w.alloc o).alloc o2).drew) := by
  have h1 : Below (w.alloc o).heap.size (w.alloc o) ((w.alloc o).alloc o2) := (Below.refl _ _).alloc (Nat.le_refl _) _
  have h2 := below_trans h1 (below_drew _)
  simpa using h2
theorem below_up {w W : World} {o : Obj} (h : Below (w.heap.size + 1) (w.alloc o) W) : Below w.heap.size w W := ((Below.refl w.heap.size w).alloc (Nat.le_refl _) o).trans (h.mono (by omega))
theorem box_cell {w W : World} {cs : Array Value} {t : TypeId} (hb : Below (w.heap.size + 1) (w.alloc (.cells cs t)) W) (i : Nat) (v : Value) (hv : cs[i]? = some v) : W.cell? ⟨w.heap.size, i, none⟩ = some v := by
  rw [hb.cell (p := ⟨w.heap.size, i, none⟩) (Nat.lt_succ_self _), ← hv]
  exact cell_of_row _ w.heap.size i cs t (0, 0) (heap_alloc_new w _)
theorem below_next {w W w1 : World} {o : Obj} (h : Below (w.heap.size + 1) (w.alloc o) W) (b : Below W.heap.size W w1) : Below (w.heap.size + 1) (w.alloc o) w1 := h.trans (b.mono (by have := h.size; simpa using this))
theorem bcellN {B : Nat} {W w1 : World} (hb : Below B W w1) : ∀ b o, b < B → w1.cell? ⟨b, o, none⟩ = W.cell? ⟨b, o, none⟩ := fun b o h => hb.cell (p := ⟨b, o, none⟩) h
set_option maxHeartbeats 1000000 in
theorem stext_one (h lba len : Int) (A : Option Addr) (n c : Nat) (w : World) :
    Calls Tryd.prog 13 #[.agg #[.int .i64 1, .int .i64 h, .int .i64 lba, .int .i64 len, .slice A n c]] w fun e w' => e = .returned (.string (ba (textP 1 h lba len []))) ∧ Below w.heap.size w w' := by
  go_enter Tryd.func13, Tryd.ntmps13
  go_wp2_with (go_at_call 28; refine (word_any _ _).mono ?_; rintro e w' ⟨rfl, rfl⟩)
  go_ret
  exact ⟨rfl, ((Below.refl _ _).alloc (Nat.le_refl _) _).alloc (by simp) _⟩
set_option maxHeartbeats 1000000 in
theorem stext_none (k h lba len : Int) (A : Option Addr) (n c : Nat) (w : World) (h1 : k ≠ 1) (h2 : k ≠ 2) (h3 : k ≠ 3) (h4 : k ≠ 4) (h5 : k ≠ 5) :
    Calls Tryd.prog 13 #[.agg #[.int .i64 k, .int .i64 h, .int .i64 lba, .int .i64 len, .slice A n c]] w fun e w' => e = .returned (.string (ba [])) ∧ Below w.heap.size w w' := by
  have q1 : (k == 1) = false := by rw [beq_eq_false_iff_ne]; exact h1
  have q2 : (k == 2) = false := by rw [beq_eq_false_iff_ne]; exact h2
  have q3 : (k == 3) = false := by rw [beq_eq_false_iff_ne]; exact h3
  have q4 : (k == 4) = false := by rw [beq_eq_false_iff_ne]; exact h4
  have q5 : (k == 5) = false := by rw [beq_eq_false_iff_ne]; exact h5
  have e : wordL k = [] := by unfold wordL; rw [if_neg h1, if_neg h2, if_neg h3, if_neg h4, if_neg h5]
  have HW := Lib.hid (fun w => word_any k w)
  rw [e] at HW
  clear h1 h2 h3 h4 h5 e
  go_enter Tryd.func13, Tryd.ntmps13
  go_wp2_with (first
    | (go_at_call 28; refine (HW.out _).mono ?_; rintro e w' ⟨rfl, rfl⟩)
    | (go_at_call 35; refine (join_any _ [[]] w.heap.size _ (own_box w _ [[]] _ (by decide) rfl) (by decide) (by decide) (by decide)).mono ?_; rintro e w1 ⟨rfl, b1⟩))
  go_ret
  exact ⟨rfl, (below_box w _ _).trans (b1.mono (by simp; omega))⟩
theorem OwnS.grown {w w1 : World} {base : Nat} {v : Value} {ws : List (List UInt8)} (h : OwnS w base v ws) {row : Option Nat} (hg : w.grownBy w1 row) (hne : v.ownBlock = none ∨ v.ownBlock ≠ row) : OwnS w1 base v ws := own_other h hg hne
set_option maxHeartbeats 1000000 in
theorem stext_four (h lba len : Int) (A : Option Addr) (n c : Nat) (w : World) (E : Env w) (hh : I64 h) :
    Calls Tryd.prog 13 #[.agg #[.int .i64 4, .int .i64 h, .int .i64 lba, .int .i64 len, .slice A n c]] w fun e w' => e = .returned (.string (ba (textP 4 h lba len []))) ∧ Below w.heap.size w w' := by
  have HI := Lib.hid (fun w E => itoa_any h hh.1 hh.2 w E)
  have hil := itoa_len h hh.1 hh.2
  have HT : Hid (textP 4 h lba len [] = joinW ([wordL 4] ++ [Lib.itoa h])) := Lib.hid rfl
  generalize Lib.itoa h = it at HI hil HT
  have HJ : Hid ((joinW ([wordL 4] ++ [it])).length ≤ 100000000) := Lib.hid (by show (wordL 4 ++ 32 :: it).length ≤ _; rw [List.length_append, List.length_cons, show (wordL 4).length = 6 by decide]; omega)
  go_enter Tryd.func13, Tryd.ntmps13
  go_wp2_with (first
    | (go_at_call 28; refine (word_any _ _).mono ?_; rintro e w' ⟨rfl, rfl⟩)
    | (go_at_call 34; refine (HI.out _ (E.below (below_box w _ _))).mono ?_; rintro e w1 ⟨rfl, b1⟩; have HB := Lib.hid ((below_box w _ _).trans (b1.mono (show w.heap.size ≤ _ by simp; omega))); have HO := Lib.hid ((own_box w _ [wordL 4] _ (by decide) rfl).below b1); clear b1)
    | (at_builtin; refine list_app w.heap.size (by rfl) _ _ (by rfl) _ [wordL 4] [it] _ (by rfl) (by rfl) (by rfl) HO.out HB.out HB.out.size (by simp) ?_; intro v1 w2 hown hb2 _; have HO2 := Lib.hid hown; have HB2 := Lib.hid hb2; clear hown hb2)
    | (go_at_call 35; refine (join_any _ _ _ _ HO2.out (by simp) (by simp) HJ.out).mono ?_; rintro e w3 ⟨rfl, b3⟩))
  go_ret
  exact ⟨by rw [HT.out]; rfl, HB2.out.trans (b3.mono HB2.out.size)⟩
set_option maxHeartbeats 1000000 in
theorem stext_five (h lba len : Int) (A : Option Addr) (n c : Nat) (w : World) (E : Env w) (hh : I64 h) :
    Calls Tryd.prog 13 #[.agg #[.int .i64 5, .int .i64 h, .int .i64 lba, .int .i64 len, .slice A n c]] w fun e w' => e = .returned (.string (ba (textP 5 h lba len []))) ∧ Below w.heap.size w w' := by
  have HI := Lib.hid (fun w E => itoa_any h hh.1 hh.2 w E)
  have hil := itoa_len h hh.1 hh.2
  have HT : Hid (textP 5 h lba len [] = joinW ([wordL 5] ++ [Lib.itoa h])) := Lib.hid rfl
  generalize Lib.itoa h = it at HI hil HT
  have HJ : Hid ((joinW ([wordL 5] ++ [it])).length ≤ 100000000) := Lib.hid (by show (wordL 5 ++ 32 :: it).length ≤ _; rw [List.length_append, List.length_cons, show (wordL 5).length = 5 by decide]; omega)
  go_enter Tryd.func13, Tryd.ntmps13
  go_wp2_with (first
    | (go_at_call 28; refine (word_any _ _).mono ?_; rintro e w' ⟨rfl, rfl⟩)
    | (go_at_call 34; refine (HI.out _ (E.below (below_box w _ _))).mono ?_; rintro e w1 ⟨rfl, b1⟩; have HB := Lib.hid ((below_box w _ _).trans (b1.mono (show w.heap.size ≤ _ by simp; omega))); have HO := Lib.hid ((own_box w _ [wordL 5] _ (by decide) rfl).below b1); clear b1)
    | (at_builtin; refine list_app w.heap.size (by rfl) _ _ (by rfl) _ [wordL 5] [it] _ (by rfl) (by rfl) (by rfl) HO.out HB.out HB.out.size (by simp) ?_; intro v1 w2 hown hb2 _; have HO2 := Lib.hid hown; have HB2 := Lib.hid hb2; clear hown hb2)
    | (go_at_call 35; refine (join_any _ _ _ _ HO2.out (by simp) (by simp) HJ.out).mono ?_; rintro e w3 ⟨rfl, b3⟩))
  go_ret
  exact ⟨by rw [HT.out]; rfl, HB2.out.trans (b3.mono HB2.out.size)⟩
set_option maxHeartbeats 4000000 in
theorem stext_two (h lba len : Int) (A : Option Addr) (n c : Nat) (w : World) (E : Env w) (hh : I64 h) (hb : I64 lba) (hl : I64 len) :
    Calls Tryd.prog 13 #[.agg #[.int .i64 2, .int .i64 h, .int .i64 lba, .int .i64 len, .slice A n c]] w fun e w' => e = .returned (.string (ba (textP 2 h lba len []))) ∧ Below w.heap.size w w' := by
  have H1 := Lib.hid (fun w E => itoa_any h hh.1 hh.2 w E)
  have H2 := Lib.hid (fun w E => itoa_any lba hb.1 hb.2 w E)
  have H3 := Lib.hid (fun w E => itoa_any len hl.1 hl.2 w E)
  have l1 := itoa_len h hh.1 hh.2
  have l2 := itoa_len lba hb.1 hb.2
  have l3 := itoa_len len hl.1 hl.2
  have HT : Hid (textP 2 h lba len [] = joinW ([wordL 2] ++ [Lib.itoa h, Lib.itoa lba, Lib.itoa len])) := Lib.hid (by
    show [114, 101, 97, 100] ++ 32 :: Lib.itoa h ++ 32 :: Lib.itoa lba ++ 32 :: Lib.itoa len = joinW ([wordL 2] ++ [Lib.itoa h, Lib.itoa lba, Lib.itoa len])
    simp [joinW, wordL])
  generalize Lib.itoa h = i1 at H1 l1 HT
  generalize Lib.itoa lba = i2 at H2 l2 HT
  generalize Lib.itoa len = i3 at H3 l3 HT
  have HJ : Hid ((joinW ([wordL 2] ++ [i1, i2, i3])).length ≤ 100000000) := Lib.hid (by simp [joinW, wordL]; omega)
  go_enter Tryd.func13, Tryd.ntmps13
  go_wp2_with (go_at_call 28; refine (word_any _ _).mono ?_; rintro e w' ⟨rfl, rfl⟩)
  go_region_held3 (fun w' => w'.cell? ⟨w.heap.size, 1, none⟩ = some (.int .i64 h) ∧ w'.cell? ⟨w.heap.size, 2, none⟩ = some (.int .i64 lba) ∧ w'.cell? ⟨w.heap.size, 3, none⟩ = some (.int .i64 len)) (go_keep)
    (first
      | (go_at_call_of 34 (Value.int .i64 h); refine (H1.out _ (E.below (below_up (below_box1 w _ _)))).mono ?_; rintro e w1 ⟨rfl, b1⟩; have B1 := Lib.hid (below_next (below_box1 w _ _) b1); have O1 := Lib.hid ((own_box1 w _ [wordL 2] _ (by decide) rfl).below b1); have k11 := box_cell B1.out 1 _ (by rfl); have k12 := box_cell B1.out 2 _ (by rfl); have k13 := box_cell B1.out 3 _ (by rfl); clear b1)
      | (go_at_call_of 34 (Value.int .i64 lba); refine (H2.out _ (E.below (below_up B1.out))).mono ?_; rintro e w2 ⟨rfl, b2⟩; have B2 := Lib.hid (below_next B1.out b2); have O2 := Lib.hid (O1.out.below b2); have k21 := box_cell B2.out 1 _ (by rfl); have k22 := box_cell B2.out 2 _ (by rfl); have k23 := box_cell B2.out 3 _ (by rfl); clear b2)
      | (go_at_call_of 34 (Value.int .i64 len); refine (H3.out _ (E.below (below_up B2.out))).mono ?_; rintro e w3 ⟨rfl, b3⟩; have B3 := Lib.hid (below_next B2.out b3); have O3 := Lib.hid (O2.out.below b3); have k31 := box_cell B3.out 1 _ (by rfl); have k32 := box_cell B3.out 2 _ (by rfl); have k33 := box_cell B3.out 3 _ (by rfl); clear b3)
      | (refine step_app (w.heap.size + 1) (by rfl) _ _ (by rfl) _ [wordL 2] [i1, i2, i3] _ (by rfl) (by rfl) (by rfl) O3.out B3.out (by have := B3.out.size; simpa using this) (by simp) ?_; intro v1 w4 hown hb4 _; have HO := Lib.hid hown; have HB := Lib.hid hb4; have k41 := box_cell HB.out 1 _ (by rfl); have k42 := box_cell HB.out 2 _ (by rfl); have k43 := box_cell HB.out 3 _ (by rfl); clear hown hb4))
  all_goals
    go_wp2_with (go_at_call 35; refine (join_any _ _ _ _ HO.out (by simp) (by simp) HJ.out).mono ?_; rintro e w5 ⟨rfl, b5⟩)
    go_ret
    exact ⟨by rw [HT.out]; rfl, (below_up HB.out).trans (b5.mono (below_up HB.out).size)⟩
end Go.Proofs.YtjjpnmeldgnfeaaDoor
