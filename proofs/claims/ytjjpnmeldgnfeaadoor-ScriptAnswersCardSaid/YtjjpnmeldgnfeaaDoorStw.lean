/-
  The walk of script.Text at a write; the contract of script.Text.
-/
import Derived.Test.YtjjpnmeldgnfeaaDoorSt
namespace Go.Proofs.YtjjpnmeldgnfeaaDoor
open Go Go.RowKit Go.Proofs.YtjjpnmeldgnfeaaDoor.PScriptTexts Go.Proofs.YtjjpnmeldgnfeaaDoorW.PrintWords
set_option maxRecDepth 100000

/-- The words of a write, as far as k puts. -/
def wrW (h : Int) (l : List S42) (k : Nat) : List (List UInt8) := [wordL 3, Lib.itoa h] ++ putsW (l.take k)
theorem wrW_step (h : Int) (l : List S42) (k : Nat) (hk : k < l.length) : wrW h l (k + 1) = wrW h l k ++ [Lib.itoa l[k].f0, bytesP l[k].f1] := by
  unfold wrW putsW
  rw [List.take_succ_eq_append_getElem hk, List.flatMap_append, List.append_assoc]
  simp
theorem wrW_len (h : Int) (l : List S42) (k : Nat) (hk : k ≤ l.length) : (wrW h l k).length = 2 + 2 * k := by
  induction k with
  | zero => simp [wrW, putsW]
  | succ k ih => rw [wrW_step h l k (by omega), List.length_append, ih (by omega)]; simp; omega
theorem okPuts_step (l : List S42) (k : Nat) (hk : k < l.length) (h : okPuts (l.take k) = true) (h40 : l[k].f1.length = 40) : okPuts (l.take (k + 1)) = true := by
  unfold okPuts at *
  rw [List.take_succ_eq_append_getElem hk, List.all_append, h]
  simp [h40]
theorem okPuts_not (l : List S42) (k : Nat) (hk : k < l.length) (h40 : l[k].f1.length ≠ 40) : okPuts l = false := by
  unfold okPuts
  rw [List.all_eq_false]
  exact ⟨l[k], List.getElem_mem hk, by simpa using h40⟩
theorem putsP_len (l : List S42) (hok : PutsOk l) : (putsP l).length ≤ 30 * l.length + 2 * lenSum l := by
  induction l with
  | nil => simp [putsP]
  | cons p r ih =>
    have h1 := hok p (by simp)
    have := ih (fun q hq => hok q (by simp [hq]))
    have h2 := itoa_len p.f0 h1.1.1 h1.1.2
    have h3 := bytesP_len p.f1
    simp only [putsP, List.flatMap_cons, List.length_append, List.length_cons, lenSum, List.map_cons, List.sum_cons] at *
    omega
theorem lenSum_at : ∀ (l : List S42) (k : Nat) (hk : k < l.length), l[k].f1.length ≤ lenSum l
  | p :: r, 0, _ => by simp [lenSum]
  | p :: r, k + 1, hk => by
    have := lenSum_at r k (by simpa using hk)
    simp only [List.getElem_cons_succ, lenSum, List.map_cons, List.sum_cons] at *
    omega

set_option maxHeartbeats 8000000 in
theorem stext_three (h lba len : Int) (l : List S42) (A : Option Addr) (c : Nat) (w : World) (E : Env w) (hh : I64 h) (hC : Kd.C k42 w A l.length l) (hok : PutsOk l) (hsm : l.length + lenSum l ≤ 200000) :
    Calls Tryd.prog 13 #[.agg #[.int .i64 3, .int .i64 h, .int .i64 lba, .int .i64 len, .slice A l.length c]] w fun e w' => e = .returned (.string (ba (textP 3 h lba len l))) ∧ Below w.heap.size w w' := by
  have HI := Lib.hid (fun w E => itoa_any h hh.1 hh.2 w E)
  have hil := itoa_len h hh.1 hh.2
  have HTx : Hid (textP 3 h lba len l = if okPuts l = true then joinW (wrW h l l.length) else []) := Lib.hid (by
    have e : joinW (wrW h l l.length) = [119, 114, 105, 116, 101] ++ 32 :: Lib.itoa h ++ putsP l := by
      unfold wrW
      rw [join_puts _ _ (by simp), List.take_length]
      simp [joinW, wordL]
    rw [e]; rfl)
  have HJ : Hid ((joinW (wrW h l l.length)).length ≤ 100000000) := Lib.hid (by
    unfold wrW
    rw [join_puts _ _ (by simp), List.take_length, List.length_append]
    have := putsP_len l hok
    simp [joinW, wordL]; omega)
  have HW0 : Hid ([wordL 3] ++ [Lib.itoa h] = wrW h l 0) := Lib.hid (by simp [wrW, putsW])
  have HC := Lib.hid hC
  have HOK := Lib.hid hok
  have HLS := Lib.hid (lenSum_at l)
  clear hC hok
  generalize Lib.itoa h = it at HI hil HW0
  go_enter Tryd.func13, Tryd.ntmps13
  go_wp2_with (first
    | (go_at_call 28; refine (word_any _ _).mono ?_; rintro e w' ⟨rfl, rfl⟩)
    | (go_at_call 34; refine (HI.out _ (E.below (below_box w _ _))).mono ?_; rintro e w1 ⟨rfl, b1⟩; have HB := Lib.hid (below_next (Below.alloc (Below.refl _ _) (by simp) _) b1); have HO := Lib.hid ((own_boxn w _ [wordL 3] _ (by decide) rfl).below b1); have k14 := box_cell HB.out 4 (.slice A l.length c) (by rfl); clear b1)
    | (at_builtin; refine list_app (w.heap.size + 1) (by rfl) _ _ (by rfl) _ [wordL 3] [it] _ (by rfl) (by rfl) (by rfl) HO.out HB.out (by have := HB.out.size; simpa using this) (by simp) ?_; intro v1 w2 hown hb2 _; rw [HW0.out] at hown; have HO2 := Lib.hid hown; have HB2 := Lib.hid hb2; have k24 := box_cell HB2.out 4 (.slice A l.length c) (by rfl); clear hown hb2 k14))
  clear k24 HB HO
  go_loopw [3, 51] (fun vl vi wr => ∃ k : Nat, k ≤ l.length ∧ vi = .int .i64 (k : Int) ∧ Hid (OwnS wr (w.heap.size + 1) vl (wrW h l k)) ∧ Hid (Below (w.heap.size + 1) (w.alloc (.cells #[.int .i64 3, .int .i64 h, .int .i64 lba, .int .i64 len, .slice A l.length c] 24)) wr) ∧ Hid (okPuts (l.take k) = true)) (fun _ vi _ => l.length - (intOf vi).toNat)
  case atStart => exact ⟨0, Nat.zero_le _, rfl, HO2, HB2, Lib.hid rfl⟩
  case round =>
    obtain ⟨k, hk, rfl, HO, HB, HK⟩ := hrel
    rename World => W
    by_cases hlt : k < l.length
    · obtain ⟨ad, A1, c1, hA, x0, x1, hl1, hC1⟩ := at_T42 HC.out (k : Int) (by omega) (by omega)
      rw [rdT_at l k hlt] at x0 x1 hl1 hC1
      rw [Int.toNat_natCast] at x0 x1
      have y0 := ((below_up HB.out).cell (World.block_lt_of_cell? w _ x0)).trans x0
      have y1 := ((below_up HB.out).cell (World.block_lt_of_cell? w _ x1)).trans x1
      subst hA
      have HR := Lib.hid (show RowB w A1 l[k].f1 c1 from ⟨hC1, hl1⟩)
      clear x0 x1 hl1 hC1
      have hpk := HOK.out l[k] (List.getElem_mem hlt)
      have hls := HLS.out k hlt
      have HWS := Lib.hid (wrW_step h l k hlt)
      have HWL := Lib.hid (wrW_len h l k hk)
      have HON := Lib.hid (okPuts_not l k hlt)
      have HOS := Lib.hid (okPuts_step l k hlt HK.out)
      generalize l[k] = p at y0 y1 HR hpk hls HWS HON HOS
      have HI2 := Lib.hid (fun w E => itoa_any p.f0 hpk.1.1 hpk.1.2 w E)
      have HIN := Lib.hid hpk.2
      clear hpk
      by_cases h40 : p.f1.length = 40
      · have q40 : ((p.f1.length : Int) != 40) = false := by rw [bne_eq_false_iff_eq]; omega
        have H40 := Lib.hid h40
        clear h40
        generalize Lib.itoa p.f0 = i2 at HI2 HWS
        have B0 := Lib.hid ((HB.out.alloc (by have := HB.out.size; simpa using this) (.cells #[.int .i64 p.f0, .slice A1 p.f1.length c1] 42)).drew)
        have O0 := Lib.hid ((HO.out.alloc (.cells #[.int .i64 p.f0, .slice A1 p.f1.length c1] 42)).below (below_drew _))
        have P0 := Lib.hid ((Below.refl (W.heap.size + 1) (W.alloc (.cells #[.int .i64 p.f0, .slice A1 p.f1.length c1] 42))).drew)
        have HOL := Lib.hid (fun k hk => own_lt HO.out k hk)
        go_wp2_with fail
        go_region_held3 (fun w' => w'.cell? ⟨W.heap.size, 0, none⟩ = some (.int .i64 p.f0) ∧ w'.cell? ⟨W.heap.size, 1, none⟩ = some (.slice A1 p.f1.length c1)) (go_keep)
          (first
            | (go_at_call 34; refine (HI2.out _ (E.below (below_up B0.out))).mono ?_; rintro e w2 ⟨rfl, b1⟩; have B1 := Lib.hid (below_next B0.out b1); have O1 := Lib.hid (O0.out.below b1); have P1 := Lib.hid (below_next P0.out b1); have k10 := box_cell P1.out 0 (.int .i64 p.f0) (by rfl); have k11 := box_cell P1.out 1 (.slice A1 p.f1.length c1) (by rfl); clear b1)
            | (go_at_call 18; refine (sbytes_any A1 p.f1 c1 _ (HR.out.below (below_up B1.out)) HIN.out (by have := H40.out; omega)).mono ?_; rintro e w3 ⟨rfl, b2⟩; have B2 := Lib.hid (below_next B1.out b2); have O2 := Lib.hid (O1.out.below b2); have P2 := Lib.hid (below_next P1.out b2); have k20 := box_cell P2.out 0 (.int .i64 p.f0) (by rfl); have k21 := box_cell P2.out 1 (.slice A1 p.f1.length c1) (by rfl); clear b2)
            | (refine step_app (w.heap.size + 1) (by rfl) _ _ (by rfl) _ (wrW h l k) [i2, bytesP p.f1] _ (by rfl) (by rfl) (by rfl) O2.out B2.out (by have := B2.out.size; simpa using this) (by have := HWL.out; simp; omega) ?_; intro v4 w4 hown hb4 hg4; rw [← HWS.out] at hown; have O4 := Lib.hid hown; have B4 := Lib.hid hb4; have k30 := (hg4.cell_far ⟨W.heap.size, 0, none⟩ (by have := P2.out.size; simp at this; exact this) (fun he => Nat.lt_irrefl _ (HOL.out _ he.symm))).trans k20; have k31 := (hg4.cell_far ⟨W.heap.size, 1, none⟩ (by have := P2.out.size; simp at this; exact this) (fun he => Nat.lt_irrefl _ (HOL.out _ he.symm))).trans k21; clear hown hb4 hg4))
        all_goals
          go_wp2_with fail
          go_roundw
          case rel => exact ⟨k + 1, by omega, by go_num, O4, B4, Lib.hid (HOS.out H40.out)⟩
          case measure => simp [intOf]; omega
      · have q40 : ((p.f1.length : Int) != 40) = true := by rw [bne_iff_ne]; omega
        go_wp2_with fail
        go_ret
        refine ⟨?_, (below_up HB.out).trans ?_⟩
        · rw [HTx.out, HON.out h40]; rfl
        · exact (Below.refl _ _).mono (below_up HB.out).size |>.alloc (below_up HB.out).size _
    · obtain rfl : k = l.length := by omega
      have HJ2 := HJ
      have HO3 := HO
      have HK2 := HK
      rw [List.take_length] at HK2
      go_wp2_with (go_at_call 35; refine (join_any _ _ _ _ HO.out (by have := wrW_len h l l.length (Nat.le_refl _); omega) (by have := wrW_len h l l.length (Nat.le_refl _); omega) HJ.out).mono ?_; rintro e w5 ⟨rfl, b5⟩)
      go_ret
      exact ⟨by rw [HTx.out, HK2.out]; rfl, (below_up HB.out).trans (b5.mono (below_up HB.out).size)⟩
/-- script.Text, at every op whose puts are not too many. -/
theorem stext_any (k h lba len : Int) (l : List S42) (A : Option Addr) (c : Nat) (w : World) (E : Env w) (hh : I64 h) (hb : I64 lba) (hl : I64 len) (hC : Kd.C k42 w A l.length l) (hok : PutsOk l) (hsm : l.length + lenSum l ≤ 200000) :
    Calls Tryd.prog 13 #[.agg #[.int .i64 k, .int .i64 h, .int .i64 lba, .int .i64 len, .slice A l.length c]] w fun e w' => e = .returned (.string (ba (textP k h lba len l))) ∧ Below w.heap.size w w' := by
  by_cases h1 : k = 1
  · subst h1; exact stext_one h lba len A _ c w
  · by_cases h2 : k = 2
    · subst h2; exact stext_two h lba len A _ c w E hh hb hl
    · by_cases h3 : k = 3
      · subst h3; exact stext_three h lba len l A c w E hh hC hok hsm
      · by_cases h4 : k = 4
        · subst h4; exact stext_four h lba len A _ c w E hh
        · by_cases h5 : k = 5
          · subst h5; exact stext_five h lba len A _ c w E hh
          · have e : textP k h lba len l = [] := by unfold textP; rw [if_neg h1, if_neg h2, if_neg h3, if_neg h4, if_neg h5]
            rw [e]
            exact stext_none k h lba len A _ c w h1 h2 h3 h4 h5
end Go.Proofs.YtjjpnmeldgnfeaaDoor
