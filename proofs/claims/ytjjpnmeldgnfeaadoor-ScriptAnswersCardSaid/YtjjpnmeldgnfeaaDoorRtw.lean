/-
  The walk of the reference's Text at a write; its contract.
-/
import Derived.Test.YtjjpnmeldgnfeaaDoorRt
namespace Go.Proofs.YtjjpnmeldgnfeaaDoor
open Go Go.RowKit Go.Proofs.YtjjpnmeldgnfeaaDoor.PScriptTexts Go.Proofs.YtjjpnmeldgnfeaaDoorW.PrintWords
set_option maxRecDepth 100000

/-- The text of a write, as far as k puts. -/
def wrT (h : Int) (l : List S42) (k : Nat) : List UInt8 := [119, 114, 105, 116, 101, 32] ++ Lib.itoa h ++ putsP (l.take k)
theorem wrT_step (h : Int) (l : List S42) (k : Nat) (hk : k < l.length) : ba (wrT h l (k + 1)) = ba (wrT h l k) ++ ba [32] ++ ba (Lib.itoa l[k].f0) ++ ba [32] ++ ba (bytesP l[k].f1) := by
  rw [ba_append, ba_append, ba_append, ba_append]
  unfold wrT putsP
  rw [List.take_succ_eq_append_getElem hk, List.flatMap_append]
  simp
theorem lenSum_take : ∀ (l : List S42) (k : Nat), lenSum (l.take k) ≤ lenSum l
  | [], k => by simp
  | p :: r, 0 => by simp [lenSum]
  | p :: r, k + 1 => by
    have := lenSum_take r k
    simp only [List.take_succ_cons, lenSum, List.map_cons, List.sum_cons] at *
    omega
theorem wrT_len (h : Int) (l : List S42) (k : Nat) (hh : I64 h) (hok : PutsOk l) (hsm : l.length + lenSum l ≤ 200000) : (ba (wrT h l k)).size ≤ 10000000 := by
  show (wrT h l k).length ≤ _
  unfold wrT
  have h1 := itoa_len h hh.1 hh.2
  have h2 := putsP_len (l.take k) (fun p hp => hok p (List.mem_of_mem_take hp))
  have h3 := lenSum_take l k
  have h4 : (l.take k).length ≤ l.length := List.length_take_le' _ _
  rw [List.length_append, List.length_append]
  simp; omega

set_option maxHeartbeats 8000000 in
theorem rtext_three (h lba len : Int) (l : List S42) (A : Option Addr) (c : Nat) (w : World) (hh : I64 h) (hC : Kd.C k42 w A l.length l) (hok : PutsOk l) (hsm : l.length + lenSum l ≤ 200000) :
    Calls Tryd.prog 14 #[.agg #[.int .i64 3, .int .i64 h, .int .i64 lba, .int .i64 len, .slice A l.length c]] w fun e w' => e = .returned (.string (ba (textP 3 h lba len l))) ∧ Below w.heap.size w w' := by
  have HI := Lib.hid (fun w => rdec_any h hh.1 hh.2 w)
  have hil : (ba (Lib.itoa h)).size ≤ 22 := itoa_len h hh.1 hh.2
  have HTx : Hid (ba (textP 3 h lba len l) = if okPuts l = true then ba (wrT h l l.length) else ba []) := Lib.hid (by
    have e : wrT h l l.length = [119, 114, 105, 116, 101] ++ 32 :: Lib.itoa h ++ putsP l := by
      unfold wrT
      rw [List.take_length]; simp
    rw [e]
    show ba (if okPuts l = true then [119, 114, 105, 116, 101] ++ 32 :: Lib.itoa h ++ putsP l else []) = _
    split <;> rfl)
  have HW0 : Hid (ba [119, 114, 105, 116, 101, 32] ++ ba (Lib.itoa h) = ba (wrT h l 0)) := Lib.hid (by rw [ba_append]; simp [wrT, putsP])
  have HWL := Lib.hid (fun k => wrT_len h l k hh hok hsm)
  have HC := Lib.hid hC
  have HOK := Lib.hid hok
  have HLS := Lib.hid (lenSum_at l)
  clear hC hok
  generalize ba (Lib.itoa h) = it at HI hil HW0
  have d0 : (9223372036854775807 < 6 + it.size) = False := eq_false (by omega)
  go_enter Tryd.func14, Tryd.ntmps14
  go_wp2_with (go_at_call 36; refine (HI.out _).mono ?_; rintro e w1 ⟨rfl, b1⟩; have HB := Lib.hid (below_next (below_b w _) b1); clear b1)
  go_loopw [3, 4] (fun vs vi wr => ∃ k : Nat, k ≤ l.length ∧ vi = .int .i64 (k : Int) ∧ vs = .string (ba (wrT h l k)) ∧ Hid (Below (w.heap.size + 1) (w.alloc (.cells #[.int .i64 3, .int .i64 h, .int .i64 lba, .int .i64 len, .slice A l.length c] 24)) wr) ∧ Hid (okPuts (l.take k) = true)) (fun _ vi _ => l.length - (intOf vi).toNat)
  case atStart => exact ⟨0, Nat.zero_le _, rfl, congrArg Value.string HW0.out, HB, Lib.hid rfl⟩
  case round =>
    clear HB
    obtain ⟨k, hk, rfl, rfl, HB, HK⟩ := hrel
    rename World => W
    have kb4 := box_cell HB.out 4 (.slice A l.length c) (by rfl)
    by_cases hlt : k < l.length
    · obtain ⟨ad, A1, c1, hA, x0, x1, hl1, hC1⟩ := at_T42 HC.out (k : Int) (by omega) (by omega)
      rw [rdT_at l k hlt] at x0 x1 hl1 hC1
      rw [Int.toNat_natCast] at x0 x1
      have lt0 := World.block_lt_of_cell? w _ x0
      have lt1 := World.block_lt_of_cell? w _ x1
      have y0 := ((below_up HB.out).cell lt0).trans x0
      have y1 := ((below_up HB.out).cell lt1).trans x1
      subst hA
      have HR := Lib.hid (show RowB w A1 l[k].f1 c1 from ⟨hC1, hl1⟩)
      have X0 := Lib.hid (fun (W' : World) (hb : Below w.heap.size w W') => (hb.cell lt0).trans x0)
      have X1 := Lib.hid (fun (W' : World) (hb : Below w.heap.size w W') => (hb.cell (p := ⟨(ad.add (k * 2)).block, (ad.add (k * 2)).off + 1, none⟩) lt1).trans x1)
      clear x0 x1 hl1 hC1 lt0 lt1
      have hpk := HOK.out l[k] (List.getElem_mem hlt)
      have hls := HLS.out k hlt
      have HWS := Lib.hid (wrT_step h l k hlt)
      have hwl := HWL.out k
      have HON := Lib.hid (okPuts_not l k hlt)
      have HOS := Lib.hid (okPuts_step l k hlt HK.out)
      generalize l[k] = p at y0 y1 HR hpk hls HWS HON HOS X0 X1
      have HI2 := Lib.hid (fun w => rdec_any p.f0 hpk.1.1 hpk.1.2 w)
      have hi2 : (ba (Lib.itoa p.f0)).size ≤ 22 := itoa_len p.f0 hpk.1.1 hpk.1.2
      have HIN := Lib.hid hpk.2
      clear hpk
      by_cases h40 : p.f1.length = 40
      · have q40 : ((p.f1.length : Int) != 40) = false := by rw [bne_eq_false_iff_eq]; omega
        have H40 := Lib.hid h40
        have HB3 := Lib.hid (fun w (hr : RowB w A1 p.f1 c1) => rbytes_any A1 p.f1 c1 w hr HIN.out (by omega))
        have hb3 : (ba (bytesP p.f1)).size ≤ 81 := by have := bytesP_len p.f1; show (bytesP p.f1).length ≤ 81; omega
        clear h40
        generalize ba (Lib.itoa p.f0) = i2 at HI2 HWS hi2
        generalize ba (bytesP p.f1) = i3 at HB3 HWS hb3
        generalize ba (wrT h l k) = s0 at HWS hwl
        have d1 : (9223372036854775807 < s0.size + 1) = False := eq_false (by omega)
        have d2 : (9223372036854775807 < s0.size + 1 + i2.size) = False := eq_false (by omega)
        have d3 : (9223372036854775807 < s0.size + 1 + i2.size + 1) = False := eq_false (by omega)
        have d4 : (9223372036854775807 < s0.size + 1 + i2.size + 1 + i3.size) = False := eq_false (by omega)
        have g1 : (0 : Int) ≤ (k : Int) := by omega
        have g2 : (k : Int) < (l.length : Int) := by omega
        go_wp2_with fail
        go_region_held3 (fun w' => w'.cell? ⟨w.heap.size, 4, none⟩ = some (.slice (some ad) l.length c) ∧ w'.cell? (ad.add (k * 2)) = some (.int .i64 p.f0) ∧ w'.cell? ⟨(ad.add (k * 2)).block, (ad.add (k * 2)).off + 1, none⟩ = some (.slice A1 p.f1.length c1)) (go_keep)
          (first
            | (go_at_call 36; refine (HI2.out _).mono ?_; rintro e w2 ⟨rfl, b1⟩; have B1 := Lib.hid (below_next HB.out.drew b1); have k10 := box_cell B1.out 4 (.slice (some ad) l.length c) (by rfl); have k11 := X0.out _ (below_up B1.out); have k12 := X1.out _ (below_up B1.out); clear b1)
            | (go_at_call 19; refine (HB3.out _ (HR.out.below (below_up B1.out))).mono ?_; rintro e w3 ⟨rfl, b2⟩; have B2 := Lib.hid (below_next B1.out b2); have k20 := box_cell B2.out 4 (.slice (some ad) l.length c) (by rfl); have k21 := X0.out _ (below_up B2.out); have k22 := X1.out _ (below_up B2.out); clear b2))
        all_goals
          go_wp2_with fail
          go_roundw
          case rel => exact ⟨k + 1, by omega, by go_num, congrArg Value.string HWS.out.symm, B2, Lib.hid (HOS.out H40.out)⟩
          case measure => simp [intOf]; omega
      · have q40 : ((p.f1.length : Int) != 40) = true := by rw [bne_iff_ne]; omega
        go_wp2_with fail
        go_ret
        refine ⟨?_, below_up HB.out⟩
        rw [HTx.out, HON.out h40]; rfl
    · obtain rfl : k = l.length := by omega
      have HK2 := HK
      rw [List.take_length] at HK2
      go_wp2_with fail
      go_ret
      exact ⟨by rw [HTx.out, HK2.out]; rfl, below_up HB.out⟩
/-- The reference's Text, at every op whose puts are not too many. -/
theorem rtext_any (k h lba len : Int) (l : List S42) (A : Option Addr) (c : Nat) (w : World) (hh : I64 h) (hb : I64 lba) (hl : I64 len) (hC : Kd.C k42 w A l.length l) (hok : PutsOk l) (hsm : l.length + lenSum l ≤ 200000) :
    Calls Tryd.prog 14 #[.agg #[.int .i64 k, .int .i64 h, .int .i64 lba, .int .i64 len, .slice A l.length c]] w fun e w' => e = .returned (.string (ba (textP k h lba len l))) ∧ Below w.heap.size w w' := by
  by_cases h1 : k = 1
  · subst h1; exact rtext_one h lba len A _ c w
  · by_cases h2 : k = 2
    · subst h2; exact rtext_two h lba len A _ c w hh hb hl
    · by_cases h3 : k = 3
      · subst h3; exact rtext_three h lba len l A c w hh hC hok hsm
      · by_cases h4 : k = 4
        · subst h4; exact rtext_four h lba len A _ c w hh
        · by_cases h5 : k = 5
          · subst h5; exact rtext_five h lba len A _ c w hh
          · have e : textP k h lba len l = [] := by unfold textP; rw [if_neg h1, if_neg h2, if_neg h3, if_neg h4, if_neg h5]
            rw [e]
            exact rtext_none k h lba len A _ c w h1 h2 h3 h4 h5
end Go.Proofs.YtjjpnmeldgnfeaaDoor
