/-
  The walks of internal/strconv.formatBits and of FormatUint at base 16.
-/
import Derived.Test.YtjepjheklnaidaaDoorShelf
import Derived.Test.YtjepjheklnaidaaDoorHexl
import Derived.Lib.ItoaMem
import Derived.Lib.ItoaWalk
import Derived.Lib.Hide
import Derived.RegionTactic
import Derived.LoopTactic
import Derived.Laws.BitsAllLaws
namespace Go.Proofs.YtjepjheklnaidaaDoor
open Go Go.RowKit Go.Sort Go.Lib
set_option maxRecDepth 100000

theorem tz64 (w : World) (h : w.cell? ⟨6, 15, none⟩ = some (.int .u8 4)) :
    Calls Tryd.prog 97 #[.int .u64 16] w fun e w' => e = .returned (.int .i64 4) ∧ w' = w := by
  go_enter Tryd.func97, Tryd.ntmps97
  have e15 : IntKind.u64.wrap (bits .and .u64 16 (IntKind.u64.wrap (-16)) * 285870213051353865) / 288230376151711744 = 15 := by decide
  go_wp2
  go_ret
  exact ⟨rfl, rfl⟩
theorem tz16 (w : World) (h : w.cell? ⟨6, 15, none⟩ = some (.int .u8 4)) :
    Calls Tryd.prog 90 #[.int .u64 16] w fun e w' => e = .returned (.int .i64 4) ∧ w' = w := by
  go_enter Tryd.func90, Tryd.ntmps90
  go_wp2_with (go_at_call 97; refine (tz64 _ h).mono ?_; rintro e w1 ⟨rfl, rfl⟩)
  go_ret
  exact ⟨rfl, rfl⟩

theorem and15 (u : Nat) (h : u < 18446744073709551616) : bits .and .u64 (u : Int) 15 = (u : Int) % 16 := by
  have h2 := u64_and_nat u 15 h (by decide)
  have e : ((15 : Nat) : Int) = 15 := rfl
  rw [e] at h2
  rw [h2, show (15 : Nat) = 2 ^ 4 - 1 from rfl, Nat.and_two_pow_sub_one_eq_mod]
  omega
theorem hd_at : ∀ d : Fin 16, ∀ h : d.1 < digits36.size, digits36[d.1] = hd d.1 := by decide +kernel
theorem idx36 (z : Int) (d : Nat) (hz : z = (d : Int)) (h : d < 16) (w : World) : (Instr.index 9 (.string Lib.digits36) (.int .u64 z)).run Tryd.prog w = .ok (.int .u8 (hdI d)) w := by
  subst hz
  have hs : d < digits36.size := by rw [digits36_size]; omega
  rw [run_index_string w 9 digits36 .u64 _ Tryd.underlying9, dif_pos ⟨by omega, by omega⟩]
  have e : ((d : Int)).toNat = d := by omega
  simp only [e]
  rw [hd_at ⟨d, h⟩ hs]; rfl

set_option maxHeartbeats 4000000 in
theorem formatBits (u0 : Nat) (hu0 : u0 < 18446744073709551616) (w : World) (htz : w.cell? ⟨6, 15, none⟩ = some (.int .u8 4)) :
    Calls Tryd.prog 74 #[.slice none 0 0, .int .u64 u0, .int .i64 16, .bool false, .bool false] w fun e w' => e = .returned (.tuple #[.slice none 0 0, .string ⟨(hexF 16 u0).toArray⟩]) ∧ Below w.heap.size w w' := by
  have hg : 6 < w.heap.size := by
    rcases Nat.lt_or_ge 6 w.heap.size with h | h
    · exact h
    · exfalso; rw [World.cell?, Array.getElem?_eq_none h] at htz; simp at htz
  have HTZ := Lib.hid htz
  have HG := Lib.hid hg
  clear htz hg
  have ei : bits .and .i64 16 15 = 0 := by decide
  go_enter Tryd.func74, Tryd.ntmps74
  go_name_bytes_deep 42 PM hPM
  clear hPM
  go_name_bytes_deep 30 DG hDG
  have eDG : DG = Lib.digits36 := by rw [← hDG]; decide +kernel
  subst eDG
  clear hDG
  go_wp2_with (first
    | (go_at_call 90; refine (tz16 _ (by first | exact HTZ.out | (rw [((Below.refl w.heap.size w).alloc (Nat.le_refl _) _).cell HG.out]; exact HTZ.out))).mono ?_; rintro e w1 ⟨rfl, rfl⟩)
    | go_in)
  go_name_world W0 hW0
  have hb0 : Below w.heap.size w W0 := by rw [← hW0]; exact (Below.refl w.heap.size w).alloc (Nat.le_refl _) _
  have hc0 : ∀ t, t < 65 → W0.cell? ⟨w.heap.size, t, none⟩ = some (.int .u8 0) ∧ W0.frozen? ⟨w.heap.size, t, none⟩ = false := by
    intro t ht
    rw [← hW0]
    refine ⟨?_, World.frozen?_alloc_new _ _ _ _⟩
    rw [World.cell?_alloc_new]
    change (Array.replicate 65 (Value.int .u8 0))[t]? = _
    rw [Array.getElem?_replicate, if_pos ht]
  have HB0 := Lib.hid hb0
  have HC0 := Lib.hid hc0
  clear hb0 hc0 hW0
  generalize hB : w.heap.size = B at *
  go_loopw [1, 13] (fun vu vi wr => ∃ (u k m : Nat) (l : List UInt8) (G : Nat → Int), vu = .int .u64 u ∧ vi = .int .i64 ((m + 1 : Nat) : Int) ∧ m + l.length = 64 ∧ k + l.length = 15 ∧ u < 16 ^ (k + 1) ∧ Hid (hexF 16 u0 = hexF (k + 1) u ++ l) ∧ Hid (Below B w wr) ∧ Hid (∀ t, t < 65 → wr.cell? ⟨B, t, none⟩ = some (.int .u8 (G t)) ∧ wr.frozen? ⟨B, t, none⟩ = false) ∧ Hid (∀ j (h : j < l.length), G (m + 1 + j) = (l[j].toNat : Int))) (fun vu _ _ => (RowKit.intOf vu).toNat)
  case atStart => exact ⟨u0, 15, 64, [], fun _ => 0, rfl, rfl, rfl, rfl, hu0, Lib.hid (by simp), HB0, HC0, Lib.hid (fun j h => absurd h (by simp))⟩
  case round =>
    obtain ⟨u, k, m, l, G, rfl, rfl, hml, hkl, huk, HE, HB, HC, HL⟩ := hrel
    rename World => W
    have hu64 : u < 18446744073709551616 := Nat.lt_of_lt_of_le huk (Nat.le_trans (Nat.pow_le_pow_right (by decide) (show k + 1 ≤ 16 by omega)) (by decide))
    have hc1 := (HC.out m (by omega)).1
    have hf1 := (HC.out m (by omega)).2
    have hm : m < 65 := by omega
    have hand := and15 u hu64
    by_cases h16 : 16 ≤ u
    · have hix := idx36 ((u : Int) % 16) (u % 16) (by omega) (by omega)
      have hlt : u % 16 < 16 := by omega
      have HK := Lib.hid huk
      have HKL := Lib.hid hkl
      clear huk hkl
      go_wp2
      go_roundw
      case rel =>
        obtain ⟨k, rfl⟩ : ∃ j, k = j + 1 := ⟨k - 1, by
          rcases k with _ | k
          · exact absurd HK.out (by simp; omega)
          · omega⟩
        obtain ⟨m, rfl⟩ : ∃ j, m = j + 1 := ⟨m - 1, by have := HKL.out; omega⟩
        have hs : (W.cell? ⟨B, m + 1, none⟩).isSome = true := by rw [hc1]; rfl
        refine ⟨u / 16, k, m, hd (u % 16) :: l, fun t => if t = m + 1 then hdI (u % 16) else G t, by go_num, by go_num, by simp only [List.length_cons]; omega, by have := HKL.out; simp only [List.length_cons]; omega, by rw [Nat.div_lt_iff_lt_mul (by omega)]; exact (Nat.pow_succ 16 (k + 1)) ▸ HK.out, Lib.hid (hexF_step HE.out h16), Lib.hid ?_, Lib.hid ?_, Lib.hid ?_⟩
        · first | exact HB.out.setCell (Nat.le_refl _) _ | exact (HB.out.setCell (Nat.le_refl _) _).drew
        · intro t ht
          refine ⟨?_, by simp [World.frozen?_setCell, (HC.out t ht).2]⟩
          dsimp only
          by_cases h : t = m + 1
          · subst h; rw [if_pos rfl]; simp [World.cell?_setCell_same' _ _ _ hs]
          · rw [if_neg h]
            have hne : (⟨B, m + 1, none⟩ : Addr) ≠ ⟨B, t, none⟩ := by intro hh; injection hh with _ h2; exact h h2.symm
            first | exact (World.cell?_setCell_other _ _ _ _ hne).trans (HC.out t ht).1 | (rw [World.cell?_drew]; exact (World.cell?_setCell_other _ _ _ _ hne).trans (HC.out t ht).1)
        · intro j hj
          dsimp only
          rcases j with _ | j
          · rw [if_pos (by omega)]; rfl
          · rw [if_neg (by omega)]
            have := HL.out j (by simp only [List.length_cons] at hj; omega)
            rw [List.getElem_cons_succ, ← this]; congr 1; omega
      case measure => simp [RowKit.intOf]; omega
    · have hix := idx36 (u : Int) u rfl (by omega)
      have hlt : u < 16 := by omega
      have HK := Lib.hid huk
      have HKL := Lib.hid hkl
      clear huk hkl
      have hm1 : m + 1 + l.length = 65 := by omega
      have hal : Tryd.prog.arrayLen 117 = 65 := by kernel_rfl
      have hsl : ∀ W, (Instr.sliceAt 117 (.pointer (some ⟨B, 0, none⟩)) (some (.int .i64 (m : Int))) none none).run Tryd.prog W = .ok (.slice (some ⟨B, m, none⟩) (l.length + 1) (l.length + 1)) W := fun W => by
        rw [run_sliceAt_array_l W 117 ⟨B, 0, none⟩ (by kernel_rfl) .i64 (m : Int) (by omega) (by rw [hal]; omega)]
        rw [hal]
        go_simp
        omega
      have hcv : (convert 51 9 (.slice (some ⟨B, m, none⟩) (l.length + 1) (l.length + 1))).run Tryd.prog (W.setCell ⟨B, m, none⟩ (.int .u8 (hdI u))) = .ok (.string ⟨(hd u :: l).toArray⟩) (W.setCell ⟨B, m, none⟩ (.int .u8 (hdI u))) := by
        have h := run_convert_bytes_back (P := Tryd.prog) (W.setCell ⟨B, m, none⟩ (.int .u8 (hdI u))) 51 9 5 ⟨B, m, none⟩ (l.length + 1) (hd u :: l) Tryd.underlying51 Tryd.underlying5 Tryd.underlying9 (fun j hj => by
          rw [Lib.add_plain]
          cases j with
          | zero => exact World.cell?_setCell_same' _ _ _ (by show (W.cell? ⟨B, m + 0, none⟩).isSome = true; rw [Nat.add_zero, hc1]; rfl)
          | succ i =>
            have hi : i < l.length := by simpa using hj
            rw [World.cell?_setCell_other _ _ _ _ (by simp), List.getElem_cons_succ, (HC.out (m + (i + 1)) (by omega)).1, ← HL.out i hi]
            congr 2; congr 1; omega)
        exact h
      clear hal
      go_wp2
      go_ret2
      refine ⟨?_, ?_⟩
      · rw [hexF_last HE.out (by omega)]; rfl
      · rw [hB]
        have hs := HB.out.setCell (p := ⟨B, m, none⟩) (Nat.le_refl _) (.int .u8 (hdI u))
        first | exact hs | exact hs.drew | exact hs.drew.drew

theorem formatUint (u0 : Nat) (hu0 : u0 < 18446744073709551616) (w : World) (htz : w.cell? ⟨6, 15, none⟩ = some (.int .u8 4)) :
    Calls Tryd.prog 53 #[.int .u64 u0, .int .i64 16] w fun e w' => e = .returned (.string ⟨(hexF 16 u0).toArray⟩) ∧ Below w.heap.size w w' := by
  have HTZ := Lib.hid htz
  clear htz
  go_enter Tryd.func53, Tryd.ntmps53
  go_wp2_with (go_at_call 74; refine (formatBits u0 hu0 _ HTZ.out).mono ?_; rintro e w1 ⟨rfl, hb⟩)
  go_ret
  exact ⟨rfl, hb⟩
theorem formatUint16 (u0 : Nat) (hu0 : u0 < 18446744073709551616) (w : World) (htz : w.cell? ⟨6, 15, none⟩ = some (.int .u8 4)) :
    Calls Tryd.prog 37 #[.int .u64 u0, .int .i64 16] w fun e w' => e = .returned (.string ⟨(hexF 16 u0).toArray⟩) ∧ Below w.heap.size w w' := by
  have HTZ := Lib.hid htz
  clear htz
  go_enter Tryd.func37, Tryd.ntmps37
  go_wp2_with (go_at_call 53; refine (formatUint u0 hu0 _ HTZ.out).mono ?_; rintro e w1 ⟨rfl, hb⟩)
  go_ret
  exact ⟨rfl, hb⟩
end Go.Proofs.YtjepjheklnaidaaDoor
