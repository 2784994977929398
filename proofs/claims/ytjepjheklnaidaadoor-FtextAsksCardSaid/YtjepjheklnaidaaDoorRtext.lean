/-
  The walk of the reference's Text.
-/
import Derived.Test.YtjepjheklnaidaaDoorDec
import Derived.Test.YtjepjheklnaidaaDoorHexr
import Derived.LoopTactic
namespace Go.Proofs.YtjepjheklnaidaaDoor
open Go Go.RowKit F64
set_option maxRecDepth 100000

abbrev hex16 : ByteArray := ⟨#[48, 49, 50, 51, 52, 53, 54, 55, 56, 57, 97, 98, 99, 100, 101, 102]⟩
def HEX : ByteArray := hex16
theorem HEX_size : HEX.size = 16 := by decide +kernel
theorem HEX_at : ∀ d : Fin 16, ∀ h : d.1 < HEX.size, HEX[d.1] = hd d.1 := by decide +kernel
theorem idx16 (z : Int) (d : Nat) (hz : z = (d : Int)) (h : d < 16) (w : World) : (Instr.index 9 (.string HEX) (.int .u64 z)).run Tryd.prog w = .ok (.int .u8 (hdI d)) w := by
  subst hz
  have hs : d < HEX.size := by rw [HEX_size]; omega
  rw [run_index_string w 9 HEX .u64 _ Tryd.underlying9, dif_pos ⟨by omega, by omega⟩]
  have e : ((d : Int)).toNat = d := by omega
  simp only [e]
  rw [HEX_at ⟨d, h⟩ hs]; rfl
theorem conv_one (d : Nat) (W : World) : (convert 51 9 (.slice (some ⟨W.heap.size, 0, none⟩) 1 1)).run Tryd.prog (W.alloc (.cells #[.int .u8 (hdI d)] 5)) = .ok (.string ⟨[hd d].toArray⟩) (W.alloc (.cells #[.int .u8 (hdI d)] 5)) :=
  run_convert_bytes_back (P := Tryd.prog) _ 51 9 5 ⟨W.heap.size, 0, none⟩ 1 [hd d] Tryd.underlying51 Tryd.underlying5 Tryd.underlying9 (fun j hj => by
    match j, hj with
    | 0, _ => simp [Addr.add]; rfl)
theorem and_shift (f : Nat) (hf : f < 2 ^ 52) : bits .and .u64 (IntKind.u64.wrap ((f : Int) * 16)) 4503599627370495 = ((f * 16 % 2 ^ 52 : Nat) : Int) := by
  have e : IntKind.u64.wrap ((f : Int) * 16) = ((f * 16 : Nat) : Int) := by rw [IntKind.wrap_u64]; omega
  have h := u64_and_nat (f * 16) 4503599627370495 (by omega) (by decide)
  have e2 : ((4503599627370495 : Nat) : Int) = 4503599627370495 := rfl
  rw [e2] at h
  rw [e, h, show (4503599627370495 : Nat) = 2 ^ 52 - 1 from rfl, Nat.and_two_pow_sub_one_eq_mod]

/-- One digit of the loop. -/
theorem shift_step {u k j F : Nat} (hF : F = u * 16 ^ j) (hkj : k + 1 + j = 13) (hu : u < 16 ^ (k + 1)) : F / 281474976710656 = u / 16 ^ k ∧ F * 16 % 2 ^ 52 = u % 16 ^ k * 16 ^ (j + 1) ∧ F < 2 ^ 52 ∧ u / 16 ^ k < 16 := by
  have hp : 0 < 16 ^ k := Nat.pow_pos (by omega)
  have e1 : 281474976710656 = 16 ^ k * 16 ^ j := by rw [← Nat.pow_add, show k + j = 12 by omega]
  have e2 : 2 ^ 52 = 16 ^ k * 16 ^ (j + 1) := by rw [← Nat.pow_add, show k + (j + 1) = 13 by omega]
  refine ⟨?_, ?_, ?_, ?_⟩
  · rw [hF, e1, Nat.mul_div_mul_right _ _ (Nat.pow_pos (by omega))]
  · rw [hF, e2, Nat.mul_assoc, ← Nat.pow_succ, Nat.mul_mod_mul_right]
  · rw [hF, show 2 ^ 52 = 16 ^ (k + 1) * 16 ^ j by rw [← Nat.pow_add, hkj]]
    exact Nat.mul_lt_mul_of_pos_right hu (Nat.pow_pos (by omega))
  · rw [Nat.div_lt_iff_lt_mul hp]; rw [Nat.pow_succ, Nat.mul_comm] at hu; exact hu
def strSize : Value → Nat
  | .string b => b.size
  | _ => 0

set_option maxHeartbeats 4000000 in
theorem rtext_num (x m f e : Nat) (s ez : Bool) (w : World) (hb : bitsF x = x) (hm : bits .andNot .u64 (x : Int) 9223372036854775808 = (m : Int)) (h1 : decide (9218868437227405312 < (m : Int)) = false)
    (h2 : (bits .and .u64 (x : Int) 9223372036854775808 != 0) = s) (h3 : ((m : Int) == 9218868437227405312) = false) (h4 : ((m : Int) == 0) = false) (he : (m : Int) / 4503599627370496 = (e : Int)) (he2 : e < 2047)
    (h5 : ((e : Int) - 1023 == -1023) = ez) (hf : bits .and .u64 (m : Int) 4503599627370495 = (f : Int)) (hf0 : ((f : Int) != 0) = true) (hf2 : f < 4503599627370496) :
    Calls Tryd.prog 15 #[.float .f64 x] w fun e' w' => e' = .returned (.string ⟨((if s = true then [45] else []) ++ ((if ez = true then [48] else [49]) ++ 46 :: hexT f) ++ 112 :: Lib.itoa (if ez = true then -1022 else (e : Int) - 1023)).toArray⟩) ∧ Below w.heap.size w w' := by
  have hap := ba_append
  have HF0 := Lib.hid hf2
  cases s <;> cases ez
  case false.false =>
    have HIT := Lib.hid (fun w => dec_any ((e : Int) - 1023) (by omega) (by omega) w)
    have hil := itoa_len ((e : Int) - 1023) (by omega) (by omega)
    generalize hi0 : Lib.itoa ((e : Int) - 1023) = it at HIT hil
    have HI0 := Lib.hid hi0
    clear hi0
    go_enter Tryd.func15, Tryd.ntmps15
    go_name_bytes_deep 18 HX hHX
    have eHX : HX = HEX := by rw [← hHX]; rfl
    subst eHX
    clear hHX
    go_wp2_with (go_at_call 21; refine (rbits_any _ _).mono ?_; rintro e w1 ⟨rfl, rfl⟩; rw [hb])
    go_loopw [5, 7] (fun vs vf wr => ∃ (u k j F : Nat) (l : List UInt8), vf = .int .u64 (F : Int) ∧ vs = .string ⟨(49 :: 46 :: l).toArray⟩ ∧ k + j = 13 ∧ l.length ≤ j ∧ Hid (F = u * 16 ^ j) ∧ Hid (u < 16 ^ k) ∧ Hid (hexT f = l ++ trim (hexN k u)) ∧ Hid (Below w.heap.size w wr)) (fun vs _ _ => 40 - strSize vs)
    case atStart => exact ⟨f, 13, 0, f, [], rfl, rfl, rfl, Nat.le_refl _, Lib.hid (by simp), Lib.hid (by rw [show (16 : Nat) ^ 13 = 2 ^ 52 by decide]; exact HF0.out), Lib.hid (by rw [hexT_trim]; rfl), Lib.hid (Below.refl _ _)⟩
    case round =>
      obtain ⟨u, k, j, F, l, rfl, rfl, hkj, hlj, HF, HU, HT, HB⟩ := hrel
      rename World => W
      have sz : ∀ l : List UInt8, (⟨l.toArray⟩ : ByteArray).size = l.length := fun l => by rw [Lib.size_eq]
      by_cases hu : u = 0
      · have hFz : F = 0 := by rw [HF.out, hu, Nat.zero_mul]
        subst hFz
        have hT : hexT f = l := by rw [HT.out, hu, hexN_zero, trim_noughts, List.append_nil]
        have HT2 := Lib.hid hT
        have hl13 : l.length ≤ 13 := by omega
        clear hT HT
        go_wp2_with (go_at_call 27; refine (HIT.out _).mono ?_; rintro e w2 ⟨rfl, b2⟩)
        go_ret
        refine ⟨?_, HB.out.trans (b2.mono HB.out.size)⟩
        rw [HT2.out]
        simp [HI0.out]
      · obtain ⟨k, rfl⟩ : ∃ i, k = i + 1 := ⟨k - 1, by
          rcases k with _ | k
          · have := HU.out; simp at this; omega
          · omega⟩
        obtain ⟨s1, s2, s3, s4⟩ := shift_step HF.out hkj HU.out
        have hFn : ((F : Int) != 0) = true := by
          rw [bne_iff_ne]
          have : F ≠ 0 := by rw [HF.out]; exact Nat.mul_ne_zero hu (Nat.pos_iff_ne_zero.1 (Nat.pow_pos (by omega)))
          omega
        have hix := idx16 ((F : Int) / 281474976710656) (u / 16 ^ k) (by rw [← s1]; omega) s4
        have hand := and_shift F s3
        rw [show IntKind.u64.wrap ((F : Int) * 16) = (F : Int) * 16 by rw [IntKind.wrap_u64]; omega] at hand
        have hcv := conv_one (u / 16 ^ k)
        have hl : l.length ≤ 13 := by omega
        have HT3 := Lib.hid (show hexT f = l ++ (hd (u / 16 ^ k) :: trim (hexN k (u % 16 ^ k))) by rw [HT.out, trim_first k u HU.out hu])
        have HM := Lib.hid (Nat.mod_lt u (show 0 < 16 ^ k from Nat.pow_pos (by omega)))
        have HS2 := Lib.hid s2
        have HA := Lib.hid hand
        clear s2 HT HF
        generalize hd0 : u / 16 ^ k = d at *
        go_wp2_with fail
        refine ⟨⟨u % 16 ^ k, k, j + 1, F * 16 % 2 ^ 52, l ++ [hd d], ?_, rfl, by omega, by simp; omega, HS2, HM, Lib.hid (by rw [HT3.out]; simp), Lib.hid (HB.out.alloc HB.out.size _)⟩, ?_⟩
        · first | rfl | (rw [HA.out])
        · show 40 - (⟨_⟩ : ByteArray).size < 40 - (⟨_⟩ : ByteArray).size
          rw [sz, sz]; simp; omega
  case false.true =>
    have HIT := Lib.hid (fun w => dec_any (-1022) (by omega) (by omega) w)
    have hil := itoa_len (-1022) (by omega) (by omega)
    generalize hi0 : Lib.itoa (-1022) = it at HIT hil
    have HI0 := Lib.hid hi0
    clear hi0
    go_enter Tryd.func15, Tryd.ntmps15
    go_name_bytes_deep 18 HX hHX
    have eHX : HX = HEX := by rw [← hHX]; rfl
    subst eHX
    clear hHX
    go_wp2_with (go_at_call 21; refine (rbits_any _ _).mono ?_; rintro e w1 ⟨rfl, rfl⟩; rw [hb])
    go_loopw [5, 7] (fun vs vf wr => ∃ (u k j F : Nat) (l : List UInt8), vf = .int .u64 (F : Int) ∧ vs = .string ⟨(48 :: 46 :: l).toArray⟩ ∧ k + j = 13 ∧ l.length ≤ j ∧ Hid (F = u * 16 ^ j) ∧ Hid (u < 16 ^ k) ∧ Hid (hexT f = l ++ trim (hexN k u)) ∧ Hid (Below w.heap.size w wr)) (fun vs _ _ => 40 - strSize vs)
    case atStart => exact ⟨f, 13, 0, f, [], rfl, rfl, rfl, Nat.le_refl _, Lib.hid (by simp), Lib.hid (by rw [show (16 : Nat) ^ 13 = 2 ^ 52 by decide]; exact HF0.out), Lib.hid (by rw [hexT_trim]; rfl), Lib.hid (Below.refl _ _)⟩
    case round =>
      obtain ⟨u, k, j, F, l, rfl, rfl, hkj, hlj, HF, HU, HT, HB⟩ := hrel
      rename World => W
      have sz : ∀ l : List UInt8, (⟨l.toArray⟩ : ByteArray).size = l.length := fun l => by rw [Lib.size_eq]
      by_cases hu : u = 0
      · have hFz : F = 0 := by rw [HF.out, hu, Nat.zero_mul]
        subst hFz
        have hT : hexT f = l := by rw [HT.out, hu, hexN_zero, trim_noughts, List.append_nil]
        have HT2 := Lib.hid hT
        have hl13 : l.length ≤ 13 := by omega
        clear hT HT
        go_wp2_with (go_at_call 27; refine (HIT.out _).mono ?_; rintro e w2 ⟨rfl, b2⟩)
        go_ret
        refine ⟨?_, HB.out.trans (b2.mono HB.out.size)⟩
        rw [HT2.out]
        simp [HI0.out]
      · obtain ⟨k, rfl⟩ : ∃ i, k = i + 1 := ⟨k - 1, by
          rcases k with _ | k
          · have := HU.out; simp at this; omega
          · omega⟩
        obtain ⟨s1, s2, s3, s4⟩ := shift_step HF.out hkj HU.out
        have hFn : ((F : Int) != 0) = true := by
          rw [bne_iff_ne]
          have : F ≠ 0 := by rw [HF.out]; exact Nat.mul_ne_zero hu (Nat.pos_iff_ne_zero.1 (Nat.pow_pos (by omega)))
          omega
        have hix := idx16 ((F : Int) / 281474976710656) (u / 16 ^ k) (by rw [← s1]; omega) s4
        have hand := and_shift F s3
        rw [show IntKind.u64.wrap ((F : Int) * 16) = (F : Int) * 16 by rw [IntKind.wrap_u64]; omega] at hand
        have hcv := conv_one (u / 16 ^ k)
        have hl : l.length ≤ 13 := by omega
        have HT3 := Lib.hid (show hexT f = l ++ (hd (u / 16 ^ k) :: trim (hexN k (u % 16 ^ k))) by rw [HT.out, trim_first k u HU.out hu])
        have HM := Lib.hid (Nat.mod_lt u (show 0 < 16 ^ k from Nat.pow_pos (by omega)))
        have HS2 := Lib.hid s2
        have HA := Lib.hid hand
        clear s2 HT HF
        generalize hd0 : u / 16 ^ k = d at *
        go_wp2_with fail
        refine ⟨⟨u % 16 ^ k, k, j + 1, F * 16 % 2 ^ 52, l ++ [hd d], ?_, rfl, by omega, by simp; omega, HS2, HM, Lib.hid (by rw [HT3.out]; simp), Lib.hid (HB.out.alloc HB.out.size _)⟩, ?_⟩
        · first | rfl | (rw [HA.out])
        · show 40 - (⟨_⟩ : ByteArray).size < 40 - (⟨_⟩ : ByteArray).size
          rw [sz, sz]; simp; omega
  case true.false =>
    have HIT := Lib.hid (fun w => dec_any ((e : Int) - 1023) (by omega) (by omega) w)
    have hil := itoa_len ((e : Int) - 1023) (by omega) (by omega)
    generalize hi0 : Lib.itoa ((e : Int) - 1023) = it at HIT hil
    have HI0 := Lib.hid hi0
    clear hi0
    go_enter Tryd.func15, Tryd.ntmps15
    go_name_bytes_deep 18 HX hHX
    have eHX : HX = HEX := by rw [← hHX]; rfl
    subst eHX
    clear hHX
    go_wp2_with (go_at_call 21; refine (rbits_any _ _).mono ?_; rintro e w1 ⟨rfl, rfl⟩; rw [hb])
    go_loopw [5, 7] (fun vs vf wr => ∃ (u k j F : Nat) (l : List UInt8), vf = .int .u64 (F : Int) ∧ vs = .string ⟨(45 :: 49 :: 46 :: l).toArray⟩ ∧ k + j = 13 ∧ l.length ≤ j ∧ Hid (F = u * 16 ^ j) ∧ Hid (u < 16 ^ k) ∧ Hid (hexT f = l ++ trim (hexN k u)) ∧ Hid (Below w.heap.size w wr)) (fun vs _ _ => 40 - strSize vs)
    case atStart => exact ⟨f, 13, 0, f, [], rfl, rfl, rfl, Nat.le_refl _, Lib.hid (by simp), Lib.hid (by rw [show (16 : Nat) ^ 13 = 2 ^ 52 by decide]; exact HF0.out), Lib.hid (by rw [hexT_trim]; rfl), Lib.hid (Below.refl _ _)⟩
    case round =>
      obtain ⟨u, k, j, F, l, rfl, rfl, hkj, hlj, HF, HU, HT, HB⟩ := hrel
      rename World => W
      have sz : ∀ l : List UInt8, (⟨l.toArray⟩ : ByteArray).size = l.length := fun l => by rw [Lib.size_eq]
      by_cases hu : u = 0
      · have hFz : F = 0 := by rw [HF.out, hu, Nat.zero_mul]
        subst hFz
        have hT : hexT f = l := by rw [HT.out, hu, hexN_zero, trim_noughts, List.append_nil]
        have HT2 := Lib.hid hT
        have hl13 : l.length ≤ 13 := by omega
        clear hT HT
        go_wp2_with (go_at_call 27; refine (HIT.out _).mono ?_; rintro e w2 ⟨rfl, b2⟩)
        go_ret
        refine ⟨?_, HB.out.trans (b2.mono HB.out.size)⟩
        rw [HT2.out]
        simp [HI0.out]
      · obtain ⟨k, rfl⟩ : ∃ i, k = i + 1 := ⟨k - 1, by
          rcases k with _ | k
          · have := HU.out; simp at this; omega
          · omega⟩
        obtain ⟨s1, s2, s3, s4⟩ := shift_step HF.out hkj HU.out
        have hFn : ((F : Int) != 0) = true := by
          rw [bne_iff_ne]
          have : F ≠ 0 := by rw [HF.out]; exact Nat.mul_ne_zero hu (Nat.pos_iff_ne_zero.1 (Nat.pow_pos (by omega)))
          omega
        have hix := idx16 ((F : Int) / 281474976710656) (u / 16 ^ k) (by rw [← s1]; omega) s4
        have hand := and_shift F s3
        rw [show IntKind.u64.wrap ((F : Int) * 16) = (F : Int) * 16 by rw [IntKind.wrap_u64]; omega] at hand
        have hcv := conv_one (u / 16 ^ k)
        have hl : l.length ≤ 13 := by omega
        have HT3 := Lib.hid (show hexT f = l ++ (hd (u / 16 ^ k) :: trim (hexN k (u % 16 ^ k))) by rw [HT.out, trim_first k u HU.out hu])
        have HM := Lib.hid (Nat.mod_lt u (show 0 < 16 ^ k from Nat.pow_pos (by omega)))
        have HS2 := Lib.hid s2
        have HA := Lib.hid hand
        clear s2 HT HF
        generalize hd0 : u / 16 ^ k = d at *
        go_wp2_with fail
        refine ⟨⟨u % 16 ^ k, k, j + 1, F * 16 % 2 ^ 52, l ++ [hd d], ?_, rfl, by omega, by simp; omega, HS2, HM, Lib.hid (by rw [HT3.out]; simp), Lib.hid (HB.out.alloc HB.out.size _)⟩, ?_⟩
        · first | rfl | (rw [HA.out])
        · show 40 - (⟨_⟩ : ByteArray).size < 40 - (⟨_⟩ : ByteArray).size
          rw [sz, sz]; simp; omega
  case true.true =>
    have HIT := Lib.hid (fun w => dec_any (-1022) (by omega) (by omega) w)
    have hil := itoa_len (-1022) (by omega) (by omega)
    generalize hi0 : Lib.itoa (-1022) = it at HIT hil
    have HI0 := Lib.hid hi0
    clear hi0
    go_enter Tryd.func15, Tryd.ntmps15
    go_name_bytes_deep 18 HX hHX
    have eHX : HX = HEX := by rw [← hHX]; rfl
    subst eHX
    clear hHX
    go_wp2_with (go_at_call 21; refine (rbits_any _ _).mono ?_; rintro e w1 ⟨rfl, rfl⟩; rw [hb])
    go_loopw [5, 7] (fun vs vf wr => ∃ (u k j F : Nat) (l : List UInt8), vf = .int .u64 (F : Int) ∧ vs = .string ⟨(45 :: 48 :: 46 :: l).toArray⟩ ∧ k + j = 13 ∧ l.length ≤ j ∧ Hid (F = u * 16 ^ j) ∧ Hid (u < 16 ^ k) ∧ Hid (hexT f = l ++ trim (hexN k u)) ∧ Hid (Below w.heap.size w wr)) (fun vs _ _ => 40 - strSize vs)
    case atStart => exact ⟨f, 13, 0, f, [], rfl, rfl, rfl, Nat.le_refl _, Lib.hid (by simp), Lib.hid (by rw [show (16 : Nat) ^ 13 = 2 ^ 52 by decide]; exact HF0.out), Lib.hid (by rw [hexT_trim]; rfl), Lib.hid (Below.refl _ _)⟩
    case round =>
      obtain ⟨u, k, j, F, l, rfl, rfl, hkj, hlj, HF, HU, HT, HB⟩ := hrel
      rename World => W
      have sz : ∀ l : List UInt8, (⟨l.toArray⟩ : ByteArray).size = l.length := fun l => by rw [Lib.size_eq]
      by_cases hu : u = 0
      · have hFz : F = 0 := by rw [HF.out, hu, Nat.zero_mul]
        subst hFz
        have hT : hexT f = l := by rw [HT.out, hu, hexN_zero, trim_noughts, List.append_nil]
        have HT2 := Lib.hid hT
        have hl13 : l.length ≤ 13 := by omega
        clear hT HT
        go_wp2_with (go_at_call 27; refine (HIT.out _).mono ?_; rintro e w2 ⟨rfl, b2⟩)
        go_ret
        refine ⟨?_, HB.out.trans (b2.mono HB.out.size)⟩
        rw [HT2.out]
        simp [HI0.out]
      · obtain ⟨k, rfl⟩ : ∃ i, k = i + 1 := ⟨k - 1, by
          rcases k with _ | k
          · have := HU.out; simp at this; omega
          · omega⟩
        obtain ⟨s1, s2, s3, s4⟩ := shift_step HF.out hkj HU.out
        have hFn : ((F : Int) != 0) = true := by
          rw [bne_iff_ne]
          have : F ≠ 0 := by rw [HF.out]; exact Nat.mul_ne_zero hu (Nat.pos_iff_ne_zero.1 (Nat.pow_pos (by omega)))
          omega
        have hix := idx16 ((F : Int) / 281474976710656) (u / 16 ^ k) (by rw [← s1]; omega) s4
        have hand := and_shift F s3
        rw [show IntKind.u64.wrap ((F : Int) * 16) = (F : Int) * 16 by rw [IntKind.wrap_u64]; omega] at hand
        have hcv := conv_one (u / 16 ^ k)
        have hl : l.length ≤ 13 := by omega
        have HT3 := Lib.hid (show hexT f = l ++ (hd (u / 16 ^ k) :: trim (hexN k (u % 16 ^ k))) by rw [HT.out, trim_first k u HU.out hu])
        have HM := Lib.hid (Nat.mod_lt u (show 0 < 16 ^ k from Nat.pow_pos (by omega)))
        have HS2 := Lib.hid s2
        have HA := Lib.hid hand
        clear s2 HT HF
        generalize hd0 : u / 16 ^ k = d at *
        go_wp2_with fail
        refine ⟨⟨u % 16 ^ k, k, j + 1, F * 16 % 2 ^ 52, l ++ [hd d], ?_, rfl, by omega, by simp; omega, HS2, HM, Lib.hid (by rw [HT3.out]; simp), Lib.hid (HB.out.alloc HB.out.size _)⟩, ?_⟩
        · first | rfl | (rw [HA.out])
        · show 40 - (⟨_⟩ : ByteArray).size < 40 - (⟨_⟩ : ByteArray).size
          rw [sz, sz]; simp; omega
end Go.Proofs.YtjepjheklnaidaaDoor
