/-
  The walks of ParseUint at base 16 and 64 bits, of a text of 13 bytes.
-/
import Derived.Test.YtjepjheklnaidaaGreatDoorShelf
import Derived.Test.YtjepjheklnaidaaGreatDoorHexl
import Derived.Lib.ConvBytes
import Derived.Lib.AtoiErrMem
import Derived.Lib.AtoiAllMem
import Derived.Lib.Hide
import Derived.LoopTactic
import Derived.Laws.BitsAllLaws
import Derived.Laws.Strings3
import Derived.Laws.Closers25
import Derived.Laws.Closers25b
import Derived.BigCall
import Derived.BigGuard
namespace Go.Proofs.YtjepjheklnaidaaGreatDoor
open Go Go.RowKit
set_option maxRecDepth 100000

/-- The small letter of a letter. -/
def lowB (c : UInt8) : Int := bits .or .u8 (c.toNat : Int) 32
/-- What a byte counts as a hex digit. -/
def hv (c : UInt8) : Option Nat := if 48 ≤ c.toNat ∧ c.toNat ≤ 57 then some (c.toNat - 48) else if 97 ≤ lowB c ∧ lowB c ≤ 102 then some (lowB c - 87).toNat else none
def hexVal : Nat → List UInt8 → Option Nat
  | acc, [] => some acc
  | acc, c :: l => match hv c with
    | none => none
    | some d => hexVal (acc * 16 + d) l
theorem hv_lt {c : UInt8} {d : Nat} (h : hv c = some d) : d < 16 := by
  unfold hv at h
  split at h
  · injection h; omega
  · split at h
    · injection h; omega
    · cases h
theorem hv_hd : ∀ d : Fin 16, hv (hd d.1) = some d.1 := by decide +kernel
theorem hexVal_append : ∀ (l m : List UInt8) (a b : Nat), hexVal a l = some b → hexVal a (l ++ m) = hexVal b m
  | [], m, a, b, h => by injection h with h; rw [h]; rfl
  | c :: l, m, a, b, h => by
    unfold hexVal at h
    rw [List.cons_append]
    conv => lhs; unfold hexVal
    cases hc : hv c with
    | none => rw [hc] at h; cases h
    | some d => rw [hc] at h; exact hexVal_append l m _ b h
theorem hexVal_hexN : ∀ (k u a : Nat), u < 16 ^ k → hexVal a (hexN k u) = some (a * 16 ^ k + u)
  | 0, u, a, h => by simp at h; subst h; simp [hexN, hexVal]
  | k + 1, u, a, h => by
    have h2 : u / 16 < 16 ^ k := by rw [Nat.div_lt_iff_lt_mul (by omega)]; rw [Nat.pow_succ] at h; exact h
    unfold hexN
    rw [hexVal_append _ _ _ _ (hexVal_hexN k (u / 16) a h2)]
    unfold hexVal
    rw [hv_hd ⟨u % 16, Nat.mod_lt _ (by omega)⟩]
    show some _ = some _
    rw [Nat.pow_succ]
    congr 1
    rw [Nat.add_mul, Nat.mul_assoc]
    dsimp only; omega
/-- What ParseUint answers. -/
def puE (o : Option Nat) : Value := match o with
  | none => .tuple #[.int .u64 0, .iface 80 (.int .i64 2)]
  | some v => .tuple #[.int .u64 v, .nilIface]

set_option maxHeartbeats 32000000 in
theorem parseUintI (t : ByteArray) (hs : t.size = 13) (w : World) :
    Calls Tryz.prog 46 #[.string t, .int .i64 16, .int .i64 64] w fun e w' => e = .returned (puE (hexVal 0 t.data.toList)) ∧ Below w.heap.size w w' := by
  have hemp : t.toList.isEmpty = false := by
    rw [← decide_eq_emptyBytes]
    exact decide_eq_false (fun h => by rw [h] at hs; exact absurd hs (by decide))
  have hcv := Lib.run_convert_string_bytes (P := Tryz.prog) w 9 65 5 t (u := .string) Tryz.underlying9 Tryz.underlying65 Tryz.underlying5
  have hB : ∀ j, j < t.size → (Lib.bytesWorld w 5 t).cell? ⟨w.heap.size, j, none⟩ = some (.int .u8 (t.data.toList.getD j 0).toNat) := fun j hj => Lib.bytesWorld_cell w 5 t j hj
  have HW := Lib.hid (Lib.bytesWorld_below w 5 t)
  obtain ⟨W1, hW1⟩ : ∃ W1, W1 = Lib.bytesWorld w 5 t := ⟨_, rfl⟩
  rw [← hW1] at hcv hB HW
  clear hW1
  obtain ⟨bs, hL⟩ : ∃ bs, bs = t.data.toList := ⟨_, rfl⟩
  have hLn : bs.length = t.size := by rw [hL, Lib.size_eq]
  rw [← hL] at hB ⊢
  clear hL
  have hmv : IntKind.u64.wrap (IntKind.u64.wrap 18446744073709551616 - 1) = 18446744073709551615 := by
    rw [IntKind.wrap_u64, IntKind.wrap_u64]
    decide
  go_enter Tryz.func46, Tryz.ntmps46
  go_wp2
  go_loop [12, 13, 101] (fun vu vn vi => ∃ (k acc : Nat) (a : Int), vu = .bool false ∧ vn = .int .u64 a ∧ vi = .int .i64 k ∧ k ≤ 13 ∧ Hid (a = (acc : Int) ∧ acc < 16 ^ k ∧ hexVal 0 bs = hexVal acc (bs.drop k))) (fun _ _ vi => 13 - (intOf vi).toNat)
  case atStart => exact ⟨0, 0, 0, rfl, rfl, rfl, by omega, rfl, by omega, rfl⟩
  case round =>
    obtain ⟨k, acc, a, rfl, rfl, rfl, hk, hh⟩ := hrel
    obtain ⟨ha, hacc, hdec⟩ := hh.out
    clear hh
    have a0 : 0 ≤ a := by omega
    by_cases hkn : k < 13
    · have hp : 16 ^ k ≤ 16 ^ 12 := Nat.pow_le_pow_right (by decide) (by omega)
      have a1 : a < 281474976710656 := by have : (16 : Nat) ^ 12 = 281474976710656 := by decide
                                          omega
      have hc := hB k (by omega)
      have hdrop : bs.drop k = bs[k]'(by omega) :: bs.drop (k + 1) := List.drop_eq_getElem_cons (by omega)
      have hget : bs.getD k 0 = bs[k]'(by omega) := by simp [List.getD, List.getElem?_eq_getElem (show k < bs.length by omega)]
      rw [hdrop] at hdec
      rw [hget] at hc
      generalize bs[k]'(by omega) = c at hc hdec
      have hc256 : c.toNat < 256 := c.toNat_lt
      clear hB hdrop hget hp
      by_cases hdig : 48 ≤ c.toNat ∧ c.toNat ≤ 57
      · obtain ⟨hd0, hd1⟩ := hdig
        have hF : hv c = some (c.toNat - 48) := if_pos ⟨hd0, hd1⟩
        have HN : Hid (a * 16 + ((c.toNat : Int) - 48) = ((acc * 16 + (c.toNat - 48) : Nat) : Int) ∧ acc * 16 + (c.toNat - 48) < 16 ^ (k + 1) ∧ hexVal 0 bs = hexVal (acc * 16 + (c.toNat - 48)) (bs.drop (k + 1))) := Lib.hid ⟨by omega, by rw [Nat.pow_succ]; omega, by rw [hdec]; conv => lhs; unfold hexVal; rw [hF]⟩
        clear hacc hF hdec ha
        go_wp2
        refine ⟨⟨k + 1, acc * 16 + (c.toNat - 48), a * 16 + ((c.toNat : Int) - 48), rfl, (by first | rfl | (congr 1; omega)), (by first | rfl | (congr 1; omega)), by omega, HN⟩, by simp [intOf]; omega⟩
      · have hv0 := bits_lo_u8 .or (c.toNat : Int) 32
        have hv1 := bits_hi_u8 .or (c.toNat : Int) 32
        have hF : hv c = if 97 ≤ lowB c ∧ lowB c ≤ 102 then some (lowB c - 87).toNat else none := if_neg hdig
        unfold lowB at hF
        generalize hlo : bits .or .u8 (c.toNat : Int) 32 = lo at hv0 hv1 hF
        by_cases hlt : 97 ≤ lo ∧ lo ≤ 102
        · have h95 : ¬ (c.toNat : Int) = 95 := by
            intro h
            rw [h, show bits .or .u8 95 32 = 127 by decide] at hlo
            omega
          rw [if_pos hlt] at hF
          obtain ⟨hl0, hl1⟩ := hlt
          have HN : Hid (a * 16 + (lo - 97 + 10) = ((acc * 16 + (lo - 87).toNat : Nat) : Int) ∧ acc * 16 + (lo - 87).toNat < 16 ^ (k + 1) ∧ hexVal 0 bs = hexVal (acc * 16 + (lo - 87).toNat) (bs.drop (k + 1))) := Lib.hid ⟨by omega, by rw [Nat.pow_succ]; omega, by rw [hdec]; conv => lhs; unfold hexVal; rw [hF]⟩
          clear hacc hF hdec ha
          go_wp2_with (go_at_call 65; refine (Tryz.internal_strconv_lower _ _).mono ?_; rintro e w' ⟨rfl, rfl⟩)
          all_goals first
            | exact ⟨⟨k + 1, acc * 16 + (lo - 87).toNat, a * 16 + (lo - 97 + 10), rfl, (by first | rfl | (congr 1; omega)), (by first | rfl | (congr 1; omega)), by omega, HN⟩, by simp [intOf]; omega⟩
            | (exfalso; omega)
        · rw [if_neg hlt] at hF
          have hD : hexVal 0 bs = none := by rw [hdec]; unfold hexVal; rw [hF]
          have HD := Lib.hid hD
          clear hacc hF hdec ha hD
          go_wp2_with (go_at_call 65; refine (Tryz.internal_strconv_lower _ _).mono ?_; rintro e w' ⟨rfl, rfl⟩)
          all_goals go_ret2
          all_goals exact ⟨by rw [HD.out]; rfl, HW.out⟩
    · obtain rfl : k = 13 := by omega
      have hF : hexVal acc (bs.drop 13) = some acc := by rw [List.drop_eq_nil_of_le (by omega)]; rfl
      rw [hF] at hdec
      subst ha
      clear hacc hF
      go_wp2
      go_ret2
      exact ⟨rfl, HW.out⟩

set_option maxHeartbeats 4000000 in
/-- strconv.ParseUint(t, 16, 64), t of 13 bytes: a number, or an error that is not nil. -/
theorem parseUint_ok (t : ByteArray) (hs : t.size = 13) (v : Nat) (h : hexVal 0 t.data.toList = some v) (w : World) :
    Calls Tryz.prog 37 #[.string t, .int .i64 16, .int .i64 64] w fun e w' => e = .returned (.tuple #[.int .u64 v, .nilIface]) ∧ Below w.heap.size w w' := by
  have hI := parseUintI t hs w
  rw [h] at hI
  have hI : Calls Tryz.prog 46 #[.string t, .int .i64 16, .int .i64 64] w fun e w' => e = .returned (.tuple #[.int .u64 v, .nilIface]) ∧ Below w.heap.size w w' := hI
  clear h
  go_enter Tryz.func37, Tryz.ntmps37
  go_wp2_with (go_at_call 46; refine hI.mono ?_; rintro e W1 ⟨rfl, hW⟩)
  go_wp2
  go_ret2
  exact ⟨rfl, hW⟩
set_option maxHeartbeats 4000000 in
theorem parseUint_bad (t : ByteArray) (hs : t.size = 13) (h : hexVal 0 t.data.toList = none) (ev : Value) (w : World) (hv : w.cell? ⟨2, 0, none⟩ = some ev) (hev : ev = .nilIface ∨ ∃ te pe, ev = .iface te pe) :
    Calls Tryz.prog 37 #[.string t, .int .i64 16, .int .i64 64] w fun e w' => ∃ N, e = .returned (.tuple #[.int .u64 0, .iface 83 (.pointer (some ⟨N, 0, none⟩))]) ∧ Below w.heap.size w w' := by
  have hG : 2 < w.heap.size := Lib.lt_of_cell hv
  have hI := parseUintI t hs w
  rw [h] at hI
  have hI : Calls Tryz.prog 46 #[.string t, .int .i64 16, .int .i64 64] w fun e w' => e = .returned (.tuple #[.int .u64 0, .iface 80 (.int .i64 2)]) ∧ Below w.heap.size w w' := hI
  clear h
  go_enter Tryz.func37, Tryz.ntmps37
  go_wp2_with (go_at_call 46; refine hI.mono ?_)
  rintro e W1 ⟨rfl, hW⟩
  have hv1 : W1.cell? ⟨2, 0, none⟩ = some ev := (hW.cell (show (⟨2, 0, none⟩ : Addr).block < w.heap.size from hG)).trans hv
  go_wp2_with (go_at_call 45; refine (Tryz.strconv_toError_none ⟨#[80, 97, 114, 115, 101, 85, 105, 110, 116]⟩ t 16 64 ev _ (by omega) ?_ hev).mono ?_)
  · exact hv1
  rintro e W2 ⟨N, rfl, h1, h2, h3⟩
  go_wp2
  go_ret2
  exact ⟨N, rfl, hW.trans (h3.mono hW.size)⟩
end Go.Proofs.YtjepjheklnaidaaGreatDoor
