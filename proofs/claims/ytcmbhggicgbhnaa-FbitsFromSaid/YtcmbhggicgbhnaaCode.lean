/-
  The contracts of Encode and Decode, of fbits and of its reference, and of the rows of bytes that are held against each other. Conditions: a number's word; a slice of eight bytes, or of another length.
-/
import Derived.Test.YtcmbhggicgbhnaaAsks
import Derived.LoopTactic
import Derived.LoopN
import Derived.Deep.RegionWith
namespace Go.Proofs.Ytcmbhggicgbhnaa
open Go.RowKit F64

/-- The number that bytes spell, the first one the greatest. -/
def dv (cs : Nat → Nat) : Nat → Nat
  | 0 => 0
  | k + 1 => dv cs k * 256 + cs k
theorem dv_lt {cs : Nat → Nat} (h : ∀ i, cs i < 256) : ∀ k, dv cs k < 256 ^ k
  | 0 => by simp [dv]
  | k + 1 => by
    have h1 := dv_lt h k
    have h2 := h k
    show dv cs k * 256 + cs k < _
    rw [Nat.pow_succ]; omega
theorem or_step {v c : Nat} (hv : v < 2 ^ 56) (hc : c < 256) : bits .or .u64 (IntKind.u64.wrap ((v : Int) * 256)) (IntKind.u64.wrap (c : Int)) = ((v * 256 + c : Nat) : Int) := by
  have e1 : IntKind.u64.wrap ((v : Int) * 256) = ((v * 256 : Nat) : Int) := by rw [IntKind.wrap_u64]; omega
  have e2 : IntKind.u64.wrap (c : Int) = (c : Int) := by rw [IntKind.wrap_u64]; omega
  rw [e1, e2, u64_or_nat _ _ (by omega) (by omega), nat_join 8 (v * 256) c (by omega) (by omega)]
theorem dv_step {cs : Nat → Nat} (h : ∀ i, cs i < 256) {k : Nat} (hk : k < 8) : bits .or .u64 (IntKind.u64.wrap ((dv cs k : Int) * 256)) (IntKind.u64.wrap (cs k : Int)) = ((dv cs (k + 1) : Nat) : Int) := by
  have h1 := dv_lt h k
  have h2 : 256 ^ k ≤ 256 ^ 7 := Nat.pow_le_pow_right (by decide) (by omega)
  exact or_step (by omega) (h k)
theorem dv8_lt {cs : Nat → Nat} (h : ∀ i, cs i < 256) : dv cs 8 < 2 ^ 64 := dv_lt h 8


set_option maxHeartbeats 1000000 in
theorem decode_ok (cs : Nat → Nat) (b off cap d : Nat) (w : World) (hcs : ∀ i, cs i < 256) (hc : ∀ i, i < 8 → w.cell? ⟨b, off + i, none⟩ = some (.int .u8 (cs i : Nat))) (hd : dv cs 8 = d) (t0 : (((bitsF (bitsF d) : Nat) : Int) != ((d : Nat) : Int)) = false) :
    Calls Try.prog 25 #[.slice (some ⟨b, off, none⟩) 8 cap] w fun e w' => e = .returned (.tuple #[.float .f64 (bitsF d), .int .i64 0]) ∧ w = w' := by
  have HC := Lib.hid hc
  have HS := Lib.hid hcs
  have HD := Lib.hid hd
  have HL := Lib.hid (dv8_lt hcs)
  clear hc hcs hd
  go_enter Try.func25, Try.ntmps25
  go_wp2_with fail
  go_loop [4, 13] (fun v i => ∃ k : Nat, k ≤ 8 ∧ i = .int .i64 k ∧ v = .int .u64 (dv cs k : Nat)) (fun _ i => 8 - (intOf i).toNat)
  case atStart => exact ⟨0, by omega, rfl, rfl⟩
  case round =>
    obtain ⟨k, hk, rfl, rfl⟩ := hrel
    by_cases hlt : k < 8
    · have h1 := HC.out k hlt
      go_wp2_with fail
      go_round
      case rel => exact ⟨k + 1, by omega, by go_num, by rw [dv_step HS.out hlt]⟩
      case measure => simp [intOf]; omega
    · obtain rfl : k = 8 := by omega
      clear hk hlt
      have HL := HL.out
      rw [HD.out] at HL ⊢
      have HL := Lib.hid HL
      go_wp2_with (first | (go_at_call 11; refine (from_any _ _).mono ?_; rintro e w1 ⟨rfl, rfl⟩) | (go_at_call 14; refine (bits_any _ _).mono ?_; rintro e w1 ⟨rfl, rfl⟩))
      go_ret2
      exact ⟨rfl, rfl⟩


set_option maxHeartbeats 1000000 in
theorem decode_bad (cs : Nat → Nat) (b off cap d : Nat) (w : World) (hcs : ∀ i, cs i < 256) (hc : ∀ i, i < 8 → w.cell? ⟨b, off + i, none⟩ = some (.int .u8 (cs i : Nat))) (hd : dv cs 8 = d) (t0 : (((bitsF (bitsF d) : Nat) : Int) != ((d : Nat) : Int)) = true) :
    Calls Try.prog 25 #[.slice (some ⟨b, off, none⟩) 8 cap] w fun e w' => e = .returned (.tuple #[.float .f64 0, .int .i64 13]) ∧ w = w' := by
  have HC := Lib.hid hc
  have HS := Lib.hid hcs
  have HD := Lib.hid hd
  have HL := Lib.hid (dv8_lt hcs)
  clear hc hcs hd
  go_enter Try.func25, Try.ntmps25
  go_wp2_with fail
  go_loop [4, 13] (fun v i => ∃ k : Nat, k ≤ 8 ∧ i = .int .i64 k ∧ v = .int .u64 (dv cs k : Nat)) (fun _ i => 8 - (intOf i).toNat)
  case atStart => exact ⟨0, by omega, rfl, rfl⟩
  case round =>
    obtain ⟨k, hk, rfl, rfl⟩ := hrel
    by_cases hlt : k < 8
    · have h1 := HC.out k hlt
      go_wp2_with fail
      go_round
      case rel => exact ⟨k + 1, by omega, by go_num, by rw [dv_step HS.out hlt]⟩
      case measure => simp [intOf]; omega
    · obtain rfl : k = 8 := by omega
      clear hk hlt
      have HL := HL.out
      rw [HD.out] at HL ⊢
      have HL := Lib.hid HL
      go_wp2_with (first | (go_at_call 11; refine (from_any _ _).mono ?_; rintro e w1 ⟨rfl, rfl⟩) | (go_at_call 14; refine (bits_any _ _).mono ?_; rintro e w1 ⟨rfl, rfl⟩))
      go_ret2
      exact ⟨rfl, rfl⟩


set_option maxHeartbeats 1000000 in
theorem rdecode_num (cs : Nat → Nat) (b off cap d : Nat) (w : World) (hcs : ∀ i, cs i < 256) (hc : ∀ i, i < 8 → w.cell? ⟨b, off + i, none⟩ = some (.int .u8 (cs i : Nat))) (hd : dv cs 8 = d) (t0 : decide (9218868437227405312 < bits .andNot .u64 (d : Int) 9223372036854775808) = false) :
    Calls Try.prog 26 #[.slice (some ⟨b, off, none⟩) 8 cap] w fun e w' => e = .returned (.tuple #[.float .f64 (bitsF d), .int .i64 0]) ∧ w = w' := by
  have HC := Lib.hid hc
  have HS := Lib.hid hcs
  have HD := Lib.hid hd
  have HL := Lib.hid (dv8_lt hcs)
  clear hc hcs hd
  go_enter Try.func26, Try.ntmps26
  go_wp2_with fail
  go_loop [4, 5] (fun v i => ∃ k : Nat, k ≤ 8 ∧ i = .int .i64 k ∧ v = .int .u64 (dv cs k : Nat)) (fun _ i => 8 - (intOf i).toNat)
  case atStart => exact ⟨0, by omega, rfl, rfl⟩
  case round =>
    obtain ⟨k, hk, rfl, rfl⟩ := hrel
    by_cases hlt : k < 8
    · have h1 := HC.out k hlt
      go_wp2_with fail
      go_round
      case rel => exact ⟨k + 1, by omega, by go_num, by rw [dv_step HS.out hlt]⟩
      case measure => simp [intOf]; omega
    · obtain rfl : k = 8 := by omega
      clear hk hlt
      have HL := HL.out
      rw [HD.out] at HL ⊢
      have HL := Lib.hid HL
      go_wp2_with (go_at_call 27; refine (rfrom_any _ _ HL.out).mono ?_; rintro e w1 ⟨rfl, rfl⟩)
      go_ret2
      exact ⟨rfl, rfl⟩


set_option maxHeartbeats 1000000 in
theorem rdecode_nan (cs : Nat → Nat) (b off cap d : Nat) (w : World) (hcs : ∀ i, cs i < 256) (hc : ∀ i, i < 8 → w.cell? ⟨b, off + i, none⟩ = some (.int .u8 (cs i : Nat))) (hd : dv cs 8 = d) (t0 : decide (9218868437227405312 < bits .andNot .u64 (d : Int) 9223372036854775808) = true) (t1 : ((d : Int) != 9221120237041090560) = false) :
    Calls Try.prog 26 #[.slice (some ⟨b, off, none⟩) 8 cap] w fun e w' => e = .returned (.tuple #[.float .f64 (bitsF d), .int .i64 0]) ∧ w = w' := by
  have HC := Lib.hid hc
  have HS := Lib.hid hcs
  have HD := Lib.hid hd
  have HL := Lib.hid (dv8_lt hcs)
  clear hc hcs hd
  go_enter Try.func26, Try.ntmps26
  go_wp2_with fail
  go_loop [4, 5] (fun v i => ∃ k : Nat, k ≤ 8 ∧ i = .int .i64 k ∧ v = .int .u64 (dv cs k : Nat)) (fun _ i => 8 - (intOf i).toNat)
  case atStart => exact ⟨0, by omega, rfl, rfl⟩
  case round =>
    obtain ⟨k, hk, rfl, rfl⟩ := hrel
    by_cases hlt : k < 8
    · have h1 := HC.out k hlt
      go_wp2_with fail
      go_round
      case rel => exact ⟨k + 1, by omega, by go_num, by rw [dv_step HS.out hlt]⟩
      case measure => simp [intOf]; omega
    · obtain rfl : k = 8 := by omega
      clear hk hlt
      have HL := HL.out
      rw [HD.out] at HL ⊢
      have HL := Lib.hid HL
      go_wp2_with (go_at_call 27; refine (rfrom_any _ _ HL.out).mono ?_; rintro e w1 ⟨rfl, rfl⟩)
      go_ret2
      exact ⟨rfl, rfl⟩


set_option maxHeartbeats 1000000 in
theorem rdecode_bad (cs : Nat → Nat) (b off cap d : Nat) (w : World) (hcs : ∀ i, cs i < 256) (hc : ∀ i, i < 8 → w.cell? ⟨b, off + i, none⟩ = some (.int .u8 (cs i : Nat))) (hd : dv cs 8 = d) (t0 : decide (9218868437227405312 < bits .andNot .u64 (d : Int) 9223372036854775808) = true) (t1 : ((d : Int) != 9221120237041090560) = true) :
    Calls Try.prog 26 #[.slice (some ⟨b, off, none⟩) 8 cap] w fun e w' => e = .returned (.tuple #[.float .f64 0, .int .i64 13]) ∧ w = w' := by
  have HC := Lib.hid hc
  have HS := Lib.hid hcs
  have HD := Lib.hid hd
  have HL := Lib.hid (dv8_lt hcs)
  clear hc hcs hd
  go_enter Try.func26, Try.ntmps26
  go_wp2_with fail
  go_loop [4, 5] (fun v i => ∃ k : Nat, k ≤ 8 ∧ i = .int .i64 k ∧ v = .int .u64 (dv cs k : Nat)) (fun _ i => 8 - (intOf i).toNat)
  case atStart => exact ⟨0, by omega, rfl, rfl⟩
  case round =>
    obtain ⟨k, hk, rfl, rfl⟩ := hrel
    by_cases hlt : k < 8
    · have h1 := HC.out k hlt
      go_wp2_with fail
      go_round
      case rel => exact ⟨k + 1, by omega, by go_num, by rw [dv_step HS.out hlt]⟩
      case measure => simp [intOf]; omega
    · obtain rfl : k = 8 := by omega
      clear hk hlt
      have HL := HL.out
      rw [HD.out] at HL ⊢
      have HL := Lib.hid HL
      go_wp2_with (go_at_call 27; refine (rfrom_any _ _ HL.out).mono ?_; rintro e w1 ⟨rfl, rfl⟩)
      go_ret2
      exact ⟨rfl, rfl⟩


set_option maxHeartbeats 400000 in
theorem decode_len (a : Option Addr) (len cap : Nat) (w : World) (h : ((len : Int) != 8) = true) :
    Calls Try.prog 25 #[.slice a len cap] w fun e w' => e = .returned (.tuple #[.float .f64 0, .int .i64 13]) ∧ w = w' := by
  go_enter Try.func25, Try.ntmps25
  go_wp2_with fail
  go_ret2
  exact ⟨rfl, rfl⟩


set_option maxHeartbeats 400000 in
theorem rdecode_len (a : Option Addr) (len cap : Nat) (w : World) (h : ((len : Int) != 8) = true) :
    Calls Try.prog 26 #[.slice a len cap] w fun e w' => e = .returned (.tuple #[.float .f64 0, .int .i64 13]) ∧ w = w' := by
  go_enter Try.func26, Try.ntmps26
  go_wp2_with fail
  go_ret2
  exact ⟨rfl, rfl⟩


/-- What eight bytes are decoded as. -/
def decW (d : Nat) : Nat := if bitsF d = d then d else 0
def decE (d : Nat) : Int := if bitsF d = d then 0 else 13

theorem decode_any (cs : Nat → Nat) (b off cap : Nat) (w : World) (hcs : ∀ i, cs i < 256) (hc : ∀ i, i < 8 → w.cell? ⟨b, off + i, none⟩ = some (.int .u8 (cs i : Nat))) :
    Calls Try.prog 25 #[.slice (some ⟨b, off, none⟩) 8 cap] w fun e w' => e = .returned (.tuple #[.float .f64 (decW (dv cs 8)), .int .i64 (decE (dv cs 8))]) ∧ w = w' := by
  generalize hd : dv cs 8 = d
  unfold decW decE
  by_cases h : bitsF d = d
  · rw [if_pos h, if_pos h]
    have := decode_ok cs b off cap d w hcs hc hd (by rw [bitsF_bitsF, h]; simp)
    rwa [h] at this
  · rw [if_neg h, if_neg h]
    exact decode_bad cs b off cap d w hcs hc hd (by rw [bitsF_bitsF]; simp; omega)

theorem rdecode_any (cs : Nat → Nat) (b off cap : Nat) (w : World) (hcs : ∀ i, cs i < 256) (hc : ∀ i, i < 8 → w.cell? ⟨b, off + i, none⟩ = some (.int .u8 (cs i : Nat))) :
    Calls Try.prog 26 #[.slice (some ⟨b, off, none⟩) 8 cap] w fun e w' => e = .returned (.tuple #[.float .f64 (decW (dv cs 8)), .int .i64 (decE (dv cs 8))]) ∧ w = w' := by
  have hl := dv8_lt hcs
  generalize hd : dv cs 8 = d at *
  have hb := beyond hl
  unfold decW decE
  cases hn : isNaN d
  · have h := bitsF_num hn
    rw [if_pos h, if_pos h]
    have := rdecode_num cs b off cap d w hcs hc hd (by rw [hb, hn])
    rwa [h] at this
  · have h : bitsF d = QNAN := by unfold bitsF; rw [hn]; rfl
    by_cases h2 : d = QNAN
    · rw [if_pos (by rw [h, h2]), if_pos (by rw [h, h2])]
      have := rdecode_nan cs b off cap d w hcs hc hd (by rw [hb, hn]) (by rw [h2]; decide)
      rwa [h, ← h2] at this
    · rw [if_neg (by rw [h]; omega), if_neg (by rw [h]; omega)]
      exact rdecode_bad cs b off cap d w hcs hc hd (by rw [hb, hn]) (by
        have : QNAN = 9221120237041090560 := rfl
        simp; omega)


/-- The bytes that a number is laid as. -/
def enc (x i : Nat) : Nat := bitsF x / 256 ^ (7 - i) % 256
theorem enc_lt (x i : Nat) : enc x i < 256 := Nat.mod_lt _ (by decide)
theorem dv_enc {x : Nat} (hx : x < 2 ^ 64) : dv (enc x) 8 = bitsF x := by
  have := bitsF_lt hx
  simp only [dv, enc]
  generalize bitsF x = b at *
  simp only [Nat.reduceSub, Nat.reducePow]
  omega

/-- A row of eight bytes of the call's own. -/
def IsEnc (x g : Nat) (w : World) : Prop := ∀ i, i < 8 → w.cell? ⟨g, 0 + i, none⟩ = some (.int .u8 (enc x i : Nat))

def encRow (x : Nat) : Array Value := #[.int .u8 (↑(bitsF x) / 72057594037927936 % 256), .int .u8 (↑(bitsF x) / 281474976710656 % 256), .int .u8 (↑(bitsF x) / 1099511627776 % 256), .int .u8 (↑(bitsF x) / 4294967296 % 256), .int .u8 (↑(bitsF x) / 16777216 % 256), .int .u8 (↑(bitsF x) / 65536 % 256), .int .u8 (↑(bitsF x) / 256 % 256), .int .u8 (↑(bitsF x) % 256)]
theorem encRow_cell (x : Nat) (w : World) : IsEnc x w.heap.size (w.alloc (.cells (encRow x) 5)).drew := by
  intro i hi
  have e : ∀ v, (encRow x)[i]? = some v → (w.alloc (.cells (encRow x) 5)).drew.cell? ⟨w.heap.size, 0 + i, none⟩ = some v := by
    intro v hv
    simp [hv]
  apply e
  have : i = 0 ∨ i = 1 ∨ i = 2 ∨ i = 3 ∨ i = 4 ∨ i = 5 ∨ i = 6 ∨ i = 7 := by omega
  rcases this with rfl | rfl | rfl | rfl | rfl | rfl | rfl | rfl <;> simp [encRow, enc]

set_option maxHeartbeats 1000000 in
theorem encode_any (x : Nat) (w : World) :
    Calls Try.prog 29 #[.float .f64 x] w fun e w' => e = .returned (.slice (some ⟨w.heap.size, 0, none⟩) 8 8) ∧ Below w.heap.size w w' ∧ IsEnc x w.heap.size w' ∧ w.heap.size < w'.heap.size := by
  have hmk : ∀ w : World, (Instr.makeSlice 32 (.int .i64 8) (.int .i64 8)).run Try.prog w = .ok (.slice (some ⟨w.heap.size, 0, none⟩) 8 8) (w.alloc (.cells #[.int .u8 0, .int .u8 0, .int .u8 0, .int .u8 0, .int .u8 0, .int .u8 0, .int .u8 0, .int .u8 0] 5)) := fun _ => by kernel_rfl
  go_enter Try.func29, Try.ntmps29
  go_wp2_with fail
  go_region_with (go_at_call 14; refine (bits_any _ _).mono ?_; rintro e w1 ⟨rfl, rfl⟩)
  all_goals go_wp2_with fail
  all_goals refine wp_loop_rounds 9 ?_
  all_goals (rw [rounds_succ]; go_wp2_with fail)
  all_goals (rw [rounds_succ]; go_wp2_with fail)
  all_goals (rw [rounds_succ]; go_wp2_with fail)
  all_goals (rw [rounds_succ]; go_wp2_with fail)
  all_goals (rw [rounds_succ]; go_wp2_with fail)
  all_goals (rw [rounds_succ]; go_wp2_with fail)
  all_goals (rw [rounds_succ]; go_wp2_with fail)
  all_goals (rw [rounds_succ]; go_wp2_with fail)
  all_goals (rw [rounds_succ]; go_wp2_with fail)
  all_goals go_ret
  all_goals exact ⟨rfl, ((Below.refl _ _).alloc (Nat.le_refl _) _).drew, encRow_cell x w, by simp⟩

end Go.Proofs.Ytcmbhggicgbhnaa
