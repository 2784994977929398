/-
  The walk of the reference's Decimal: an int's decimal numeral.
-/
import Derived.Test.YtjepjheklnaidaaDoorBack
import Derived.LoopTactic
import Derived.Laws.AppendOwn
import Derived.OwnWalk
import Derived.Laws.IdiomStrings
namespace Go.Proofs.YtjepjheklnaidaaDoor
open Go Go.RowKit F64
set_option maxRecDepth 100000

/-- A number's digits; none of 0. -/
def dec0 : Nat → Nat → List UInt8
  | 0, _ => []
  | k + 1, u => if u = 0 then [] else dec0 k (u / 10) ++ [UInt8.ofNat (48 + u % 10)]
def cellsOf (l : List UInt8) : List Value := l.map fun c => .int .u8 (c.toNat : Int)

theorem own_lit (w W : World) (x : Value) (h : w.heap.size ≤ W.heap.size) : (W.alloc (.cells #[x] 5)).ownsRow w.heap.size 5 1 (.slice (some ⟨W.heap.size, 0, none⟩) 1 1) 1 [x] :=
  ⟨rfl, .inr ⟨W.heap.size, 1, #[x], rfl, h, heap_alloc_new W _, Nat.le_refl _, by unfold maxLen; omega, rfl, rfl⟩⟩
theorem dec0_step {k u n : Nat} {l : List UInt8} (h : dec0 20 n = dec0 (k + 1) u ++ l) (hu : 0 < u) : dec0 20 n = dec0 k (u / 10) ++ (UInt8.ofNat (48 + u % 10) :: l) := by
  rw [h, dec0, if_neg (by omega), List.append_assoc]; rfl
theorem digit_toNat (u : Nat) : ((UInt8.ofNat (48 + u % 10)).toNat : Int) = 48 + (u : Int) % 10 := by
  rw [UInt8.toNat_ofNat']; omega
theorem dec0_zero : ∀ k, dec0 k 0 = []
  | 0 => rfl
  | k + 1 => by unfold dec0; rw [if_pos rfl]
theorem dec0_eq : ∀ k u, 0 < u → u < 10 ^ k → dec0 k u = Lib.decDigits u
  | 0, u, h, hu => by simp at hu; omega
  | k + 1, u, h, hu => by
    rw [dec0, if_neg (by omega), Lib.decDigits]
    by_cases h10 : u < 10
    · rw [dif_pos h10, show u / 10 = 0 by omega, dec0_zero, Nat.mod_eq_of_lt h10]; rfl
    · rw [dif_neg h10, dec0_eq k (u / 10) (by omega) (by rw [Nat.div_lt_iff_lt_mul (by omega)]; rw [Nat.pow_succ] at hu; exact hu)]
theorem grow_lit {w W w1 : World} {o : Obj} (h : Below w.heap.size w W) (hg : (W.alloc o).grownBy w1 (Value.slice (some ⟨W.heap.size, 0, none⟩) 1 1).ownBlock) : Below w.heap.size w w1 :=
  (h.alloc h.size o).grown hg (by have := h.size; show _ ≤ (W.heap.push _).size; rw [Array.size_push]; omega) (fun j hj => by
    have : W.heap.size = j := by simpa [Value.ownBlock] using hj
    rw [← this]; exact h.size)
theorem infoByte : (Tryd.prog.info? 5).map (fun i => (i.zero, i.size, i.bytes)) = some (some (.int .u8 0), 1, 1) := by kernel_rfl

set_option maxHeartbeats 4000000 in
theorem dec_pos (n : Nat) (h0 : 0 < n) (h1 : n < 9223372036854775808) (w : World) :
    Calls Tryd.prog 27 #[.int .i64 (n : Int)] w fun e w' => e = .returned (.string ⟨(Lib.itoa n).toArray⟩) ∧ Below w.heap.size w w' := by
  obtain ⟨i0, hi, hz0, hz1, hz2⟩ := info_parts infoByte
  have hw : IntKind.u64.wrap (n : Int) = (n : Int) := by rw [IntKind.wrap_u64]; omega
  have hne : ((n : Int) == 0) = false := by rw [beq_eq_false_iff_ne]; omega
  go_enter Tryd.func27, Tryd.ntmps27
  go_wp2_with fail
  go_loopw [3, 4] (fun vu vb wr => ∃ (u k : Nat) (l : List UInt8) (v : Value), vu = .int .u64 u ∧ v = vb ∧ k + l.length = 20 ∧ Hid (u < 10 ^ k) ∧ Hid (l = [] → v = .slice none 0 0) ∧ u ≤ n ∧ Hid (dec0 20 n = dec0 k u ++ l) ∧ wr.ownsRow w.heap.size 5 1 v l.length (cellsOf l) ∧ Below w.heap.size w wr) (fun vu _ _ => (intOf vu).toNat)
  case atStart => exact ⟨n, 20, [], _, rfl, rfl, rfl, Lib.hid (by omega), Lib.hid (fun _ => rfl), Nat.le_refl _, Lib.hid (by simp), World.ownsRow_nil _ _ _ _, Below.refl _ _⟩
  case round =>
    obtain ⟨u, k, l, v, rfl, rfl, hkl, HU, HNil, hun, HE, hown, hb⟩ := hrel
    rename World => W
    have HN := Lib.hid hb
    have HO := Lib.hid hown
    clear hb hown
    by_cases hu : 0 < u
    · obtain ⟨k, rfl⟩ : ∃ j, k = j + 1 := ⟨k - 1, by
        rcases k with _ | k
        · have := HU.out; simp at this; omega
        · omega⟩
      have HU2 : Hid (u / 10 < 10 ^ k) := Lib.hid (by have := HU.out; rw [Nat.div_lt_iff_lt_mul (by omega)]; rw [Nat.pow_succ] at this; exact this)
      have hm : ((u : Int)).tmod 10 = ((u % 10 : Nat) : Int) := by rw [Int.tmod_eq_emod_of_nonneg (by omega)]; omega
      have hd : ((u : Int)).tdiv 10 = ((u / 10 : Nat) : Int) := by rw [Int.tdiv_eq_ediv_of_nonneg (by omega)]; omega
      have hc : IntKind.u64.wrap (48 + ((u % 10 : Nat) : Int)) % 256 = ((UInt8.ofNat (48 + u % 10)).toNat : Int) := by
        rw [IntKind.wrap_u64, UInt8.toNat_ofNat']; omega
      rcases l with _ | ⟨c, l⟩
      · obtain rfl : v = .slice none 0 0 := HNil.out rfl
        clear HNil
        clear HO
        go_wp2_with fail
        go_roundw
        case rel =>
          refine ⟨u / 10, k, [UInt8.ofNat (48 + u % 10)], _, by go_num, rfl, by simp at hkl ⊢; omega, HU2, Lib.hid (fun h => by cases h), by omega, Lib.hid (dec0_step HE.out hu), ?_, HN.out.alloc HN.out.size _⟩
          have := own_lit w W (.int .u8 (48 + (u : Int) % 10)) HN.out.size
          show (W.alloc _).ownsRow _ _ _ _ _ [Value.int .u8 ((UInt8.ofNat (48 + u % 10)).toNat : Int)]
          rw [digit_toNat]; exact this
        case measure => simp [intOf]; omega
      · obtain ⟨g, cap, rfl⟩ : ∃ g cap, v = .slice (some ⟨g, 0, none⟩) (l.length + 1) cap := by
          rcases HO.out.2 with ⟨_, h⟩ | ⟨g, cap, cur, h, _⟩
          · simp at h
          · exact ⟨g, cap, h⟩
        have hl20 : l.length ≤ 20 := by simp at hkl; omega
        go_wp2_with (at_builtin; refine wpList_append_own _ rfl _ _ 51 rfl w.heap.size 5 i0 (.int .u8 0) 1 1 Tryd.underlying51 hi hz0 hz1 hz2 rfl (by decide) _ 1 [.int .u8 (48 + (u : Int) % 10)] rfl (own_lit w W _ HN.out.size) ⟨g, 0, none⟩ (l.length + 1) cap (cellsOf (c :: l)) rfl ?c0 ?c1 ?c2 ?c3 ?c4 ?c5 ?_)
        case c0 => simp [cellsOf]
        case c1 => exact (HO.out.alloc _).cells rfl
        case c2 => intro x hx; simp only [cellsOf, List.mem_map] at hx; obtain ⟨y, _, rfl⟩ := hx; rfl
        case c3 => unfold maxLen; omega
        case c4 => omega
        case c5 => have := HN.out.size; simp; omega
        · intro v' w1 hown' hgrow _
          have HN2 := Lib.hid (grow_lit HN.out hgrow)
          have HO2 := Lib.hid hown'
          clear hown' hgrow HO HN
          go_wp2_with fail
          go_roundw
          case rel =>
            refine ⟨u / 10, k, UInt8.ofNat (48 + u % 10) :: c :: l, v', by go_num, rfl, by simp at hkl ⊢; omega, HU2, Lib.hid (fun h => by cases h), by omega, Lib.hid (dec0_step HE.out hu), ?_, HN2.out⟩
            show w1.ownsRow _ _ _ _ _ (Value.int .u8 ((UInt8.ofNat (48 + u % 10)).toNat : Int) :: cellsOf (c :: l))
            rw [digit_toNat, show (UInt8.ofNat (48 + u % 10) :: c :: l).length = 1 + (l.length + 1) by simp; omega]
            exact HO2.out
          case measure => simp [intOf]; omega
    · obtain rfl : u = 0 := by omega
      have hl := HE.out
      rw [dec0_zero, List.nil_append, dec0_eq 20 n h0 (by omega)] at hl
      subst hl
      obtain ⟨g, cap, rfl⟩ : ∃ g cap, v = .slice (some ⟨g, 0, none⟩) (Lib.decDigits n).length cap := by
        rcases HO.out.2 with ⟨_, h⟩ | ⟨g, cap, cur, h, _⟩
        · exact absurd (List.eq_nil_of_length_eq_zero h) (dec_ne n)
        · exact ⟨g, cap, h⟩
      have hcv := run_convert_bytes_back (P := Tryd.prog) W 51 9 5 ⟨g, 0, none⟩ cap (Lib.decDigits n) Tryd.underlying51 Tryd.underlying5 Tryd.underlying9 (fun j hj => HO.out.cells rfl j _ (by simp [cellsOf, List.getElem?_map, List.getElem?_eq_getElem hj]))
      clear HE HO
      have hi : Lib.itoa (n : Int) = Lib.decDigits n := by unfold Lib.itoa; rw [if_neg (by omega)]; simp
      have HI := Lib.hid hi
      clear hi
      have hlt : decide ((n : Int) < 0) = false := decide_eq_false (by omega)
      go_wp2_with fail
      go_ret
      exact ⟨by rw [HI.out]; rfl, HN.out⟩

set_option maxHeartbeats 4000000 in
theorem dec_neg (n : Nat) (h0 : 0 < n) (h1 : n ≤ 9223372036854775808) (w : World) :
    Calls Tryd.prog 27 #[.int .i64 (-(n : Int))] w fun e w' => e = .returned (.string ⟨(Lib.itoa (-(n : Int))).toArray⟩) ∧ Below w.heap.size w w' := by
  obtain ⟨i0, hi0, hz0, hz1, hz2⟩ := info_parts infoByte
  have hw : IntKind.u64.wrap (-IntKind.u64.wrap (-(n : Int))) = (n : Int) := by rw [IntKind.wrap_u64, IntKind.wrap_u64]; omega
  have hne : (-(n : Int) == 0) = false := by rw [beq_eq_false_iff_ne]; omega
  go_enter Tryd.func27, Tryd.ntmps27
  go_wp2_with fail
  go_loopw [3, 4] (fun vu vb wr => ∃ (u k : Nat) (l : List UInt8) (v : Value), vu = .int .u64 u ∧ v = vb ∧ k + l.length = 20 ∧ Hid (u < 10 ^ k) ∧ Hid (l = [] → v = .slice none 0 0) ∧ u ≤ n ∧ Hid (dec0 20 n = dec0 k u ++ l) ∧ wr.ownsRow w.heap.size 5 1 v l.length (cellsOf l) ∧ Below w.heap.size w wr) (fun vu _ _ => (intOf vu).toNat)
  case atStart => exact ⟨n, 20, [], _, rfl, rfl, rfl, Lib.hid (by omega), Lib.hid (fun _ => rfl), Nat.le_refl _, Lib.hid (by simp), World.ownsRow_nil _ _ _ _, Below.refl _ _⟩
  case round =>
    obtain ⟨u, k, l, v, rfl, rfl, hkl, HU, HNil, hun, HE, hown, hb⟩ := hrel
    rename World => W
    have HN := Lib.hid hb
    have HO := Lib.hid hown
    clear hb hown
    by_cases hu : 0 < u
    · obtain ⟨k, rfl⟩ : ∃ j, k = j + 1 := ⟨k - 1, by
        rcases k with _ | k
        · have := HU.out; simp at this; omega
        · omega⟩
      have HU2 : Hid (u / 10 < 10 ^ k) := Lib.hid (by have := HU.out; rw [Nat.div_lt_iff_lt_mul (by omega)]; rw [Nat.pow_succ] at this; exact this)
      have hm : ((u : Int)).tmod 10 = ((u % 10 : Nat) : Int) := by rw [Int.tmod_eq_emod_of_nonneg (by omega)]; omega
      have hd : ((u : Int)).tdiv 10 = ((u / 10 : Nat) : Int) := by rw [Int.tdiv_eq_ediv_of_nonneg (by omega)]; omega
      have hc : IntKind.u64.wrap (48 + ((u % 10 : Nat) : Int)) % 256 = ((UInt8.ofNat (48 + u % 10)).toNat : Int) := by
        rw [IntKind.wrap_u64, UInt8.toNat_ofNat']; omega
      rcases l with _ | ⟨c, l⟩
      · obtain rfl : v = .slice none 0 0 := HNil.out rfl
        clear HNil
        clear HO
        go_wp2_with fail
        go_roundw
        case rel =>
          refine ⟨u / 10, k, [UInt8.ofNat (48 + u % 10)], _, by go_num, rfl, by simp at hkl ⊢; omega, HU2, Lib.hid (fun h => by cases h), by omega, Lib.hid (dec0_step HE.out hu), ?_, HN.out.alloc HN.out.size _⟩
          have := own_lit w W (.int .u8 (48 + (u : Int) % 10)) HN.out.size
          show (W.alloc _).ownsRow _ _ _ _ _ [Value.int .u8 ((UInt8.ofNat (48 + u % 10)).toNat : Int)]
          rw [digit_toNat]; exact this
        case measure => simp [intOf]; omega
      · obtain ⟨g, cap, rfl⟩ : ∃ g cap, v = .slice (some ⟨g, 0, none⟩) (l.length + 1) cap := by
          rcases HO.out.2 with ⟨_, h⟩ | ⟨g, cap, cur, h, _⟩
          · simp at h
          · exact ⟨g, cap, h⟩
        have hl20 : l.length ≤ 20 := by simp at hkl; omega
        go_wp2_with (at_builtin; refine wpList_append_own _ rfl _ _ 51 rfl w.heap.size 5 i0 (.int .u8 0) 1 1 Tryd.underlying51 hi0 hz0 hz1 hz2 rfl (by decide) _ 1 [.int .u8 (48 + (u : Int) % 10)] rfl (own_lit w W _ HN.out.size) ⟨g, 0, none⟩ (l.length + 1) cap (cellsOf (c :: l)) rfl ?c0 ?c1 ?c2 ?c3 ?c4 ?c5 ?_)
        case c0 => simp [cellsOf]
        case c1 => exact (HO.out.alloc _).cells rfl
        case c2 => intro x hx; simp only [cellsOf, List.mem_map] at hx; obtain ⟨y, _, rfl⟩ := hx; rfl
        case c3 => unfold maxLen; omega
        case c4 => omega
        case c5 => have := HN.out.size; simp; omega
        · intro v' w1 hown' hgrow _
          have HN2 := Lib.hid (grow_lit HN.out hgrow)
          have HO2 := Lib.hid hown'
          clear hown' hgrow HO HN
          go_wp2_with fail
          go_roundw
          case rel =>
            refine ⟨u / 10, k, UInt8.ofNat (48 + u % 10) :: c :: l, v', by go_num, rfl, by simp at hkl ⊢; omega, HU2, Lib.hid (fun h => by cases h), by omega, Lib.hid (dec0_step HE.out hu), ?_, HN2.out⟩
            show w1.ownsRow _ _ _ _ _ (Value.int .u8 ((UInt8.ofNat (48 + u % 10)).toNat : Int) :: cellsOf (c :: l))
            rw [digit_toNat, show (UInt8.ofNat (48 + u % 10) :: c :: l).length = 1 + (l.length + 1) by simp; omega]
            exact HO2.out
          case measure => simp [intOf]; omega
    · obtain rfl : u = 0 := by omega
      have hl := HE.out
      rw [dec0_zero, List.nil_append, dec0_eq 20 n h0 (by omega)] at hl
      subst hl
      obtain ⟨g, cap, rfl⟩ : ∃ g cap, v = .slice (some ⟨g, 0, none⟩) (Lib.decDigits n).length cap := by
        rcases HO.out.2 with ⟨_, h⟩ | ⟨g, cap, cur, h, _⟩
        · exact absurd (List.eq_nil_of_length_eq_zero h) (dec_ne n)
        · exact ⟨g, cap, h⟩
      have hi : Lib.itoa (-(n : Int)) = 45 :: Lib.decDigits n := by
        unfold Lib.itoa; rw [if_pos (by omega), show (-(n : Int)).natAbs = n by omega]
      have HI := Lib.hid hi
      have HD := Lib.hid (show (Lib.decDigits n).length ≤ 20 from by
        rw [Lib.decDigits_length]
        have := Lib.numDigits_eq n (by omega) (by omega)
        split at this <;> omega)
      clear hi HE
      go_wp2_with (at_builtin; refine wpList_append_own _ rfl _ _ 51 rfl w.heap.size 5 i0 (.int .u8 0) 1 1 Tryd.underlying51 hi0 hz0 hz1 hz2 rfl (by decide) _ 1 [.int .u8 45] rfl (own_lit w W _ HN.out.size) ⟨g, 0, none⟩ (Lib.decDigits n).length cap (cellsOf (Lib.decDigits n)) rfl ?c0 ?c1 ?c2 ?c3 ?c4 ?c5 ?_)
      case c0 => simp [cellsOf]
      case c1 => exact (HO.out.alloc _).cells rfl
      case c2 => intro x hx; simp only [cellsOf, List.mem_map] at hx; obtain ⟨y, _, rfl⟩ := hx; rfl
      case c3 => have := HD.out; unfold maxLen; omega
      case c4 => have := HD.out; omega
      case c5 => have := HN.out.size; simp; omega
      intro v' w1 hown' hgrow _
      have HN2 := Lib.hid (grow_lit HN.out hgrow)
      obtain ⟨g', cap', rfl⟩ : ∃ g' cap', v' = .slice (some ⟨g', 0, none⟩) (1 + (Lib.decDigits n).length) cap' := by
        rcases hown'.2 with ⟨_, h⟩ | ⟨g, cap, cur, h, _⟩
        · omega
        · exact ⟨g, cap, h⟩
      have hcv := run_convert_bytes_back (P := Tryd.prog) w1 51 9 5 ⟨g', 0, none⟩ cap' (45 :: Lib.decDigits n) Tryd.underlying51 Tryd.underlying5 Tryd.underlying9 (fun j hj => hown'.cells rfl j _ (by
        show (cellsOf (45 :: Lib.decDigits n))[j]? = _
        simp only [cellsOf, List.getElem?_map, List.getElem?_eq_getElem hj, Option.map_some]))
      rw [show (45 :: Lib.decDigits n).length = 1 + (Lib.decDigits n).length by simp; omega] at hcv
      clear HO hown' hgrow HN
      go_wp2_with fail
      go_ret
      exact ⟨by rw [HI.out]; rfl, HN2.out⟩

theorem dec_0 (w : World) : Calls Tryd.prog 27 #[.int .i64 0] w fun e w' => e = .returned (.string ⟨#[48]⟩) ∧ w = w' := by
  go_enter Tryd.func27, Tryd.ntmps27
  go_wp2_with fail
  go_ret
  exact ⟨rfl, rfl⟩
/-- The reference's numeral is the one that strconv writes. -/
theorem dec_any (n : Int) (h0 : -9223372036854775808 ≤ n) (h1 : n ≤ 9223372036854775807) (w : World) :
    Calls Tryd.prog 27 #[.int .i64 n] w fun e w' => e = .returned (.string ⟨(Lib.itoa n).toArray⟩) ∧ Below w.heap.size w w' := by
  rcases Int.lt_trichotomy n 0 with h | h | h
  · obtain ⟨m, rfl⟩ : ∃ m : Nat, n = -(m : Int) := ⟨n.natAbs, by omega⟩
    exact dec_neg m (by omega) (by omega) w
  · subst h
    rw [itoa_0]
    exact (dec_0 w).mono fun e w' ⟨h1, h2⟩ => ⟨h1, h2 ▸ Below.refl _ _⟩
  · obtain ⟨m, rfl⟩ : ∃ m : Nat, n = (m : Int) := ⟨n.toNat, by omega⟩
    exact dec_pos m (by omega) (by omega) w
end Go.Proofs.YtjepjheklnaidaaDoor
