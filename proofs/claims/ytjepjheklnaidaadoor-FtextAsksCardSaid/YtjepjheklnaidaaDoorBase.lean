/-
  The contracts of Bits, From and Same, of fbits and of its reference. Conditions: an argument that is a float64's word, or a uint64.
-/
import Derived.Test.YtjepjheklnaidaaDoorRows
import Derived.Test.YtjepjheklnaidaaDoorNum
import Derived.Test.YtjepjheklnaidaaDoorHexw
import Derived.Test.YtjepjheklnaidaaDoorPu
import Derived.WalkKit
import Derived.WalkSpells
import Derived.WalkLawsBesides
import Derived.Laws.FloatArith
import Derived.Laws.Externs
import Derived.Lib.Hide
namespace Go.Proofs.YtjepjheklnaidaaDoor
open Go.RowKit F64
set_option maxRecDepth 100000

theorem ord_self_nan {x : Nat} (h : isNaN x = true) : (FloatKind.f64.format.order x x != some .eq) = true := by
  show (Ieee.double.order x x != some .eq) = true
  rw [order_nan_left h]; rfl
theorem ord_self_num {x : Nat} (h : isNaN x = false) : (FloatKind.f64.format.order x x != some .eq) = false := by
  show (Ieee.double.order x x != some .eq) = false
  rw [order_eq h h, compare_same]; rfl

@[go_sem] theorem callFrom (v : Int) (w : World) : (callFunc 28 #[.int .u64 v]).run Tryd.prog w = .ok (.value (.float .f64 v.toNat)) w :=
  (run_callFunc_extern (e := Extern.MathFloatBits.float64frombits) Tryd.func28 (by kernel_rfl) (by kernel_rfl) (by kernel_rfl) (by kernel_rfl) _ w).trans rfl
@[go_sem] theorem callBits (b : Nat) (w : World) : (callFunc 31 #[.float .f64 b]).run Tryd.prog w = .ok (.value (.int .u64 (b : Int))) w :=
  (run_callFunc_extern (e := Extern.MathFloatBits.float64bits) Tryd.func31 (by kernel_rfl) (by kernel_rfl) (by kernel_rfl) (by kernel_rfl) _ w).trans rfl

set_option maxHeartbeats 400000 in
theorem bits_any (x : Nat) (w : World) : Calls Tryd.prog 19 #[.float .f64 x] w fun e w' => e = .returned (.int .u64 (bitsF x : Nat)) ∧ w = w' := by
  cases h : isNaN x
  · have e : bitsF x = x := bitsF_num h
    rw [e]
    have h1 := ord_self_num h
    clear h e
    go_enter Tryd.func19, Tryd.ntmps19
    go_wp2
    go_ret
    exact ⟨rfl, rfl⟩
  · have e : bitsF x = QNAN := by unfold bitsF; simp [h]
    rw [e]
    have h1 := ord_self_nan h
    clear h e
    go_enter Tryd.func19, Tryd.ntmps19
    go_wp2
    go_ret
    exact ⟨rfl, rfl⟩

set_option maxHeartbeats 400000 in
theorem from_any (v : Int) (w : World) : Calls Tryd.prog 18 #[.int .u64 v] w fun e w' => e = .returned (.float .f64 (bitsF v.toNat)) ∧ w = w' := by
  go_enter Tryd.func18, Tryd.ntmps18
  go_wp2_with (go_at_call 19; refine (bits_any _ _).mono ?_; rintro e w1 ⟨rfl, rfl⟩)
  go_ret
  exact ⟨rfl, rfl⟩

theorem rbits_any (x : Nat) (w : World) : Calls Tryd.prog 21 #[.float .f64 x] w fun e w' => e = .returned (.int .u64 (bitsF x : Nat)) ∧ w = w' := by
  cases h : isNaN x
  · have e : bitsF x = x := by unfold bitsF; simp [h]
    rw [e]
    have h1 := ord_self_num h
    clear h e
    go_enter Tryd.func21, Tryd.ntmps21
    go_wp2
    go_ret
    exact ⟨rfl, rfl⟩
  · have e : bitsF x = QNAN := by unfold bitsF; simp [h]
    rw [e]
    have h1 := ord_self_nan h
    clear h e
    go_enter Tryd.func21, Tryd.ntmps21
    go_wp2
    go_ret
    exact ⟨rfl, rfl⟩

theorem beyond {n : Nat} (hn : n < 2 ^ 64) : decide (9218868437227405312 < bits .andNot .u64 (n : Int) 9223372036854775808) = isNaN n := by
  rw [andNot_sign hn]
  have h := @isNaN_iff n
  have hI := INF_val
  cases hh : isNaN n
  · rw [decide_eq_false_iff_not]
    have := isNaN_false.1 hh; omega
  · rw [decide_eq_true_iff]
    have := h.1 hh; omega

set_option maxHeartbeats 400000 in
theorem rfrom_any (n : Nat) (w : World) (hn : n < 2 ^ 64) : Calls Tryd.prog 16 #[.int .u64 (n : Int)] w fun e w' => e = .returned (.float .f64 (bitsF n)) ∧ w = w' := by
  have h1 := beyond hn
  clear hn
  cases h : isNaN n
  · have e : bitsF n = n := by unfold bitsF; simp [h]
    rw [e]
    rw [h] at h1
    clear h e
    go_enter Tryd.func16, Tryd.ntmps16
    go_wp2
    go_ret
    exact ⟨rfl, rfl⟩
  · have e : bitsF n = QNAN := by unfold bitsF; simp [h]
    rw [e]
    rw [h] at h1
    clear h e
    go_enter Tryd.func16, Tryd.ntmps16
    go_wp2
    go_ret
    exact ⟨rfl, rfl⟩

set_option maxHeartbeats 400000 in
theorem rsame_any (x y : Nat) (w : World) : Calls Tryd.prog 11 #[.float .f64 x, .float .f64 y] w fun e w' => e = .returned (.bool (sameB x y)) ∧ w = w' := by
  go_enter Tryd.func11, Tryd.ntmps11
  go_wp2_with (go_at_call 21; refine (rbits_any _ _).mono ?_; rintro e w1 ⟨rfl, rfl⟩)
  go_ret
  exact ⟨by unfold sameB; rfl, rfl⟩

/-- What the start-up code laid, as far as the texts of numbers ask for it. -/
structure Env (w : World) : Prop where
  tz : w.cell? ⟨6, 15, none⟩ = some (.int .u8 4)
  tab : Lib.TabIs Tryd.prog w "internal/strconv.uint64pow10" .u64 Lib.pow10Tab
  syn : ∃ te pe, w.cell? ⟨2, 0, none⟩ = some (.iface te pe)
  rng : ∃ te pe, w.cell? ⟨3, 0, none⟩ = some (.iface te pe)

theorem tabIs_below {P : Program} {w w' : World} {name : String} {k : IntKind} {zs : List Int} (h : Lib.TabIs P w name k zs) (hb : Below w.heap.size w w') : Lib.TabIs P w' name k zs := by
  unfold Lib.TabIs World.var? at *
  cases hg : P.globalNamed name with
  | none => simp [hg] at h
  | some g =>
    simp only [hg, Option.bind_some] at h ⊢
    have hlt : g < w.heap.size := by
      rcases Nat.lt_or_ge g w.heap.size with h' | h'
      · exact h'
      · rw [Array.getElem?_eq_none h'] at h; simp at h
    rw [hb.block g hlt]
    exact h
theorem cell_below {w w' : World} {g i : Nat} {v : Value} (h : w.cell? ⟨g, i, none⟩ = some v) (hb : Below w.heap.size w w') : w'.cell? ⟨g, i, none⟩ = some v := by
  rw [hb.cell (show (⟨g, i, none⟩ : Addr).block < w.heap.size from Lib.lt_of_cell h)]; exact h
theorem Env.below {w w' : World} (h : Env w) (hb : Below w.heap.size w w') : Env w' :=
  ⟨cell_below h.tz hb, tabIs_below h.tab hb, let ⟨te, pe, e⟩ := h.syn; ⟨te, pe, cell_below e hb⟩, let ⟨te, pe, e⟩ := h.rng; ⟨te, pe, cell_below e hb⟩⟩
theorem below_grow (w : World) (k : Nat) (os : Array Obj) : Below w.heap.size w (Sort.grow (w.drewN k) os) :=
  ⟨rfl, rfl, rfl, by show _ ≤ (w.heap ++ os).size; rw [Array.size_append]; omega, fun j hj => by show (w.heap ++ os)[j]? = _; rw [Array.getElem?_append_left hj]⟩
theorem below_trans {w w1 w2 : World} (h1 : Below w.heap.size w w1) (h2 : Below w1.heap.size w1 w2) : Below w.heap.size w w2 := h1.trans (h2.mono h1.size)

theorem ba_append (a b : List UInt8) : (⟨a.toArray⟩ ++ ⟨b.toArray⟩ : ByteArray) = ⟨(a ++ b).toArray⟩ := by
  apply ByteArray.ext
  show (ByteArray.append _ _).data = _
  simp [ByteArray.append]
theorem repeatL_one (c : UInt8) : ∀ n, Lib.repeatL [c] n = List.replicate n c
  | 0 => rfl
  | n + 1 => by rw [Lib.repeatL, repeatL_one c n]; rfl
theorem repeat_nought (n : Nat) (w : World) (hn : n ≤ 13) :
    Calls Tryd.prog 36 #[.string ⟨#[48]⟩, .int .i64 n] w fun e w' => e = .returned (.string ⟨(List.replicate n 48).toArray⟩) ∧ Below w.heap.size w w' := by
  have h := Tryd.strings_Repeat ⟨#[48]⟩ n w (by omega) (by show 1 * n ≤ _; omega)
  rw [show (⟨#[48]⟩ : ByteArray).data.toList = [48] from rfl, repeatL_one] at h
  exact h

/-- The digits of a fraction, without noughts at the end. -/
def hexT (f : Nat) : List UInt8 := Lib.trimRightB (hexN 13 f) 48

set_option maxHeartbeats 1000000 in
theorem hex_any (f : Nat) (hf : f < 2 ^ 52) (w : World) (E : Env w) :
    Calls Tryd.prog 25 #[.int .u64 f] w fun e w' => e = .returned (.string ⟨(hexT f).toArray⟩) ∧ Below w.heap.size w w' := by
  have HF := Lib.hid hf
  have HE := Lib.hid E
  clear hf E
  have hl : (hexF 16 f).length ≤ 13 := hexF_short 16 13 f (by omega) (by have := HF.out; rw [show (16 : Nat) ^ 13 = 2 ^ 52 by decide]; exact this)
  have hwr : wrap64 (13 - ((hexF 16 f).length : Int)) = ((13 - (hexF 16 f).length : Nat) : Int) := by unfold wrap64; omega
  have HP := Lib.hid (hexF_pad HF.out)
  have hFU := formatUint16 f (by have := HF.out; omega) w HE.out.tz
  clear HE HF
  generalize hexF 16 f = l at *
  have hn13 : 13 - l.length ≤ 13 := by omega
  generalize 13 - l.length = n at *
  have hni : (n : Int) = 13 - (l.length : Int) := by rw [← hwr]; unfold wrap64; omega
  have hRep := fun w => repeat_nought n w hn13
  rw [hni] at hRep
  have hzl : (List.replicate n (48 : UInt8)).length = n := List.length_replicate
  generalize List.replicate n (48 : UInt8) = z at hRep hzl HP
  have hap := ba_append z l
  have hsz : (⟨(z ++ l).toArray⟩ : ByteArray).size ≤ 9223372036854775807 := by simp [ByteArray.size]; omega
  have HTR := Lib.hid (fun w => Tryd.strings_TrimRight_one ⟨(z ++ l).toArray⟩ 48 (by decide) w hsz)
  have HRep := Lib.hid hRep
  have HFU := Lib.hid hFU
  have hzl2 : z.length + l.length ≤ 26 := by omega
  clear hsz hRep hFU hn13 hzl hwr hni
  go_enter Tryd.func25, Tryd.ntmps25
  go_wp2_with (first
    | (go_at_call 37; refine HFU.out.mono ?_; rintro e w1 ⟨rfl, hb⟩)
    | (go_at_call 36; refine (HRep.out _).mono ?_; rintro e w2 ⟨rfl, hb2⟩)
    | (go_at_call 38; refine (HTR.out _).mono ?_; rintro e w3 ⟨rfl, rfl⟩))
  go_ret
  refine ⟨?_, below_trans hb hb2⟩
  unfold hexT
  rw [← HP.out]
  rfl
attribute [irreducible] hexT
end Go.Proofs.YtjepjheklnaidaaDoor
