/-
  Two ops that are alike are told alike; two rows of bytes.
-/
import Derived.Test.YtjjpnmeldgnfeaaDoorRtw
import Derived.Deep.QuietTactic
import Derived.BigQuiet
namespace Go.Proofs.YtjjpnmeldgnfeaaDoor
open Go Go.RowKit Go.Proofs.YtjjpnmeldgnfeaaDoor.PScriptTexts Go.Proofs.YtjjpnmeldgnfeaaDoorW.PrintWords
set_option maxRecDepth 100000

theorem below_drewN' (w : World) : ∀ n, Below w.heap.size w (w.drewN n) := fun _ => ⟨rfl, rfl, rfl, Nat.le_refl _, fun _ _ => rfl⟩
theorem conv_bytes {w : World} {A : Option Addr} {n c : Nat} {l : List Int} (h : (Kd.int .u8).C w A n l) : (convert 35 9 (.slice A n c)).run Tryd.prog w = .ok (.string (strOfNums l)) w :=
  Kd.C_string Tryd.underlying35 Tryd.underlying5 Tryd.underlying9 h

set_option maxHeartbeats 4000000 in
theorem puts_same (A0 : Option Addr) (c0 : Nat) (A1 : Option Addr) (c1 : Nat) (l : List S42) (w : World) (h0 : Kd.C k42 w A0 l.length l) (h1 : Kd.C k42 w A1 l.length l) (hl : l.length ≤ 140737488351232) :
    Calls Tryd.prog 37 #[.slice A0 l.length c0, .slice A1 l.length c1] w fun e w' => e = .returned (.bool true) ∧ Below w.heap.size w w' := by
  have H0 := Lib.hid h0
  have H1 := Lib.hid h1
  clear h0 h1
  have q0 : ((l.length : Int) != (l.length : Int)) = false := by simp
  go_enter Tryd.func37, Tryd.ntmps37
  go_wp2_with fail
  go_loopw [5] (fun vi wr => ∃ k : Nat, k ≤ l.length ∧ vi = .int .i64 (k : Int) ∧ Hid (Below w.heap.size w wr)) (fun vi _ => l.length - (intOf vi).toNat)
  case atStart => exact ⟨0, Nat.zero_le _, rfl, Lib.hid (Below.refl _ _)⟩
  case round =>
    obtain ⟨k, hk, rfl, HB⟩ := hrel
    rename World => W
    by_cases hlt : k < l.length
    · obtain ⟨ad, B1, d1, hA, x0, x1, hl1, hC1⟩ := at_T42 (Kd.C_below H0.out HB.out) (k : Int) (by omega) (by omega)
      obtain ⟨ae, B2, d2, hE, y0, y1, hl2, hC2⟩ := at_T42 (Kd.C_below H1.out HB.out) (k : Int) (by omega) (by omega)
      subst hA hE
      rw [rdT_at l k hlt] at x0 x1 y0 y1 hC1 hC2
      rw [Int.toNat_natCast] at x0 x1 y0 y1
      generalize l[k] = p at x0 x1 y0 y1 hC1 hC2
      have e1 := conv_bytes (c := d1) hC1
      have e2 := conv_bytes (c := d2) hC2
      have e3 := conv_bytes (c := d1) (Kd.C_below hC1 (below_drew W))
      have e4 := conv_bytes (c := d2) (Kd.C_below hC2 (below_drew W))
      have e5 := fun n => conv_bytes (c := d1) (Kd.C_below hC1 (below_drewN' W n))
      have e6 := fun n => conv_bytes (c := d2) (Kd.C_below hC2 (below_drewN' W n))
      have s0 : (p.f0 != p.f0) = false := by simp
      have s1 : ((strOfNums p.f1).toList != (strOfNums p.f1).toList) = false := by simp
      have g1 : (0 : Int) ≤ (k : Int) := by omega
      have g2 : (k : Int) < (l.length : Int) := by omega
      clear hl1 hC1 hl2 hC2
      go_wp2_with fail
      go_quiet (fail)
      go_wp2_with fail
      go_roundw
      case rel => exact ⟨k + 1, by omega, by go_num, Lib.hid (below_trans HB.out (below_drewN' _ _))⟩
      case measure => simp [intOf]; omega
    · obtain rfl : k = l.length := by omega
      go_wp2_with fail
      go_ret
      exact ⟨rfl, HB.out⟩
set_option maxHeartbeats 2000000 in
theorem same_any (k h lba len : Int) (l : List S42) (A0 A1 : Option Addr) (c0 c1 : Nat) (w : World) (h0 : Kd.C k42 w A0 l.length l) (h1 : Kd.C k42 w A1 l.length l) (hl : l.length ≤ 140737488351232) :
    Calls Tryd.prog 15 #[.agg #[.int .i64 k, .int .i64 h, .int .i64 lba, .int .i64 len, .slice A0 l.length c0], .agg #[.int .i64 k, .int .i64 h, .int .i64 lba, .int .i64 len, .slice A1 l.length c1]] w fun e w' => e = .returned (.bool true) ∧ Below w.heap.size w w' := by
  have H := Lib.hid (fun w' (hb : Below w.heap.size w w') => puts_same A0 c0 A1 c1 l w' (Kd.C_below h0 hb) (Kd.C_below h1 hb) hl)
  have q1 : (k == k) = true := by simp
  have q2 : (h == h) = true := by simp
  have q3 : (lba == lba) = true := by simp
  have q4 : (len == len) = true := by simp
  clear h0 h1
  go_enter Tryd.func15, Tryd.ntmps15
  go_wp2_with (go_at_call 37; refine (H.out _ (below_box w _ _)).mono ?_; rintro e w1 ⟨rfl, b1⟩; have B1 := Lib.hid ((below_box w _ _).trans (b1.mono (below_box w _ _).size)); clear b1)
  go_ret
  exact ⟨rfl, B1.out⟩

/-! ### two rows of bytes -/
theorem row_cell {w : World} {A : Option Addr} {l : List Int} (h : (Kd.int .u8).C w A l.length l) (k : Nat) (hk : k < l.length) : ∃ ad, A = some ad ∧ w.cell? (ad.add k) = some (.int .u8 l[k]) := by
  obtain ⟨ad, c, e, hc, hK, hcell⟩ := Kd.C_get h 0 (k : Int) (by omega) (by omega)
  refine ⟨ad, e, ?_⟩
  have hK2 : c = [.int .u8 (l.getD (k : Int).toNat 0)] := hK
  subst hK2
  have := hcell 0 _ rfl
  rw [Int.toNat_natCast, List.getD_eq_getElem?_getD, List.getElem?_eq_getElem hk] at this
  simpa [Kd.int, Kd.scalar] using this
set_option maxHeartbeats 4000000 in
theorem alike_any (A0 A1 : Option Addr) (c0 c1 : Nat) (a b : List Int) (w : World) (h0 : (Kd.int .u8).C w A0 a.length a) (h1 : (Kd.int .u8).C w A1 b.length b) (hl : a.length ≤ 140737488351232) :
    Calls Tryd.prog 20 #[.slice A0 a.length c0, .slice A1 b.length c1] w fun e w' => e = .returned (.bool (decide (a = b))) ∧ Below w.heap.size w w' := by
  have H0 := Lib.hid (row_cell h0)
  have H1 := Lib.hid (row_cell h1)
  clear h0 h1
  by_cases hab : a.length = b.length
  · have q : ((a.length : Int) != (b.length : Int)) = false := by rw [bne_eq_false_iff_eq]; omega
    have HAB := Lib.hid hab
    go_enter Tryd.func20, Tryd.ntmps20
    go_wp2_with fail
    go_loopw [5] (fun vi wr => ∃ k : Nat, k ≤ a.length ∧ vi = .int .i64 (k : Int) ∧ Hid (a.take k = b.take k) ∧ Hid (Below w.heap.size w wr)) (fun vi _ => a.length - (intOf vi).toNat)
    case atStart => exact ⟨0, Nat.zero_le _, rfl, Lib.hid rfl, Lib.hid (Below.refl _ _)⟩
    case round =>
      obtain ⟨k, hk, rfl, HE, HB⟩ := hrel
      rename World => W
      by_cases hlt : k < a.length
      · have hlb : k < b.length := by have := HAB.out; omega
        obtain ⟨ad, hA, x0⟩ := H0.out k hlt
        obtain ⟨ae, hE, y0⟩ := H1.out k hlb
        replace x0 := (HB.out.cell (World.block_lt_of_cell? w _ x0)).trans x0
        replace y0 := (HB.out.cell (World.block_lt_of_cell? w _ y0)).trans y0
        subst hA hE
        have HS : Hid (a[k] = b[k] → a.take (k + 1) = b.take (k + 1)) := Lib.hid (fun h => by
          rw [List.take_succ_eq_append_getElem hlt, List.take_succ_eq_append_getElem hlb, HE.out, h])
        have HN : Hid (a[k] ≠ b[k] → a ≠ b) := Lib.hid (fun h e => h (by subst e; rfl))
        have g1 : (0 : Int) ≤ (k : Int) := by omega
        have g2 : (k : Int) < (a.length : Int) := by omega
        have g3 : (k : Int) < (b.length : Int) := by omega
        generalize a[k] = x at x0 HS HN
        generalize b[k] = y at y0 HS HN
        by_cases hxy : x = y
        · have s0 : (x != y) = false := by rw [hxy]; simp
          have HXY := Lib.hid hxy
          clear hxy
          go_wp2_with fail
          go_quiet (fail)
          go_wp2_with fail
          go_roundw
          case rel => exact ⟨k + 1, by omega, by go_num, Lib.hid (HS.out HXY.out), Lib.hid (below_trans HB.out (below_drewN' _ _))⟩
          case measure => simp [intOf]; omega
        · have s0 : (x != y) = true := by rw [bne_iff_ne]; exact hxy
          have hd : decide (a = b) = false := decide_eq_false (HN.out hxy)
          have HD := Lib.hid hd
          clear hd hxy
          go_wp2_with fail
          go_quiet (fail)
          go_wp2_with fail
          go_ret
          exact ⟨by rw [HD.out]; rfl, below_trans HB.out (below_drewN' _ _)⟩
      · obtain rfl : k = a.length := by omega
        have hd : decide (a = b) = true := decide_eq_true (by
          have e := HE.out
          rw [List.take_length, List.take_of_length_le (by have := HAB.out; omega)] at e; exact e)
        have HD := Lib.hid hd
        clear hd
        go_wp2_with fail
        go_ret
        exact ⟨by rw [HD.out]; rfl, HB.out⟩
  · have q : ((a.length : Int) != (b.length : Int)) = true := by rw [bne_iff_ne]; omega
    have hd : decide (a = b) = false := decide_eq_false (fun e => hab (by rw [e]))
    go_enter Tryd.func20, Tryd.ntmps20
    go_wp2_with fail
    go_ret
    exact ⟨by rw [hd]; rfl, Below.refl _ _⟩
end Go.Proofs.YtjjpnmeldgnfeaaDoor
