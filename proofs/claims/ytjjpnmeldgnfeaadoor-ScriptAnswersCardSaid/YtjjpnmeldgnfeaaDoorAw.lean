/-
  What the document fixes: the law's own 'awake'.
-/
import Derived.Test.YtjjpnmeldgnfeaaDoorRa
namespace Go.Proofs.YtjjpnmeldgnfeaaDoor
open Go Go.RowKit Go.Proofs.YtjjpnmeldgnfeaaDoor.PScriptTexts Go.Proofs.YtjjpnmeldgnfeaaDoorW.PrintWords
set_option maxRecDepth 100000

theorem itoa_one (n : Nat) (h : n < 10) : Lib.itoa (n : Int) = [UInt8.ofNat (48 + n)] := by
  unfold Lib.itoa
  rw [if_neg (by omega), show ((n : Nat) : Int).toNat = n by omega, Lib.decDigits_one h]
def pA : S42 := ⟨5, pad40 [255]⟩
theorem bytes_A : bytesP (pad40 [255]) = [102, 102] := by rw [bytesP_pad]; decide +kernel
theorem text_A : textO ⟨3, 0, 0, 0, [pA]⟩ = [119, 114, 105, 116, 101, 32, 48, 32, 53, 32, 102, 102] := by
  have h0 := itoa_one 0 (by decide)
  have h5 := itoa_one 5 (by decide)
  simp only [textO, textP, putsP, List.flatMap_cons, List.flatMap_nil, pA, bytes_A]
  rw [show (0 : Int) = ((0 : Nat) : Int) from rfl, show (5 : Int) = ((5 : Nat) : Int) from rfl, h0, h5]
  decide
theorem cn_A : Cn ⟨3, 0, 0, 0, [pA]⟩ := .write 0 [pA] in40_zero (fun p hp => by
  rcases List.mem_singleton.1 hp with rfl
  exact ⟨⟨by decide, by decide⟩, pad40_range _ (fun x hx => by rcases List.mem_singleton.1 hx with rfl; exact ⟨by decide, by decide⟩), by decide⟩)
theorem text_R : textP 2 0 3 1 [] = [114, 101, 97, 100, 32, 48, 32, 51, 32, 49] := by
  have h0 := itoa_one 0 (by decide)
  have h1 := itoa_one 1 (by decide)
  have h3 := itoa_one 3 (by decide)
  unfold textP
  rw [if_neg (by decide), if_pos rfl, show (0 : Int) = ((0 : Nat) : Int) from rfl, show (3 : Int) = ((3 : Nat) : Int) from rfl, show (1 : Int) = ((1 : Nat) : Int) from rfl, h0, h1, h3]
  decide
theorem parse_A (w : World) (E : Env w) : Calls Tryd.prog 11 #[.string ⟨#[119, 114, 105, 116, 101, 32, 48, 32, 53, 32, 102, 102]⟩] w fun e w' =>
    ∃ ad cap ad2 c2, e = .returned (.tuple #[.agg #[.int .i64 3, .int .i64 0, .int .i64 0, .int .i64 0, .slice (some ad) 1 cap], .int .i64 0]) ∧ 1 ≤ cap ∧ w'.cell? ⟨ad.block, ad.off + 1, none⟩ = some (.slice (some ad2) 40 c2) ∧ 1 ≤ c2 ∧ w'.cell? ad2 = some (.int .u8 255) ∧ Below w.heap.size w w' := by
  have h := parse_any ⟨#[119, 114, 105, 116, 101, 32, 48, 32, 53, 32, 102, 102]⟩ (by decide) w E
  have e : parseR (⟨#[119, 114, 105, 116, 101, 32, 48, 32, 53, 32, 102, 102]⟩ : ByteArray).data.toList = (⟨3, 0, 0, 0, [pA]⟩, 0) := by
    have := parseR_C cn_A
    rw [text_A] at this; exact this
  rw [e] at h
  refine h.mono ?_
  rintro e w' ⟨A, cap, rfl, hC, hcap, hb⟩
  obtain ⟨ad, A1, c1, rfl, x0, x1, hl, hC1⟩ := at_T42 hC 0 (by decide) (by decide)
  have hr : rd_T42 (OpD.l ⟨3, 0, 0, 0, [pA]⟩) 0 = pA := rfl
  rw [hr] at x1 hl hC1
  have hlen : pA.f1.length = 40 := by decide
  obtain ⟨ad2, rfl, x2⟩ := row_cell hC1 0 (by decide)
  rw [hlen] at x1 hl
  rw [Addr.add_zero'] at x2
  rw [show (0 : Int).toNat * 2 = 0 from rfl, Addr.add_zero'] at x1
  refine ⟨ad, cap, ad2, c1, rfl, hcap, x1, by omega, ?_, hb⟩
  rw [x2]
  rfl
theorem text_at (w : World) (E : Env w) : Calls Tryd.prog 13 #[.agg #[.int .i64 2, .int .i64 0, .int .i64 3, .int .i64 1, .slice none 0 0]] w fun e w' => e = .returned (.string ⟨#[114, 101, 97, 100, 32, 48, 32, 51, 32, 49]⟩) ∧ Below w.heap.size w w' := by
  have := stext_any 2 0 3 1 [] none 0 w E ⟨by decide, by decide⟩ ⟨by decide, by decide⟩ ⟨by decide, by decide⟩ (C_nil42 w) (fun p hp => by cases hp) (by decide)
  rw [text_R] at this
  exact this
theorem box_at {w1 w2 : World} {cs : Array Value} {t : TypeId} (b : Below (w1.alloc (.cells cs t)).heap.size (w1.alloc (.cells cs t)) w2) (i : Nat) (v : Value) (hv : cs[i]? = some v) : w2.cell? ⟨w1.heap.size, i, none⟩ = some v :=
  box_cell (b.mono (by simp)) i v hv
theorem keep_at {w1 w2 : World} {o : Obj} {p : Addr} {v : Value} (b : Below (w1.alloc o).heap.size (w1.alloc o) w2) (h : w1.cell? p = some v) : w2.cell? p = some v :=
  (b.cell (World.block_lt_of_cell? _ _ (alloc_cell h o))).trans (alloc_cell h o)
set_option maxHeartbeats 4000000 in
theorem awake_any (w : World) (E : Env w) : Calls Tryd.prog 10 #[] w fun e w' => e = .returned (.bool true) ∧ Below w.heap.size w w' := by
  have HP := Lib.hid (parse_A w E)
  go_enter Tryd.func10, Tryd.ntmps10
  go_wp2_with (first
    | (go_at_call 11; refine HP.out.mono ?_; rintro e w1 ⟨ad, cap, ad2, c2, rfl, hcap, x0, hc2, x1, b1⟩; have B1 := Lib.hid b1; have X0 := Lib.hid x0; have X1 := Lib.hid x1; clear b1 x0 x1)
    | (go_at_call 13; refine (text_at _ (E.below ((below_trans B1.out ((Below.refl _ _).alloc (Nat.le_refl _) _))))).mono ?_; rintro e w2 ⟨rfl, b2⟩; have B2 := Lib.hid b2; have k4 := box_at b2 4 (.slice (some ad) 1 cap) (by rfl); have k1 := keep_at b2 X0.out; have k2 := keep_at b2 X1.out; clear b2))
  go_ret
  exact ⟨rfl, (below_trans B1.out ((Below.refl _ _).alloc (Nat.le_refl _) _)).trans (B2.out.mono (below_trans B1.out ((Below.refl _ _).alloc (Nat.le_refl _) _)).size)⟩
end Go.Proofs.YtjjpnmeldgnfeaaDoor
