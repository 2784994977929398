/-
  The walk of the law ScriptTexts.
-/
import Derived.Test.YtjjpnmeldgnfeaaDoorAw
namespace Go.Proofs.YtjjpnmeldgnfeaaDoor
open Go Go.RowKit Go.Proofs.YtjjpnmeldgnfeaaDoor.PScriptTexts Go.Proofs.YtjjpnmeldgnfeaaDoorW.PrintWords
set_option maxRecDepth 100000

theorem parseR_len (s : List UInt8) : (parseR s).1.l.length ≤ s.length + 1 := by
  unfold parseR
  split
  · exact Nat.zero_le _
  · rename_i o ho
    split
    · have h1 := (parseO_ok _ _ ho).2.2.2.2.1
      have h2 := spl_length s []
      dsimp only
      omega
    · exact Nat.zero_le _
theorem blk_below {W W' : World} {b : Nat} {o : Obj} (h : W.heap[b]? = some o) (k : Below W.heap.size W W') : W'.heap[b]? = some o :=
  (k.block b (by rw [Array.getElem?_eq_some_iff] at h; exact h.1)).trans h
/-- An op's block. -/
abbrev OpB (W : World) (b : Nat) (k h lba len : Int) (v : Value) : Prop := W.heap[b]? = some (.cells #[.int .i64 k, .int .i64 h, .int .i64 lba, .int .i64 len, v] 24 (0, 0))
theorem OpB.below {W W' : World} {b : Nat} {k h lba len : Int} {v : Value} (h1 : OpB W b k h lba len v) (k1 : Below W.heap.size W W') : OpB W' b k h lba len v := blk_below h1 k1
theorem OpB.new (W : World) (k h lba len : Int) (v : Value) : OpB (W.alloc (.cells #[.int .i64 k, .int .i64 h, .int .i64 lba, .int .i64 len, v] 24)) W.heap.size k h lba len v := heap_alloc_new W _
theorem OpB.alloc {W : World} {b : Nat} {k h lba len : Int} {v : Value} (h1 : OpB W b k h lba len v) (o : Obj) : OpB (W.alloc o) b k h lba len v := h1.below ((Below.refl _ _).alloc (Nat.le_refl _) _)
set_option maxHeartbeats 16000000 in
theorem texts_all (k h lba len : Int) (A : Option Addr) (l : List S42) (c : Nat) (s : ByteArray) (w : World) (E : Env w) (_ : I64 k) (ih : I64 h) (il : I64 lba) (in_ : I64 len) (hC : Kd.C k42 w A l.length l) (hc : l.length ≤ c) (hok : PutsOk l) (hl : l.length ≤ 140737488351232) :
    Calls Tryd.prog 3 #[.agg #[.int .i64 k, .int .i64 h, .int .i64 lba, .int .i64 len, .slice A l.length c], .string s] w fun e w' => e = .returned (.bool true) ∧ Below w.heap.size w w' := by
  have b0 : Below w.heap.size w (w.alloc (.cells #[.int .i64 k, .int .i64 h, .int .i64 lba, .int .i64 len, .slice A l.length c] 24)) := (Below.refl _ _).alloc (Nat.le_refl _) _
  have B0 := Lib.hid b0
  have O0 := Lib.hid (OpB.new w k h lba len (.slice A l.length c))
  obtain ⟨r, hr, hcall⟩ := puts_any A c l _ (Kd.C_below hC b0) hc hl
  have HC := Lib.hid hcall
  clear hcall b0
  by_cases g1 : r > 3000
  · go_enter Tryd.func3, Tryd.ntmps3
    go_wp2_with (first
      | (go_at_call 9; refine HC.out.mono ?_; rintro e w2 ⟨rfl, b2⟩; have B2 := Lib.hid (below_trans B0.out b2); clear b2)
      | (go_at_call 10; refine (awake_any _ (E.below B2.out)).mono ?_; rintro e w3 ⟨rfl, b3⟩; have B3 := Lib.hid (below_trans B2.out b3); clear b3))
    go_ret
    exact ⟨rfl, B3.out⟩
  · by_cases g2 : (s.size : Int) > 3000
    · go_enter Tryd.func3, Tryd.ntmps3
      go_wp2_with (first
        | (go_at_call 9; refine HC.out.mono ?_; rintro e w2 ⟨rfl, b2⟩; have B2 := Lib.hid (below_trans B0.out b2); clear b2)
        | (go_at_call 10; refine (awake_any _ (E.below B2.out)).mono ?_; rintro e w3 ⟨rfl, b3⟩; have B3 := Lib.hid (below_trans B2.out b3); clear b3))
      go_ret
      exact ⟨rfl, B3.out⟩
    · have hsm := hr (by omega)
      have HT := Lib.hid (fun W (b : Below w.heap.size w W) => stext_any k h lba len l A c W (E.below b) ih il in_ (Kd.C_below hC b) hok (by omega))
      have HT2 := Lib.hid (fun W (b : Below w.heap.size w W) => rtext_any k h lba len l A c W ih il in_ (Kd.C_below hC b) hok (by omega))
      have HP := Lib.hid (fun W E => parse_any s (by omega) W E)
      have HP2 := Lib.hid (fun W => rparse_any s (by omega) W)
      have hpl := parseR_len s.data.toList
      rw [datalen] at hpl
      have HPL := Lib.hid hpl
      clear hr hC hc hok hl hsm ih il in_ hpl
      generalize textP k h lba len l = tx at HT HT2
      generalize parseR s.data.toList = q at HP HP2 HPL
      obtain ⟨⟨k', h', lba', len', l'⟩, cd⟩ := q
      dsimp only at HP HP2 HPL
      have e1 : (tx == tx) = true := by simp
      have e2 : (cd == cd) = true := by simp
      go_enter Tryd.func3, Tryd.ntmps3
      go_upto_region 5 with (first
        | (go_at_call 9; refine HC.out.mono ?_; rintro e w2 ⟨rfl, b2⟩; have B2 := Lib.hid (below_trans B0.out b2); have O2 := Lib.hid (O0.out.below b2); clear b2)
        | (go_at_call 11; refine (HP.out _ (E.below B2.out)).mono ?_; rintro e w3 ⟨A3, c3, rfl, C3, hc3, b3⟩; have B3 := Lib.hid (below_trans B2.out b3); have O3 := Lib.hid (O2.out.below b3); have D3 := Lib.hid C3; clear b3 C3)
        | (go_at_call 12; refine (HP2.out _).mono ?_; rintro e w5 ⟨A5, c5, rfl, C5, hc5, b5⟩; have B5 := Lib.hid (below_trans (B3.out.alloc B3.out.size _) b5); have O5 := Lib.hid ((O3.out.alloc _).below b5); have P5 := Lib.hid ((OpB.new w3 k' h' lba' len' (.slice A3 l'.length c3)).below b5); have D5 := Lib.hid (Kd.C_below D3.out (((Below.refl _ _).alloc (Nat.le_refl _) _).trans (b5.mono (by simp)))); have F5 := Lib.hid C5; clear b5 C5))
      have B6 := Lib.hid (B5.out.alloc B5.out.size (.cells #[.int .i64 k', .int .i64 h', .int .i64 lba', .int .i64 len', .slice A5 l'.length c5] 24))
      have bn : Below w5.heap.size w5 (w5.alloc (.cells #[.int .i64 k', .int .i64 h', .int .i64 lba', .int .i64 len', .slice A5 l'.length c5] 24)) := (Below.refl _ _).alloc (Nat.le_refl _) _
      have O6 := Lib.hid (O5.out.below bn)
      have P6 := Lib.hid (P5.out.below bn)
      have Q6 := Lib.hid (OpB.new w5 k' h' lba' len' (.slice A5 l'.length c5))
      have D6 := Lib.hid (Kd.C_below D5.out bn)
      have F6 := Lib.hid (Kd.C_below F5.out bn)
      clear bn B0 O0 HC B2 O2 B3 O3 D3 B5 O5 P5 D5 F5 HP HP2
      generalize w5.alloc (.cells #[.int .i64 k', .int .i64 h', .int .i64 lba', .int .i64 len', .slice A5 l'.length c5] 24) = W6 at *
      have B7 := Lib.hid (below_trans B6.out (below_drew W6))
      have O7 := Lib.hid (O6.out.below (below_drew W6))
      have P7 := Lib.hid (P6.out.below (below_drew W6))
      have Q7 := Lib.hid (Q6.out.below (below_drew W6))
      have D7 := Lib.hid (Kd.C_below D6.out (below_drew W6))
      have F7 := Lib.hid (Kd.C_below F6.out (below_drew W6))
      obtain ⟨⟨a0, a1, a2, a3, a4⟩, -⟩ := five O6.out; obtain ⟨⟨p0, p1, p2, p3, p4⟩, -⟩ := five P6.out; obtain ⟨⟨q0, q1, q2, q3, q4⟩, -⟩ := five Q6.out
      go_region_held3 (fun w' => w'.cell? ⟨w.heap.size, 0, none⟩ = some (.int .i64 k) ∧ w'.cell? ⟨w.heap.size, 1, none⟩ = some (.int .i64 h) ∧ w'.cell? ⟨w.heap.size, 2, none⟩ = some (.int .i64 lba) ∧ w'.cell? ⟨w.heap.size, 3, none⟩ = some (.int .i64 len) ∧ w'.cell? ⟨w.heap.size, 4, none⟩ = some (.slice A l.length c) ∧ w'.cell? ⟨w3.heap.size, 0, none⟩ = some (.int .i64 k') ∧ w'.cell? ⟨w3.heap.size, 1, none⟩ = some (.int .i64 h') ∧ w'.cell? ⟨w3.heap.size, 2, none⟩ = some (.int .i64 lba') ∧ w'.cell? ⟨w3.heap.size, 3, none⟩ = some (.int .i64 len') ∧ w'.cell? ⟨w3.heap.size, 4, none⟩ = some (.slice A3 l'.length c3) ∧ w'.cell? ⟨w5.heap.size, 0, none⟩ = some (.int .i64 k') ∧ w'.cell? ⟨w5.heap.size, 1, none⟩ = some (.int .i64 h') ∧ w'.cell? ⟨w5.heap.size, 2, none⟩ = some (.int .i64 lba') ∧ w'.cell? ⟨w5.heap.size, 3, none⟩ = some (.int .i64 len') ∧ w'.cell? ⟨w5.heap.size, 4, none⟩ = some (.slice A5 l'.length c5)) (go_keep)
        (first
          | (go_at_call 13; refine (HT.out _ B7.out).mono ?_; rintro e w8 ⟨rfl, b8⟩; clear a0 a1 a2 a3 a4 p0 p1 p2 p3 p4 q0 q1 q2 q3 q4; have B8 := Lib.hid (below_trans B7.out b8); have O8 := Lib.hid (O7.out.below b8); have P8 := Lib.hid (P7.out.below b8); have Q8 := Lib.hid (Q7.out.below b8); have D8 := Lib.hid (Kd.C_below D7.out b8); have F8 := Lib.hid (Kd.C_below F7.out b8); obtain ⟨⟨a0, a1, a2, a3, a4⟩, -⟩ := five O8.out; obtain ⟨⟨p0, p1, p2, p3, p4⟩, -⟩ := five P8.out; obtain ⟨⟨q0, q1, q2, q3, q4⟩, -⟩ := five Q8.out; clear b8)
          | (go_at_call 14; refine (HT2.out _ B8.out).mono ?_; rintro e w9 ⟨rfl, b9⟩; clear a0 a1 a2 a3 a4 p0 p1 p2 p3 p4 q0 q1 q2 q3 q4; have B9 := Lib.hid (below_trans B8.out b9); have O9 := Lib.hid (O8.out.below b9); have P9 := Lib.hid (P8.out.below b9); have Q9 := Lib.hid (Q8.out.below b9); have D9 := Lib.hid (Kd.C_below D8.out b9); have F9 := Lib.hid (Kd.C_below F8.out b9); obtain ⟨⟨a0, a1, a2, a3, a4⟩, -⟩ := five O9.out; obtain ⟨⟨p0, p1, p2, p3, p4⟩, -⟩ := five P9.out; obtain ⟨⟨q0, q1, q2, q3, q4⟩, -⟩ := five Q9.out; clear b9)
          | (go_at_call 15; refine (same_any k' h' lba' len' l' A3 A5 c3 c5 _ D9.out F9.out (by have := HPL.out; omega)).mono ?_; rintro e w10 ⟨rfl, b10⟩; clear a0 a1 a2 a3 a4 p0 p1 p2 p3 p4 q0 q1 q2 q3 q4; have B10 := Lib.hid (below_trans B9.out b10); have O10 := Lib.hid (O9.out.below b10); have P10 := Lib.hid (P9.out.below b10); have Q10 := Lib.hid (Q9.out.below b10); have D10 := Lib.hid (Kd.C_below D9.out b10); have F10 := Lib.hid (Kd.C_below F9.out b10); obtain ⟨⟨a0, a1, a2, a3, a4⟩, -⟩ := five O10.out; obtain ⟨⟨p0, p1, p2, p3, p4⟩, -⟩ := five P10.out; obtain ⟨⟨q0, q1, q2, q3, q4⟩, -⟩ := five Q10.out; clear b10)
          | (go_at_call 10; refine (awake_any _ (E.below B10.out)).mono ?_; rintro e w11 ⟨rfl, b11⟩; clear a0 a1 a2 a3 a4 p0 p1 p2 p3 p4 q0 q1 q2 q3 q4; have B11 := Lib.hid (below_trans B10.out b11); have O11 := Lib.hid (O10.out.below b11); have P11 := Lib.hid (P10.out.below b11); have Q11 := Lib.hid (Q10.out.below b11); have D11 := Lib.hid (Kd.C_below D10.out b11); have F11 := Lib.hid (Kd.C_below F10.out b11); obtain ⟨⟨a0, a1, a2, a3, a4⟩, -⟩ := five O11.out; obtain ⟨⟨p0, p1, p2, p3, p4⟩, -⟩ := five P11.out; obtain ⟨⟨q0, q1, q2, q3, q4⟩, -⟩ := five Q11.out; clear b11))
      all_goals
        go_wp2_with fail
        go_ret
        exact ⟨rfl, B11.out⟩
end Go.Proofs.YtjjpnmeldgnfeaaDoor
