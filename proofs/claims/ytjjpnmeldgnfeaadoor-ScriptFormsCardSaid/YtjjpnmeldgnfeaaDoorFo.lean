/-
  The walk of the law ScriptForms.
-/
import Derived.Test.YtjjpnmeldgnfeaaDoorAw
import Derived.Test.YtjjpnmeldgnfeaaDoorFp
namespace Go.Proofs.YtjjpnmeldgnfeaaDoor
open Go Go.RowKit Go.Proofs.YtjjpnmeldgnfeaaDoor.PScriptTexts Go.Proofs.YtjjpnmeldgnfeaaDoorW.PrintWords
set_option maxRecDepth 100000

theorem putsP_len40 : ∀ (l : List S42), PutsOk l → okPuts l = true → (putsP l).length ≤ 105 * l.length ∧ lenSum l = 40 * l.length
  | [], _, _ => by simp [putsP, lenSum]
  | p :: r, hok, h40 => by
    have h1 := hok p (by simp)
    unfold okPuts at h40
    rw [List.all_cons, Bool.and_eq_true] at h40
    have hp : p.f1.length = 40 := by simpa using h40.1
    have ih := putsP_len40 r (fun q hq => hok q (by simp [hq])) h40.2
    have h2 := itoa_len p.f0 h1.1.1 h1.1.2
    have h3 := bytesP_len p.f1
    simp only [putsP, List.flatMap_cons, List.length_append, List.length_cons, lenSum, List.map_cons, List.sum_cons] at *
    omega
theorem textP_len (k h lba len : Int) (l : List S42) (ih : I64 h) (il : I64 lba) (in_ : I64 len) (hok : PutsOk l) (hsm : l.length + lenSum l ≤ 3000) : (textP k h lba len l).length ≤ 7900 := by
  have h1 := itoa_len h ih.1 ih.2
  have h2 := itoa_len lba il.1 il.2
  have h3 := itoa_len len in_.1 in_.2
  unfold textP
  split
  · simp
  · split
    · simp only [List.length_append, List.length_cons, List.length_nil]; omega
    · split
      · split
        · rename_i hk
          obtain ⟨p1, p2⟩ := putsP_len40 l hok hk
          simp only [List.length_append, List.length_cons, List.length_nil]; omega
        · simp
      · split
        · simp only [List.length_append, List.length_cons, List.length_nil]; omega
        · split
          · simp only [List.length_append, List.length_cons, List.length_nil]; omega
          · simp
/-- An op's block. -/
abbrev OpBx (W : World) (b : Nat) (k h lba len : Int) (v : Value) : Prop := W.heap[b]? = some (.cells #[.int .i64 k, .int .i64 h, .int .i64 lba, .int .i64 len, v] 24 (0, 0))
theorem OpBx.below {W W' : World} {b : Nat} {k h lba len : Int} {v : Value} (h1 : OpBx W b k h lba len v) (k1 : Below W.heap.size W W') : OpBx W' b k h lba len v := (k1.block b (blk_lt h1)).trans h1
set_option maxHeartbeats 16000000 in
theorem forms_all (k h lba len : Int) (A : Option Addr) (l : List S42) (c : Nat) (how : Int) (w : World) (E : Env w) (_ : I64 k) (ih : I64 h) (il : I64 lba) (in_ : I64 len) (hC : Kd.C k42 w A l.length l) (hc : l.length ≤ c) (hok : PutsOk l) (hl : l.length ≤ 140737488351232) :
    Calls Tryd.prog 6 #[.agg #[.int .i64 k, .int .i64 h, .int .i64 lba, .int .i64 len, .slice A l.length c], .int .i64 how] w fun e w' => e = .returned (.bool true) ∧ Below w.heap.size w w' := by
  have b0 : Below w.heap.size w (w.alloc (.cells #[.int .i64 k, .int .i64 h, .int .i64 lba, .int .i64 len, .slice A l.length c] 24)) := (Below.refl _ _).alloc (Nat.le_refl _) _
  have B0 := Lib.hid b0
  have O0 : Hid (OpBx (w.alloc (.cells #[.int .i64 k, .int .i64 h, .int .i64 lba, .int .i64 len, .slice A l.length c] 24)) w.heap.size k h lba len (.slice A l.length c)) := Lib.hid (heap_alloc_new w _)
  obtain ⟨r, hr, hcall⟩ := puts_any A c l _ (Kd.C_below hC b0) hc hl
  have HC := Lib.hid hcall
  clear hcall b0
  by_cases g1 : r > 3000
  · go_enter Tryd.func6, Tryd.ntmps6
    go_wp2_with (first
      | (go_at_call 9; refine HC.out.mono ?_; rintro e w2 ⟨rfl, b2⟩; have B2 := Lib.hid (below_trans B0.out b2); clear b2)
      | (go_at_call 10; refine (awake_any _ (E.below B2.out)).mono ?_; rintro e w3 ⟨rfl, b3⟩; have B3 := Lib.hid (below_trans B2.out b3); clear b3))
    go_ret
    exact ⟨rfl, B3.out⟩
  · have hsm := hr (by omega)
    have HT := Lib.hid (fun W (b : Below w.heap.size w W) => stext_any k h lba len l A c W (E.below b) ih il in_ (Kd.C_below hC b) hok (by omega))
    have htl := textP_len k h lba len l ih il in_ hok hsm
    have F0 := Lib.hid (forms_0 ⟨k, h, lba, len, l⟩)
    have F1 := Lib.hid (fun hn => forms_1 ⟨k, h, lba, len, l⟩ hn (fun p hp => (hok p hp).2))
    have F2 := Lib.hid (fun hn => forms_2 ⟨k, h, lba, len, l⟩ hn (fun p hp => (hok p hp).2))
    have F3 := Lib.hid (forms_3 ⟨k, h, lba, len, l⟩)
    have F4 := Lib.hid (forms_4 ⟨k, h, lba, len, l⟩)
    have F5 := Lib.hid (fun hn => forms_5 ⟨k, h, lba, len, l⟩ hn (fun p hp => (hok p hp).2))
    have F6 := Lib.hid (forms_6 ⟨k, h, lba, len, l⟩)
    rw [show textO ⟨k, h, lba, len, l⟩ = textP k h lba len l from rfl] at F0 F1 F2 F3 F4 F5 F6
    clear hr hC hc hok hl hsm ih il in_
    generalize textP k h lba len l = tx at HT htl F0 F1 F2 F3 F4 F5 F6
    by_cases htx : tx = []
    · subst htx
      clear F0 F1 F2 F3 F4 F5 F6
      obtain ⟨⟨a0, a1, a2, a3, a4⟩, -⟩ := five O0.out
      go_enter Tryd.func6, Tryd.ntmps6
      go_wp2_with (first
        | (go_at_call 9; refine HC.out.mono ?_; rintro e w2 ⟨rfl, b2⟩; clear a0 a1 a2 a3 a4; have B2 := Lib.hid (below_trans B0.out b2); obtain ⟨⟨a0, a1, a2, a3, a4⟩, -⟩ := five (O0.out.below b2); clear b2)
        | (go_at_call 13; refine (HT.out _ B2.out).mono ?_; rintro e w3 ⟨rfl, b3⟩; have B3 := Lib.hid (below_trans B2.out b3); clear b3)
        | (go_at_call 10; refine (awake_any _ (E.below B3.out)).mono ?_; rintro e w4 ⟨rfl, b4⟩; have B4 := Lib.hid (below_trans B3.out b4); clear b4))
      go_ret
      exact ⟨rfl, B4.out⟩
    · have hp := hap
      have e0 : (tx == []) = false := by rw [beq_eq_false_iff_ne]; exact htx
      go_enter Tryd.func6, Tryd.ntmps6
      go_upto_region 7 with (first
        | (go_at_call 9; refine HC.out.mono ?_; rintro e w2 ⟨rfl, b2⟩; have B2 := Lib.hid (below_trans B0.out b2); obtain ⟨⟨a0, a1, a2, a3, a4⟩, -⟩ := five (O0.out.below b2); clear b2)
        | (go_at_call 13; refine (HT.out _ B2.out).mono ?_; rintro e w3 ⟨rfl, b3⟩; clear a0 a1 a2 a3 a4; have B3 := Lib.hid (below_trans B2.out b3); clear b3))
      have B4 := Lib.hid (B3.out.alloc B3.out.size (.cells #[.string ⟨(32 :: tx).toArray⟩, .string ⟨(tx ++ [32]).toArray⟩, .string ⟨(tx ++ [32, 49]).toArray⟩, .string ⟨(tx ++ [120]).toArray⟩, .string ⟨(48 :: tx).toArray⟩, .string ⟨(tx ++ [32, 32]).toArray⟩, .string ⟨(tx ++ [10]).toArray⟩] 9))
      have HP : Hid (∀ X : List UInt8, X.length ≤ 8000 → parseR X = (⟨0, 0, 0, 0, []⟩, 13) → ∀ W, Env W → Calls Tryd.prog 11 #[.string (ba X)] W fun e w' => OpIs W w' e ⟨0, 0, 0, 0, []⟩ 13) := Lib.hid (fun X h1 h2 W E => by
        have := parse_any (ba X) h1 W E
        rw [show (ba X).data.toList = X from rfl, h2] at this
        exact this)
      by_cases n0 : how < 0
      · go_wp2_with (go_at_call 10; refine (awake_any _ (E.below B4.out)).mono ?_; rintro e w5 ⟨rfl, b5⟩; have B5 := Lib.hid (below_trans B4.out b5); clear b5)
        go_ret
        exact ⟨rfl, B5.out⟩
      · by_cases n7 : how ≥ 7
        · go_wp2_with (go_at_call 10; refine (awake_any _ (E.below B4.out)).mono ?_; rintro e w5 ⟨rfl, b5⟩; have B5 := Lib.hid (below_trans B4.out b5); clear b5)
          go_ret
          exact ⟨rfl, B5.out⟩
        · obtain rfl | rfl | rfl | rfl | rfl | rfl | rfl : how = 0 ∨ how = 1 ∨ how = 2 ∨ how = 3 ∨ how = 4 ∨ how = 5 ∨ how = 6 := by omega
          all_goals
            go_wp2_with (first
              | (go_at_call 11; refine (HP.out _ (by simp; omega) (by first | exact F0.out | exact F1.out htx | exact F2.out htx | exact F3.out | exact F4.out | exact F5.out htx | exact F6.out) _ (E.below B4.out)).mono ?_; rintro e w5 ⟨A5, c5, rfl, C5, hc5, b5⟩; have B5 := Lib.hid (below_trans B4.out b5); clear b5 C5)
              | (go_at_call 10; refine (awake_any _ (E.below (B5.out.alloc B5.out.size _))).mono ?_; rintro e w6 ⟨rfl, b6⟩; have B6 := Lib.hid (below_trans (B5.out.alloc B5.out.size _) b6); clear b6))
            go_ret
            exact ⟨rfl, B6.out⟩
end Go.Proofs.YtjjpnmeldgnfeaaDoor
