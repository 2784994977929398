/-
  The walk of the law ScriptApart; rows of bytes of a law's own.
-/
import Derived.Test.YtjjpnmeldgnfeaaDoorAw
namespace Go.Proofs.YtjjpnmeldgnfeaaDoor
open Go Go.RowKit Go.Proofs.YtjjpnmeldgnfeaaDoor.PScriptTexts Go.Proofs.YtjjpnmeldgnfeaaDoorW.PrintWords
set_option maxRecDepth 100000

/-- A row of bytes of the call's own. -/
abbrev OwnB (W : World) (base : Nat) (v : Value) (l : List Int) : Prop := Kd.R (Kd.int .u8) 5 W base (fun _ => True) v l
theorem ownB_lit (W : World) (base : Nat) (hb : base ≤ W.heap.size) : OwnB (W.alloc (.cells #[] 5)) base (.slice (some ⟨W.heap.size, 0, none⟩) 0 0) [] :=
  rowR (W.alloc (.cells #[] 5)) base W.heap.size [] (by decide) hb (heap_alloc_new W _)
section
variable {ops : Array Oper} {rest : List Oper} {o : Oper} {a : Act} {Q : Exit → Act → World → Prop}
theorem list_appRow {w0 W : World} (hgd : o.guard = none) (s x : Operand) (ho : o.op = .call { callee := .builtin .append, args := #[s, x], argTypes := #[35, 35] })
    (v : Value) (xs ys : List Int) (A : Option Addr) (c : Nat) (hs : a.eval s = v) (hx : a.eval x = .slice A ys.length c) (HO : OwnB W w0.heap.size v xs) (HR : (Kd.int .u8).C W A ys.length ys) (HB : Below w0.heap.size w0 W) (hl : xs.length + ys.length ≤ 1000000)
    (h : ∀ v1 w1, OwnB w1 w0.heap.size v1 (xs ++ ys) → Below w0.heap.size w0 w1 → wpList Tryd.prog ops Q rest (a.put o.dst v1) w1) :
    wpList Tryd.prog ops Q (o :: rest) a W :=
  Kd.R_append_rows (Kd.int .u8) w0.heap.size hgd s x 35 5 (.int .u8 0) 1 ho Tryd.underlying35 info5' rfl (by decide) (by decide) v xs ys A ys.length c (fun _ => True) (fun _ => False) hs hx HO HR (fun _ _ h => h) (fun _ h => h.elim) (fun _ _ => trivial) HB HB.size (by omega)
    (fun v1 w1 h1 h2 _ _ => h v1 w1 h1 h2)
theorem list_appZero {w0 W : World} (hgd : o.guard = none) (s x : Operand) (ho : o.op = .call { callee := .builtin .append, args := #[s, x], argTypes := #[35, 3] })
    (v : Value) (xs : List Int) (n : Int) (hs : a.eval s = v) (hx : a.eval x = .int .i64 n) (HO : OwnB W w0.heap.size v xs) (h0 : 0 ≤ n) (HB : Below w0.heap.size w0 W) (hl : xs.length + n.toNat ≤ 1000000)
    (h : ∀ v1 w1, OwnB w1 w0.heap.size v1 (xs ++ List.replicate n.toNat 0) → Below w0.heap.size w0 w1 → wpList Tryd.prog ops Q rest (a.put o.dst v1) w1) :
    wpList Tryd.prog ops Q (o :: rest) a W :=
  Kd.R_append_zeros (Kd.int .u8) w0.heap.size hgd s x 35 3 5 (.int .u8 0) 1 ho Tryd.underlying35 Tryd.underlying3 info5' rfl (by decide) (by decide) v xs 0 n (fun _ => True) hs hx rfl (fun _ _ => trivial) HO h0 HB HB.size (by omega)
    (fun v1 w1 h1 h2 _ _ => h v1 w1 h1 h2)
end
theorem pad_app (l : List Int) (h : l.length ≤ 40) : [] ++ l ++ List.replicate ((40 : Int) - (l.length : Int)).toNat 0 = pad40 l := by
  unfold pad40
  rw [List.nil_append, show ((40 : Int) - (l.length : Int)).toNat = 40 - l.length by omega]
/-- Unlike blocks, unlike texts. -/
theorem apart_dec (a b : List Int) (ha : InB a) (hb : InB b) (la : a.length ≤ 40) (lb : b.length ≤ 40) : decide (bytesP a = bytesP b) = decide (pad40 a = pad40 b) := by
  have h1 : bytesP a = bytesP b → pad40 a = pad40 b := fun h => by
    have := unbP_bytes a ha la
    rw [h, unbP_bytes b hb lb] at this
    exact (congrArg Prod.fst this).symm
  have h2 : pad40 a = pad40 b → bytesP a = bytesP b := fun h => by rw [← bytesP_pad a, h, bytesP_pad b]
  by_cases h : pad40 a = pad40 b
  · rw [decide_eq_true h, decide_eq_true (h2 h)]
  · rw [decide_eq_false h, decide_eq_false (fun e => h (h1 e))]
theorem strip_take (l : List Int) (k : Nat) (hk : k < l.length) : (stripZ (l.take (k + 1))).length = if l[k] = 0 then (stripZ (l.take k)).length else k + 1 := by
  rw [List.take_succ_eq_append_getElem hk]
  split
  · rename_i h; rw [h, stripZ_zero]
  · rename_i h
    rw [stripZ_end _ _ h, List.length_append, List.length_take, List.length_singleton]; omega
theorem bytesP_lenZ (l : List Int) : (stripZ l = [] ∧ bytesP l = [45]) ∨ (0 < (stripZ l).length ∧ (bytesP l).length = 2 * (stripZ l).length) := by
  unfold bytesP
  by_cases h : stripZ l = []
  · exact .inl ⟨h, if_pos h⟩
  · exact .inr ⟨List.length_pos_iff.2 h, by rw [if_neg h, flatH_len]⟩
set_option maxHeartbeats 8000000 in
theorem apart_all (A0 : Option Addr) (a : List Int) (c0 : Nat) (A1 : Option Addr) (b : List Int) (c1 : Nat) (w : World) (E : Env w) (h0 : RowB w A0 a c0) (m0 : InB a) (h1 : RowB w A1 b c1) (m1 : InB b) :
    Calls Tryd.prog 7 #[.slice A0 a.length c0, .slice A1 b.length c1] w fun e w' => e = .returned (.bool true) ∧ Below w.heap.size w w' := by
  have R0 := Lib.hid h0
  have R1 := Lib.hid h1
  have M0 := Lib.hid m0
  have M1 := Lib.hid m1
  have HA := Lib.hid (awake_any w E)
  clear h0 m0 h1 m1
  by_cases g1 : (a.length : Int) > 40
  · go_enter Tryd.func7, Tryd.ntmps7
    go_wp2_with (go_at_call 10; refine HA.out.mono ?_; rintro e w1 ⟨rfl, b1⟩)
    go_ret
    exact ⟨rfl, b1⟩
  · by_cases g2 : (b.length : Int) > 40
    · go_enter Tryd.func7, Tryd.ntmps7
      go_wp2_with (go_at_call 10; refine HA.out.mono ?_; rintro e w1 ⟨rfl, b1⟩)
      go_ret
      exact ⟨rfl, b1⟩
    · have hla : a.length ≤ 40 := by omega
      have hlb : b.length ≤ 40 := by omega
      have HPA := Lib.hid (pad_app a hla)
      have HPB := Lib.hid (pad_app b hlb)
      have HL40 : Hid ((pad40 a).length = 40) := Lib.hid (pad40_len a hla)
      have HS := Lib.hid (fun w hr => sbytes_any A0 a c0 w hr M0.out (by omega))
      have HS1 := Lib.hid (fun w hr => sbytes_any A1 b c1 w hr M1.out (by omega))
      have HSP : Hid (∀ A c w, RowB w A (pad40 a) c → Calls Tryd.prog 18 #[.slice A (pad40 a).length c] w fun e w' => e = .returned (.string (ba (bytesP a))) ∧ Below w.heap.size w w') := Lib.hid (fun A c w h => by
        have := sbytes_any A (pad40 a) c w h (pad40_range a M0.out) (by rw [HL40.out]; omega)
        rw [bytesP_pad] at this; exact this)
      have HAL : Hid (∀ A c A' c' w, RowB w A (pad40 a) c → RowB w A' (pad40 b) c' → Calls Tryd.prog 20 #[.slice A (pad40 a).length c, .slice A' (pad40 b).length c'] w fun e w' => e = .returned (.bool (decide (bytesP a = bytesP b))) ∧ Below w.heap.size w w') := Lib.hid (fun A c A' c' w h h' => by
        have := alike_any A A' c c' (pad40 a) (pad40 b) w h.1 h'.1 (by rw [HL40.out]; omega)
        rw [← apart_dec a b M0.out M1.out hla hlb] at this; exact this)
      have HZ := Lib.hid (bytesP_lenZ a)
      have HST := Lib.hid (strip_take a)
      have HE := Lib.hid (beq_dec (bytesP a) (bytesP b))
      generalize bytesP a = ta at HS HSP HAL HZ HE
      generalize bytesP b = tb at HS1 HAL HE
      obtain ⟨ev, hev⟩ : ∃ ev, decide (ta = tb) = ev := ⟨_, rfl⟩
      have e1 : (ta == tb) = ev := HE.out.trans hev
      rw [hev] at HAL
      clear hev HE
      generalize pad40 a = pa at HPA HL40 HSP HAL
      generalize pad40 b = pb at HPB HAL
      go_enter Tryd.func7, Tryd.ntmps7
      go_upto_region 4 with (first
        | (at_builtin; refine list_appZero (w0 := w) (by rfl) _ _ (by rfl) _ ([] ++ a) (40 - (a.length : Int)) (by rfl) (by rfl) X1.out (by omega) B1.out (by simp; omega) ?_; intro v2 w2 h2 b2; rw [HPA.out] at h2; have X2 := Lib.hid h2; have B2 := Lib.hid b2; clear h2 b2 X1 B1)
        | (at_builtin; refine list_appRow (w0 := w) (by rfl) _ _ (by rfl) _ [] a A0 c0 (by rfl) (by rfl) (ownB_lit w _ (Nat.le_refl _)) (R0.out.below ((Below.refl _ _).alloc (Nat.le_refl _) _)).1 ((Below.refl _ _).alloc (Nat.le_refl _) _) (by simp; omega) ?_; intro v1 w1 h1 b1; have X1 := Lib.hid h1; have B1 := Lib.hid b1; clear h1 b1))
      go_upto_region 5 with (first
        | (at_builtin; refine list_appZero (w0 := w2) (by rfl) _ _ (by rfl) _ ([] ++ b) (40 - (b.length : Int)) (by rfl) (by rfl) Y3.out (by omega) B3.out (by simp; omega) ?_; intro v4 w4 h4 b4; rw [HPB.out] at h4; have Y4 := Lib.hid h4; have B4 := Lib.hid b4; clear h4 b4 Y3 B3)
        | (at_builtin; refine list_appRow (w0 := w2) (by rfl) _ _ (by rfl) _ [] b A1 c1 (by rfl) (by rfl) (ownB_lit w2 _ (Nat.le_refl _)) (R1.out.below (B2.out.alloc B2.out.size _)).1 ((Below.refl _ _).alloc (Nat.le_refl _) _) (by simp; omega) ?_; intro v3 w3 h3 b3; have Y3 := Lib.hid h3; have B3 := Lib.hid b3; clear h3 b3))
      have BB := Lib.hid (below_trans B2.out B4.out)
      obtain ⟨Ax, cx, rfl, qx⟩ := row_of_R (Kd.R_below X2.out B4.out)
      obtain ⟨Ay, cy, rfl, qy⟩ := row_of_R Y4.out
      have QX := Lib.hid qx
      have QY := Lib.hid qy
      clear qx qy X2 Y4 B2 B4
      go_wp2_with fail
      go_loopw [7, 8] (fun vn vi wr => ∃ k m : Nat, k ≤ a.length ∧ m ≤ 40 ∧ vi = .int .i64 (k : Int) ∧ vn = .int .i64 (m : Int) ∧ Hid (m = (stripZ (a.take k)).length) ∧ Hid (Below w.heap.size w wr) ∧ Hid (RowB wr Ax pa cx) ∧ Hid (RowB wr Ay pb cy)) (fun _ vi _ => a.length - (intOf vi).toNat)
      case atStart => exact ⟨0, 0, Nat.zero_le _, Nat.zero_le _, rfl, rfl, Lib.hid (by simp [stripZ]), BB, QX, QY⟩
      case round =>
        obtain ⟨k, m, hk, hm, rfl, rfl, HM, HB, HX, HY⟩ := hrel
        rename World => W
        clear BB QX QY
        by_cases hlt : k < a.length
        · obtain ⟨ad, hA, x0⟩ := row_cell (R0.out.below HB.out).1 k hlt
          subst hA
          have HS2 := Lib.hid (HST.out k hlt)
          have g3 : (0 : Int) ≤ (k : Int) := by omega
          have g4 : (k : Int) < (a.length : Int) := by omega
          generalize a[k] = x at x0 HS2
          by_cases hx : x = 0
          · have s0 : (x != 0) = false := by rw [hx]; simp
            have HX0 := Lib.hid hx
            clear hx
            go_wp2_with fail
            go_roundw
            case rel => exact ⟨k + 1, m, by omega, hm, by go_num, rfl, Lib.hid (by rw [HS2.out, if_pos HX0.out]; exact HM.out), HB, HX, HY⟩
            case measure => simp [intOf]; omega
          · have s0 : (x != 0) = true := by rw [bne_iff_ne]; exact hx
            have HX0 := Lib.hid hx
            clear hx
            go_wp2_with fail
            go_roundw
            case rel => exact ⟨k + 1, k + 1, by omega, by omega, by go_num, by go_num, Lib.hid (by rw [HS2.out, if_neg HX0.out]), HB, HX, HY⟩
            case measure => simp [intOf]; omega
        · obtain rfl : k = a.length := by omega
          have HMZ : Hid (m = (stripZ a).length) := Lib.hid (by have := HM.out; rw [List.take_length] at this; exact this)
          clear HM HST
          rcases HZ.out with ⟨z1, z2⟩ | ⟨z1, z2⟩
          · have q0 : ((m : Int) == 0) = true := by rw [beq_iff_eq]; have := HMZ.out; rw [z1] at this; simp at this; omega
            have q1 : ¬ (m : Int) > 0 := by rw [beq_iff_eq] at q0; omega
            subst z2
            clear z1 HMZ HZ
            cases ev
            case' true => obtain rfl := beq_iff_eq.1 e1; clear e1
            case' false => have e2 : ¬ ([45] : List UInt8) = tb := by simpa using e1
            all_goals
              go_wp2_with (first
                | (go_at_call 18; have _f := F3.out; clear _f; refine (HSP.out _ _ _ X3.out).mono ?_; rintro e w4 ⟨rfl, b4⟩; have F4 := Lib.hid (below_trans F3.out b4); clear b4)
                | (go_at_call 18; have _f := F1.out; clear _f; refine (HS1.out _ (R1.out.below F1.out)).mono ?_; rintro e w2 ⟨rfl, b2⟩; have F2 := Lib.hid (below_trans F1.out b2); have X2 := Lib.hid (X1.out.below b2); have Y2 := Lib.hid (Y1.out.below b2); clear b2)
                | (go_at_call 18; refine (HS.out _ (R0.out.below HB.out)).mono ?_; rintro e w1 ⟨rfl, b1⟩; have F1 := Lib.hid (below_trans HB.out b1); have X1 := Lib.hid (HX.out.below b1); have Y1 := Lib.hid (HY.out.below b1); clear b1)
                | (go_at_call 20; refine (HAL.out _ _ _ _ _ X2.out Y2.out).mono ?_; rintro e w3 ⟨rfl, b3⟩; have F3 := Lib.hid (below_trans F2.out b3); have X3 := Lib.hid (X2.out.below b3); clear b3)
                | (go_at_call 10; refine (awake_any _ (E.below F4.out)).mono ?_; rintro e w5 ⟨rfl, b5⟩; have F5 := Lib.hid (below_trans F4.out b5); clear b5))
              go_ret
              exact ⟨rfl, F5.out⟩
          · have q0 : ((m : Int) == 0) = false := by rw [beq_eq_false_iff_ne]; have := HMZ.out; omega
            have q1 : (m : Int) > 0 := by have := HMZ.out; omega
            have q2 : ((ta.length : Int) != 2 * (m : Int)) = false := by rw [bne_eq_false_iff_eq]; have := HMZ.out; omega
            clear z1 z2 HMZ HZ
            cases ev
            case' true => obtain rfl := beq_iff_eq.1 e1; clear e1
            all_goals
              go_wp2_with (first
                | (go_at_call 18; have _f := F3.out; clear _f; refine (HSP.out _ _ _ X3.out).mono ?_; rintro e w4 ⟨rfl, b4⟩; have F4 := Lib.hid (below_trans F3.out b4); clear b4)
                | (go_at_call 18; have _f := F1.out; clear _f; refine (HS1.out _ (R1.out.below F1.out)).mono ?_; rintro e w2 ⟨rfl, b2⟩; have F2 := Lib.hid (below_trans F1.out b2); have X2 := Lib.hid (X1.out.below b2); have Y2 := Lib.hid (Y1.out.below b2); clear b2)
                | (go_at_call 18; refine (HS.out _ (R0.out.below HB.out)).mono ?_; rintro e w1 ⟨rfl, b1⟩; have F1 := Lib.hid (below_trans HB.out b1); have X1 := Lib.hid (HX.out.below b1); have Y1 := Lib.hid (HY.out.below b1); clear b1)
                | (go_at_call 20; refine (HAL.out _ _ _ _ _ X2.out Y2.out).mono ?_; rintro e w3 ⟨rfl, b3⟩; have F3 := Lib.hid (below_trans F2.out b3); have X3 := Lib.hid (X2.out.below b3); clear b3)
                | (go_at_call 10; refine (awake_any _ (E.below F4.out)).mono ?_; rintro e w5 ⟨rfl, b5⟩; have F5 := Lib.hid (below_trans F4.out b5); clear b5))
              go_ret
              exact ⟨rfl, F5.out⟩
end Go.Proofs.YtjjpnmeldgnfeaaDoor
