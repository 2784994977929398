/-
  FtextRounds: the walk of the law: it returns true at every number, in a world where the start-up code's tables lie.
-/
import Derived.Test.YtjepjheklnaidaaGreatDoorInt
namespace Go.Proofs.YtjepjheklnaidaaGreatDoor
open Go Go.RowKit F64
set_option maxRecDepth 100000

theorem nan_word (s : Bool) {f : Nat} (h0 : f ≠ 0) (h1 : f < 2 ^ 52) : isNaN (Ieee.double.word s (INF + f)) = true := by
  have hI := INF_val
  rw [isNaN_iff, word_eq]
  unfold rg
  cases s
  · simp only [Bool.false_eq_true, if_false]; omega
  · simp only [if_true]; omega
theorem quiet_lt {t : Nat} (h : t < 2 ^ 52) : Ieee.double.quiet t ≠ 0 ∧ Ieee.double.quiet t < 2 ^ 52 := by
  show t ||| 2 ^ 51 ≠ 0 ∧ t ||| 2 ^ 51 < 2 ^ 52
  refine ⟨fun hh => ?_, Nat.or_lt_two_pow h (by decide)⟩
  have := Nat.right_le_or (n := t) (m := 2 ^ 51)
  omega
theorem run_nan (x : Nat) (h : isNaN x = true) (w : World) : ∃ y w', isNaN y = true ∧ (callFunc 15 #[.float .f64 x]).run Tryz.prog w = .ok (.value (.float .f64 y)) w' ∧ Below w.heap.size w w' := by
  have hr := isNaN_iff.1 h
  have hI := INF_val
  have hr63 := rg_lt x
  have e : ∀ d, Ieee.double.read x = d → FloatKind.f64.decode x = d := fun _ h => h
  rw [run_callFunc_extern (e := Extern.MathFloor.toIntegral "math.RoundToEven" .even) Tryz.func15 (by kernel_rfl) (by kernel_rfl) (by kernel_rfl) (by kernel_rfl) _ w, toIntegral_eq, e _ (read_nan hr)]
  unfold wholeD
  dsimp only
  obtain ⟨q0, q1⟩ := quiet_lt (t := rg x - INF) (by omega)
  by_cases hq : FloatKind.f64.format.quiet (rg x - INF) = rg x - INF
  · rw [if_pos hq]
    exact ⟨x, w, h, rfl, Below.refl _ _⟩
  · rw [if_neg hq]
    have hf : (Question.extern "math.Floor,Ceil,Trunc,RoundToEven.signallingNaN kept" 2).forced = false := rfl
    refine ⟨if (Question.extern "math.Floor,Ceil,Trunc,RoundToEven.signallingNaN kept" 2).cut (w.tape w.drawn (.extern "math.Floor,Ceil,Trunc,RoundToEven.signallingNaN kept" 2)) == 1 then x else FloatKind.f64.encode (.nan (sgn x) (FloatKind.f64.format.quiet (rg x - INF))), w.drew, ?_, ?_, (Below.refl _ w).drew⟩
    · split
      · exact h
      · show isNaN (Ieee.double.word (sgn x) (Ieee.double.infRung + Ieee.double.quiet (rg x - INF) % Ieee.double.binade)) = true
        rw [infRung_eq, binade_eq, Nat.mod_eq_of_lt q1]
        exact nan_word _ q0 q1
    · simp [hf]
theorem callFloor (x : Nat) (h : isNaN x = false) (w : World) : (callFunc 21 #[.float .f64 x]).run Tryz.prog w = .ok (.value (.float .f64 (wholeF .down x))) w := by
  rw [run_callFunc_extern (e := Extern.MathFloor.toIntegral "math.archFloor" .down) Tryz.func21 (by kernel_rfl) (by kernel_rfl) (by kernel_rfl) (by kernel_rfl) _ w, whole_run _ _ x h]
  rfl
theorem floor_num (x : Nat) (h : isNaN x = false) (w : World) : Calls Tryz.prog 11 #[.float .f64 x] w fun e w' => e = .returned (.float .f64 (wholeF .down x)) ∧ w = w' := by
  have h1 := fun w => callFloor x h w
  clear h
  go_enter Tryz.func11, Tryz.ntmps11
  go_wp2_with fail
  go_ret
  exact ⟨rfl, rfl⟩

theorem int_nan (x : Nat) (h : isNaN x = true) (w : World) : Calls Tryz.prog 4 #[.float .f64 x] w fun e w' => e = .returned (.tuple #[.int .i64 0, .int .i64 13]) ∧ w = w' := by
  have p : ∀ y o, (FloatKind.f64.format.order x y == some o) = false := fun y o => by
    show (Ieee.double.order x y == some o) = false
    rw [order_nan_left h]; rfl
  have p1 := p 14069245235905429504 .gt
  have p2 := p 14069245235905429504 .eq
  clear p h
  go_enter Tryz.func4, Tryz.ntmps4
  go_wp2_with fail
  go_ret2
  exact ⟨rfl, rfl⟩
set_option maxHeartbeats 4000000 in
theorem rint_case (x t : Nat) (a0 a1 a2 a3 : Bool) (n : Int) (r : Value) (w : World)
    (h1 : a0 = false → ∀ w, Calls Tryz.prog 11 #[.float .f64 x] w fun e w' => e = .returned (.float .f64 t) ∧ w = w')
    (p0 : (FloatKind.f64.format.order x x != some .eq) = a0) (p1 : (FloatKind.f64.format.order x 14069245235905429504 == some .lt) = a1) (p2 : (FloatKind.f64.format.order x 4845873199050653696 == some .gt) = a2)
    (p3 : (FloatKind.f64.format.order t x != some .eq) = a3)
    (hn : (a0 || a1 || a2 || a3) = false → ∀ w, (convert 22 3 (.float .f64 x)).run Tryz.prog w = .ok (.int .i64 n) w)
    (hr : r = if (a0 || a1 || a2 || a3) = true then .tuple #[.int .i64 0, .int .i64 13] else .tuple #[.int .i64 n, .int .i64 0]) :
    Calls Tryz.prog 5 #[.float .f64 x] w fun e w' => e = .returned r ∧ w = w' := by
  have HR := Lib.hid hr
  clear hr
  cases a0 <;> cases a1 <;> cases a2 <;> cases a3
  all_goals
    try have h1' := h1 rfl
    try have hn' := hn rfl
    clear h1 hn
    go_enter Tryz.func5, Tryz.ntmps5
    go_wp2_with (go_at_call 11; refine (h1' _).mono ?_; rintro e w1 ⟨rfl, rfl⟩)
    go_ret2
    exact ⟨by rw [HR.out]; rfl, rfl⟩

/-- A number is whole where a whole one next to it is as great. -/
theorem whole_of_eq {x : Nat} (hx : rg x < INF) (way : Ieee.Toward) (h : (FloatKind.f64.format.order x (wholeF way x) == some .eq) = true) : ∃ c, Whole x c := by
  obtain ⟨c, R, e, hR, hW, _⟩ := whole_next hx way
  rw [e] at h
  have hn : isNaN x = false := isNaN_false.2 (Nat.le_of_lt hx)
  have hK := of_decide_eq_true ((order_same hn hW.num).symm.trans h)
  have hrgR : rg (Ieee.double.word (sgn x) R) = R := rg_word (Nat.le_of_lt hR)
  rw [K_rg, K_rg, hrgR, sgn_word (Nat.le_of_lt hR)] at hK
  have hr : rg x = R := by split at hK <;> omega
  exact ⟨c, hx, fun k hk => by rw [hr, ← hrgR]; exact hW.val k hk⟩
theorem inf_fix {x : Nat} (hx : x < 2 ^ 64) (h : rg x = INF) (way : Ieee.Toward) : wholeF way x = x := by
  unfold wholeF
  rw [read_inf h]
  show Ieee.double.word (sgn x) Ieee.double.infRung = x
  rw [infRung_eq, ← h, word_of hx]
theorem order_flip {x y : Nat} (hx : isNaN x = false) (hy : isNaN y = false) : (FloatKind.f64.format.order x y == some .eq) = (FloatKind.f64.format.order y x == some .eq) := by
  refine (order_same hx hy).trans (Eq.trans ?_ (order_same hy hx).symm)
  rw [decide_eq_decide]; exact eq_comm

/-- Both answer alike: of a whole number up to 2^53 which it is; of all else ErrBad. -/
theorem ints (x : Nat) (hx : x < 2 ^ 64) : ∃ n e : Int, (∀ w, Calls Tryz.prog 4 #[.float .f64 x] w fun e' w' => e' = .returned (.tuple #[.int .i64 n, .int .i64 e]) ∧ w = w') ∧ ∀ w, Calls Tryz.prog 5 #[.float .f64 x] w fun e' w' => e' = .returned (.tuple #[.int .i64 n, .int .i64 e]) ∧ w = w' := by
  have hI := INF_val
  cases hn : isNaN x
  · by_cases hA : ∃ c, c ≤ 2 ^ 53 ∧ Whole x c
    · obtain ⟨c, hc, hW⟩ := hA
      refine ⟨intN x c, 0, fun w => ?_, fun w => ?_⟩
      · have := int_whole_any hW hx w
        rw [if_pos hc] at this; exact this
      · have hK : -(BIG : Int) ≤ K x ∧ K x ≤ (BIG : Int) := by have := hW.small.1 hc; rw [K_rg]; split <;> omega
        refine rint_case x x false false false false (intN x c) _ w (fun _ w => by have := floor_num x hn w; rw [hW.fix hx] at this; exact this) (ord_self_num hn) ?_ ?_ (ord_self_num hn) (fun _ => conv_whole hW hc) rfl
        · refine (order_lt hn (by decide +kernel)).trans (decide_eq_false ?_)
          rw [show K 14069245235905429504 = -(BIG : Int) by decide +kernel]; omega
        · refine (order_gt hn (by decide +kernel)).trans (decide_eq_false ?_)
          rw [show K 4845873199050653696 = (BIG : Int) by decide +kernel]; omega
    · have key : ∀ way, decide (rg x ≤ BIG) = true → (FloatKind.f64.format.order x (wholeF way x) == some .eq) = false := by
        intro way hb
        have hb := of_decide_eq_true hb
        have hB : BIG = 4845873199050653696 := rfl
        have hfin : rg x < INF := by omega
        cases hh : (FloatKind.f64.format.order x (wholeF way x) == some .eq)
        · rfl
        · exfalso
          obtain ⟨c, hW⟩ := whole_of_eq hfin way hh
          exact hA ⟨c, hW.small.2 hb, hW⟩
      have hnw : ∀ way, isNaN (wholeF way x) = false := by
        intro way
        by_cases hinf : rg x = INF
        · rw [inf_fix hx hinf]; exact hn
        · obtain ⟨c, R, e, _, hW, _⟩ := whole_next (show rg x < INF by have := isNaN_false.1 hn; omega) way
          rw [e]; exact hW.num
      refine ⟨0, 13, fun w => ?_, fun w => ?_⟩
      · have hcond : (((FloatKind.f64.format.order x 14069245235905429504 == some .gt) || (FloatKind.f64.format.order x 14069245235905429504 == some .eq)) && ((FloatKind.f64.format.order x 4845873199050653696 == some .lt) || (FloatKind.f64.format.order x 4845873199050653696 == some .eq)) && !(FloatKind.f64.format.order x (wholeF .zero x) != some .eq)) = false := by
          rw [ge_big hn, le_big hn, in_big]
          cases hb : decide (rg x ≤ BIG)
          · rfl
          · show (true && !!(FloatKind.f64.format.order x (wholeF .zero x) == some .eq)) = false
            rw [key .zero hb]; rfl
        refine int_case x (wholeF .zero x) _ _ _ _ _ 0 _ w (Lib.hid (trunc_num x hn)) rfl rfl rfl rfl rfl (fun hh => ?_) ?_
        · rw [hcond] at hh; cases hh
        · rw [hcond]; rfl
      · have hcond : ((FloatKind.f64.format.order x x != some .eq) || (FloatKind.f64.format.order x 14069245235905429504 == some .lt) || (FloatKind.f64.format.order x 4845873199050653696 == some .gt) || (FloatKind.f64.format.order (wholeF .down x) x != some .eq)) = true := by
          have g1 : (FloatKind.f64.format.order x 14069245235905429504 == some .lt) = decide (K x < -(BIG : Int)) := by
            refine (order_lt hn (by decide +kernel)).trans ?_
            rw [show K 14069245235905429504 = -(BIG : Int) by decide +kernel]
          have g2 : (FloatKind.f64.format.order x 4845873199050653696 == some .gt) = decide ((BIG : Int) < K x) := by
            refine (order_gt hn (by decide +kernel)).trans ?_
            rw [show K 4845873199050653696 = (BIG : Int) by decide +kernel]
          rw [g1, g2, ord_self_num hn]
          by_cases hb : rg x ≤ BIG
          · have hk := key .down (decide_eq_true hb)
            rw [order_flip hn (hnw .down)] at hk
            show (_ || !(FloatKind.f64.format.order (wholeF .down x) x == some .eq)) = true
            rw [hk]; simp
          · have : K x < -(BIG : Int) ∨ (BIG : Int) < K x := by rw [K_rg]; split <;> omega
            rcases this with h | h
            · rw [decide_eq_true h]; simp
            · rw [decide_eq_true h]; simp
        refine rint_case x (wholeF .down x) _ _ _ _ 0 _ w (fun _ => floor_num x hn) rfl rfl rfl rfl (fun hh => ?_) ?_
        · rw [hcond] at hh; cases hh
        · rw [hcond]; rfl
  · refine ⟨0, 13, int_nan x hn, fun w => ?_⟩
    exact rint_case x 0 true _ _ _ 0 _ w (fun h => by cases h) (ord_self_nan hn) rfl rfl rfl (fun h => by simp at h) (by simp)

/-- The rounded number, of the program and of the reference. -/
theorem rounds (x : Nat) : ∃ r r', sameB r r' = true ∧ (∀ w, Calls Tryz.prog 7 #[.float .f64 x] w fun e' w' => e' = .returned (.float .f64 r) ∧ Below w.heap.size w w') ∧ ∀ w, Calls Tryz.prog 8 #[.float .f64 x] w fun e' w' => e' = .returned (.float .f64 r') ∧ w = w' := by
  cases hn : isNaN x
  · refine ⟨bitsF (wholeF .even x), wholeF .even x, sameB_true.2 (bitsF_bitsF _), fun w => (round_num x hn w).mono fun e w' ⟨h1, h2⟩ => ⟨h1, h2 ▸ Below.refl _ _⟩, fun w => ?_⟩
    have h1 := fun w => callRound x hn w
    have h2 := ord_self_num hn
    clear hn
    go_enter Tryz.func8, Tryz.ntmps8
    go_wp2_with fail
    go_ret
    exact ⟨rfl, rfl⟩
  · have e2 : bitsF QNAN = QNAN := by unfold bitsF; rw [if_pos isNaN_qnan]
    refine ⟨QNAN, QNAN, sameB_true.2 rfl, fun w => ?_, fun w => ?_⟩
    · obtain ⟨y, w', hy, h1, hb⟩ := run_nan x hn w
      have e : bitsF y = QNAN := by unfold bitsF; rw [if_pos hy]
      clear hn hy
      go_enter Tryz.func7, Tryz.ntmps7
      go_wp2_with (first
        | (go_at_call 14; refine (bits_any _ _).mono ?_; rintro e w1 ⟨rfl, rfl⟩)
        | (go_at_call 13; refine (from_any _ _).mono ?_; rintro e w1 ⟨rfl, rfl⟩))
      go_ret
      exact ⟨rfl, hb⟩
    · have h2 := ord_self_nan hn
      have h3 := fun w => rfrom_any QNAN w (by decide)
      rw [e2] at h3
      clear hn
      go_enter Tryz.func8, Tryz.ntmps8
      go_wp2_with (go_at_call 16; refine (h3 _).mono ?_; rintro e w1 ⟨rfl, rfl⟩)
      go_ret
      exact ⟨rfl, rfl⟩

set_option maxHeartbeats 1000000 in
theorem rounds_all (x : Nat) (w : World) (E : Env w) (hx : (Lit.float .f64 x).wf = true) :
    Calls Tryz.prog 3 #[.float .f64 x] w fun e w' => e = .returned (.bool true) ∧ Below w.heap.size w w' := by
  have hx : x < 2 ^ 64 := by simpa [Lit.wf] using hx
  obtain ⟨n, e, i1, i2⟩ := ints x hx
  obtain ⟨r, r', hs, r1, r2⟩ := rounds x
  have hb : ∀ z : Int, (z == z) = true := fun z => by simp
  clear hx
  go_enter Tryz.func3, Tryz.ntmps3
  go_wp2_with (first
    | (go_at_call 4; refine (i1 _).mono ?_; rintro e w1 ⟨rfl, rfl⟩)
    | (go_at_call 5; refine (i2 _).mono ?_; rintro e w1 ⟨rfl, rfl⟩)
    | (go_at_call 7; refine (r1 _).mono ?_))
  rintro e w2 ⟨rfl, b2⟩
  go_wp2_with (first
    | (go_at_call 8; refine (r2 _).mono ?_; rintro e w1 ⟨rfl, rfl⟩)
    | (go_at_call 6; refine (rsame_any _ _ _).mono ?_; rintro e w3 ⟨rfl, rfl⟩)
    | (go_at_call 9; refine (awake_any _ (E.below b2)).mono ?_; rintro e w5 ⟨rfl, b5⟩))
  go_ret
  exact ⟨rfl, below_trans b2 b5⟩
end Go.Proofs.YtjepjheklnaidaaGreatDoor
