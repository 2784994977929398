/-
  FtextWhole: the cases together.
-/
import Derived.Test.YtjepjheklnaidaaDoorWhole
namespace Go.Proofs.YtjepjheklnaidaaDoor
open Go Go.RowKit F64
set_option maxRecDepth 100000

theorem nan_word (s : Bool) {f : Nat} (h0 : f ≠ 0) (h1 : f < 2 ^ 52) : isNaN (Ieee.double.word s (INF + f)) = true := by
  have hI := INF_val
  rw [isNaN_iff, word_eq]
  unfold rg
  cases s
  · simp only [Bool.false_eq_true, if_false]; omega
  · simp only [if_true]; omega
theorem quiet_lt {t : Nat} (h : t < 2 ^ 52) : Ieee.double.quiet t ≠ 0 ∧ Ieee.double.quiet t < 2 ^ 52 := by
  show t ||| 2 ^ 51 ≠ 0 ∧ t ||| 2 ^ 51 < 2 ^ 52
  refine ⟨fun hh => ?_, Nat.or_lt_two_pow h (by decide)⟩
  have := Nat.right_le_or (n := t) (m := 2 ^ 51)
  omega
theorem run_nan (x : Nat) (h : isNaN x = true) (w : World) : ∃ y w', isNaN y = true ∧ (callFunc 20 #[.float .f64 x]).run Tryd.prog w = .ok (.value (.float .f64 y)) w' ∧ Below w.heap.size w w' := by
  have hr := isNaN_iff.1 h
  have hI := INF_val
  have hr63 := rg_lt x
  have e : ∀ d, Ieee.double.read x = d → FloatKind.f64.decode x = d := fun _ h => h
  rw [run_callFunc_extern (e := Extern.MathFloor.toIntegral "math.RoundToEven" .even) Tryd.func20 (by kernel_rfl) (by kernel_rfl) (by kernel_rfl) (by kernel_rfl) _ w, toIntegral_eq, e _ (read_nan hr)]
  unfold wholeD
  dsimp only
  obtain ⟨q0, q1⟩ := quiet_lt (t := rg x - INF) (by omega)
  by_cases hq : FloatKind.f64.format.quiet (rg x - INF) = rg x - INF
  · rw [if_pos hq]
    exact ⟨x, w, h, rfl, Below.refl _ _⟩
  · rw [if_neg hq]
    have hf : (Question.extern "math.Floor,Ceil,Trunc,RoundToEven.signallingNaN kept" 2).forced = false := rfl
    refine ⟨if (Question.extern "math.Floor,Ceil,Trunc,RoundToEven.signallingNaN kept" 2).cut (w.tape w.drawn (.extern "math.Floor,Ceil,Trunc,RoundToEven.signallingNaN kept" 2)) == 1 then x else FloatKind.f64.encode (.nan (sgn x) (FloatKind.f64.format.quiet (rg x - INF))), w.drew, ?_, ?_, (Below.refl _ w).drew⟩
    · split
      · exact h
      · show isNaN (Ieee.double.word (sgn x) (Ieee.double.infRung + Ieee.double.quiet (rg x - INF) % Ieee.double.binade)) = true
        rw [infRung_eq, binade_eq, Nat.mod_eq_of_lt q1]
        exact nan_word _ q0 q1
    · simp [hf]
theorem round_nan (x : Nat) (h : isNaN x = true) : RoundIs x QNAN := fun w => by
  obtain ⟨y, w', hy, h1, hb⟩ := run_nan x h w
  have e : bitsF y = QNAN := by unfold bitsF; rw [if_pos hy]
  have e2 : bitsF QNAN = QNAN := by unfold bitsF; rw [if_pos isNaN_qnan]
  clear h hy
  go_enter Tryd.func10, Tryd.ntmps10
  go_wp2_with (first
    | (go_at_call 19; refine (bits_any _ _).mono ?_; rintro e w1 ⟨rfl, rfl⟩)
    | (go_at_call 18; refine (from_any _ _).mono ?_; rintro e w1 ⟨rfl, rfl⟩))
  go_ret
  exact ⟨rfl, hb⟩
theorem round_is {x r : Nat} (h : isNaN x = false) (hr : bitsF (wholeF .even x) = r) : RoundIs x r := fun w => by
  have := round_num x h w
  rw [wholeW_eq, hr] at this
  exact this.mono fun e w' ⟨h1, h2⟩ => ⟨h1, h2 ▸ Below.refl _ _⟩
theorem int_is {n : Int} (h : n.natAbs ≤ 2 ^ 53) : IntIs (floatOfInt .f64 n) n 0 := fun w => by
  obtain ⟨h1, h2, h3⟩ := float_whole h
  have := int_whole_any h1 h3 w
  rw [if_pos h] at this
  have e : intN (floatOfInt .f64 n) n.natAbs = n := by
    unfold intN; rw [h2]
    by_cases hn : n < 0
    · rw [decide_eq_true hn]; simp; omega
    · rw [decide_eq_false hn]; simp; omega
  rw [e] at this
  exact this
theorem back_eq {r c : Nat} (hW : Whole r c) (hc : c ≤ 2 ^ 53) : (FloatKind.f64.format.order (floatOfInt .f64 (intN r c)) r == some .eq) = true := by
  have habs : (intN r c).natAbs = c := by unfold intN; split <;> omega
  obtain ⟨h1, h2, _⟩ := float_whole (n := intN r c) (by omega)
  rw [habs] at h1
  have hrg : rg (floatOfInt .f64 (intN r c)) = rg r := by
    have gen : ∀ k, k = 1074 → V (rg (floatOfInt .f64 (intN r c))) = V (rg r) := fun k hk => by rw [h1.val k hk, hW.val k hk]
    exact V_inj (gen 1074 rfl)
  have e := order_same h1.num hW.num
  refine e.trans (decide_eq_true ?_)
  rw [K_rg, K_rg, hrg, h2]
  by_cases h0 : c = 0
  · have hz : rg r = 0 := by
      have gen : ∀ k, k = 1074 → V (rg r) = 0 := fun k hk => by rw [hW.val k hk, h0, Nat.zero_mul]
      have := gen _ rfl
      rcases Nat.eq_zero_or_pos (rg r) with hh | hh
      · exact hh
      · have := V_pos (show rg r ≠ 0 by omega); omega
    rw [hz]; simp
  · have : decide (intN r c < 0) = sgn r := by
      unfold intN
      cases sgn r
      · rw [decide_eq_false_iff_not]; simp
      · rw [decide_eq_true_iff]; simp; omega
    rw [this]

theorem whole_walk (n : Int) (x : Nat) (hx : x < 2 ^ 64) (w : World) (E : Env w) :
    Calls Tryd.prog 3 #[.int .i64 n, .float .f64 x] w fun e w' => e = .returned (.bool true) ∧ Below w.heap.size w w' := by
  have hI := INF_val
  by_cases hr : n < -9007199254740992 ∨ 9007199254740992 < n
  · refine whole_out n x _ _ w E rfl rfl ?_
    rcases hr with h | h
    · rw [decide_eq_true h]; rfl
    · rw [decide_eq_true h]; simp
  have l1 : decide (n < -9007199254740992) = false := decide_eq_false (by omega)
  have l2 : decide (9007199254740992 < n) = false := decide_eq_false (by omega)
  have hI1 := int_is (n := n) (by omega)
  have hss : ∀ r, sameB r r = true := fun r => sameB_true.2 rfl
  cases hn : isNaN x
  · have o1 := ord_self_num hn
    by_cases hinf : rg x = INF
    · have e1 : wholeF .even x = x := by
        unfold wholeF
        rw [read_inf hinf]
        show Ieee.double.word (sgn x) Ieee.double.infRung = x
        rw [infRung_eq, ← hinf, word_of hx]
      have hR : RoundIs x x := round_is hn (by rw [e1, bitsF_num hn])
      exact whole_inf n x x w E l1 l2 hI1 hR hR (hss x) (hss x) o1 (by rw [sub_eq_add]; exact add_inf_nan hinf (by rw [rg_opp]; exact hinf) (by rw [sgn_opp]; cases sgn x <;> decide))
    · have hfin : rg x < INF := by have := isNaN_false.1 hn; omega
      obtain ⟨c, R, e1, hR1, hW, hh⟩ := whole_next hfin .even
      have hrn : isNaN (Ieee.double.word (sgn x) R) = false := hW.num
      have hr64 : Ieee.double.word (sgn x) R < 2 ^ 64 := by rw [word_eq]; split <;> omega
      have hRx : RoundIs x (Ieee.double.word (sgn x) R) := round_is hn (by rw [e1, bitsF_num hrn])
      have hRr : RoundIs (Ieee.double.word (sgn x) R) (Ieee.double.word (sgn x) R) := round_is hrn (by rw [hW.fix hr64, bitsF_num hrn])
      obtain ⟨d, o4, hdn, hd⟩ := sub_next hfin hR1 (hh rfl)
      obtain ⟨q2, o10, hq2, o12⟩ := div_sign hfin hx
      have hKd : -(HALF : Int) ≤ K d ∧ K d ≤ (HALF : Int) := by rw [K_rg]; split <;> omega
      have o5 : (FloatKind.f64.format.order d 4602678819172646912 == some .gt) = false := by
        refine (order_gt hdn (by decide +kernel)).trans (decide_eq_false ?_)
        rw [show K 4602678819172646912 = (HALF : Int) by decide +kernel]; omega
      have o6 : (FloatKind.f64.format.order d 13826050856027422720 == some .lt) = false := by
        refine (order_lt hdn (by decide +kernel)).trans (decide_eq_false ?_)
        rw [show K 13826050856027422720 = -(HALF : Int) by decide +kernel]; omega
      have hrgR : rg (Ieee.double.word (sgn x) R) = R := rg_word (by omega)
      have hcond : (((FloatKind.f64.format.order (Ieee.double.word (sgn x) R) 14069245235905429504 == some .gt) || (FloatKind.f64.format.order (Ieee.double.word (sgn x) R) 14069245235905429504 == some .eq)) && ((FloatKind.f64.format.order (Ieee.double.word (sgn x) R) 4845873199050653696 == some .lt) || (FloatKind.f64.format.order (Ieee.double.word (sgn x) R) 4845873199050653696 == some .eq))) = decide (c ≤ 2 ^ 53) := by
        have e : decide (rg (Ieee.double.word (sgn x) R) ≤ BIG) = decide (c ≤ 2 ^ 53) := decide_eq_decide.2 hW.small.symm
        rw [ge_big hrn, le_big hrn, in_big, e]
      have hI2 : IntIs (Ieee.double.word (sgn x) R) (if c ≤ 2 ^ 53 then intN (Ieee.double.word (sgn x) R) c else 0) (if c ≤ 2 ^ 53 then 0 else 13) := fun w => by
        have := int_whole_any hW hr64 w
        by_cases hc : c ≤ 2 ^ 53
        · rw [if_pos hc] at this; rw [if_pos hc, if_pos hc]; exact this
        · rw [if_neg hc] at this; rw [if_neg hc, if_neg hc]; exact this
      refine whole_fin n _ _ x _ d (Ieee.double.word (sgn x) INF) q2 _ _ _ (sgn x) w E l1 l2 hI1 hRx hRr (hss _) o1 (sub_self hfin) (by decide +kernel) o4 o5 o6 hI2 ?_ ?_ rfl rfl rfl ?_ o10 ?_ o12
      · rw [hcond]
        by_cases hc : c ≤ 2 ^ 53
        · rw [if_pos hc, decide_eq_true hc, if_pos rfl]
        · rw [if_neg hc, decide_eq_false hc]; rfl
      · intro hh2
        rw [hcond, decide_eq_true_eq] at hh2
        rw [if_pos hh2]
        exact back_eq hW hh2
      · intro hz
        have hz : (FloatKind.f64.format.order (Ieee.double.word (sgn x) R) 0 == some .eq) = true := by
          have : (!(FloatKind.f64.format.order (Ieee.double.word (sgn x) R) 0 == some .eq)) = false := hz
          simpa using this
        have hK := of_decide_eq_true ((order_same hrn (by decide +kernel)).symm.trans hz)
        rw [K_rg, hrgR, show K 0 = 0 by decide +kernel] at hK
        have hR0 : R = 0 := by split at hK <;> omega
        rw [hR0]
        exact div_zero (sgn x)
      · refine (order_lt (isNaN_word (Nat.le_refl _)) (by decide +kernel)).trans ?_
        rw [K_word _ (Nat.le_refl _), show K 0 = 0 by decide +kernel]
        cases sgn x
        · rw [decide_eq_false_iff_not]; simp
        · rw [decide_eq_true_iff]; simp
  · have hb : bitsF x = QNAN := by unfold bitsF; rw [if_pos hn]
    have hbq : bitsF QNAN = QNAN := by unfold bitsF; rw [if_pos isNaN_qnan]
    exact whole_nan n x QNAN w E l1 l2 hI1 (round_nan x hn) (round_nan QNAN isNaN_qnan) (hss _) (sameB_true.2 (by rw [hb, hbq])) (ord_self_nan hn)

theorem whole_all (n : Int) (x : Nat) (w : World) (E : Env w) (_ : (Lit.int .i64 n).wf = true) (hx : (Lit.float .f64 x).wf = true) :
    Calls Tryd.prog 3 #[.int .i64 n, .float .f64 x] w fun e w' => e = .returned (.bool true) ∧ Below w.heap.size w w' :=
  whole_walk n x (by simpa [Lit.wf] using hx) w E
end Go.Proofs.YtjepjheklnaidaaDoor
