/-
  What the document fixes: the law's own 'awake'. And the whole numbers next to a number, as the machine gives them.
-/
import Derived.Test.YtjepjheklnaidaaDoorParse
namespace Go.Proofs.YtjepjheklnaidaaDoor
open Go Go.RowKit F64
set_option maxRecDepth 100000

/-- The whole number next to a number, in a way. -/
def wholeW (way : Ieee.Toward) (x : Nat) : Nat := Ieee.double.write ((Ieee.double.read x).integral way)

/-- What the machine does with a datum. -/
def wholeD (x : Nat) (way : Ieee.Toward) (d : Ieee.Datum) : Sem Value :=
  match d with
  | .nan s t =>
    if FloatKind.f64.format.quiet t = t then pure (.float .f64 x) else do
    let kept ← choose (.extern "math.Floor,Ceil,Trunc,RoundToEven.signallingNaN kept" 2)
    pure (.float .f64 (if kept == 1 then x else FloatKind.f64.encode (.nan s (FloatKind.f64.format.quiet t))))
  | d => pure (.float .f64 (FloatKind.f64.encode (d.integral way)))
theorem toIntegral_eq (name : String) (way : Ieee.Toward) (x : Nat) : Extern.MathFloor.toIntegral name way #[.float .f64 x] = wholeD x way (FloatKind.f64.decode x) := rfl
theorem whole_run (name : String) (way : Ieee.Toward) (x : Nat) (h : isNaN x = false) (w : World) : (Extern.MathFloor.toIntegral name way #[.float .f64 x]).run Tryd.prog w = .ok (.float .f64 (wholeW way x)) w := by
  have hr := isNaN_false.1 h
  rw [toIntegral_eq]
  unfold wholeW
  have e : ∀ d, Ieee.double.read x = d → FloatKind.f64.decode x = d := fun _ h => h
  by_cases hi : rg x = INF
  · rw [e _ (read_inf hi), read_inf hi]
    rfl
  · rw [e _ (read_finite (w := x) (by omega)), read_finite (w := x) (by omega)]
    rfl
theorem callRound (x : Nat) (h : isNaN x = false) (w : World) : (callFunc 20 #[.float .f64 x]).run Tryd.prog w = .ok (.value (.float .f64 (wholeW .even x))) w := by
  rw [run_callFunc_extern (e := Extern.MathFloor.toIntegral "math.RoundToEven" .even) Tryd.func20 (by kernel_rfl) (by kernel_rfl) (by kernel_rfl) (by kernel_rfl) _ w, whole_run _ _ x h]
  rfl

set_option maxHeartbeats 400000 in
theorem round_num (x : Nat) (h : isNaN x = false) (w : World) : Calls Tryd.prog 10 #[.float .f64 x] w fun e w' => e = .returned (.float .f64 (bitsF (wholeW .even x))) ∧ w = w' := by
  have h1 := fun w => callRound x h w
  clear h
  go_enter Tryd.func10, Tryd.ntmps10
  go_wp2_with (first
    | (go_at_call 19; refine (bits_any _ _).mono ?_; rintro e w1 ⟨rfl, rfl⟩)
    | (go_at_call 18; refine (from_any _ _).mono ?_; rintro e w1 ⟨rfl, rfl⟩))
  go_ret
  refine ⟨?_, rfl⟩
  show Ending.returned (.float .f64 (bitsF (bitsF _))) = _
  rw [bitsF_bitsF]

theorem itoa_minus1 : Lib.itoa (-1) = [45, 49] := by
  unfold Lib.itoa
  rw [if_pos (by decide), show (-1 : Int).natAbs = 1 from rfl, Lib.decDigits_one (by decide)]; rfl
theorem itoa_0 : Lib.itoa 0 = [48] := by
  unfold Lib.itoa
  rw [if_neg (by decide), show (0 : Int).toNat = 0 from rfl, Lib.decDigits_one (by decide)]; rfl
theorem text_one : textF 4607182418800017408 = [49, 112, 48] := by
  unfold textF textAbs headL expI
  rw [if_neg (by decide +kernel), if_neg (by decide +kernel), show rg 4607182418800017408 = 4607182418800017408 by decide +kernel, if_neg (by decide), if_neg (by decide), if_neg (by decide), if_pos (by decide), if_neg (by decide)]
  rw [show ((4607182418800017408 / 2 ^ 52 : Nat) : Int) - 1023 = 0 by decide, itoa_0]; rfl
theorem hexT_half : hexT 2251799813685248 = [56] := by unfold hexT; decide +kernel
theorem text_m34 : textF 13828302655841107968 = [45, 49, 46, 56, 112, 45, 49] := by
  unfold textF textAbs headL expI
  rw [if_neg (by decide +kernel), if_pos (by decide +kernel), show rg 13828302655841107968 = 4604930618986332160 by decide +kernel, if_neg (by decide), if_neg (by decide), if_neg (by decide), if_neg (by decide), if_neg (by decide)]
  rw [show 4604930618986332160 % 2 ^ 52 = 2251799813685248 by decide, hexT_half, show ((4604930618986332160 / 2 ^ 52 : Nat) : Int) - 1023 = -1 by decide, itoa_minus1]; rfl
theorem round_52 (w : World) : Calls Tryd.prog 10 #[.float .f64 4612811918334230528] w fun e w' => e = .returned (.float .f64 4611686018427387904) ∧ w = w' := by
  have h := round_num 4612811918334230528 (by decide +kernel) w
  rw [show bitsF (wholeW .even 4612811918334230528) = 4611686018427387904 by decide +kernel] at h
  exact h
theorem norm_m34 : Norm 13828302655841107968 := ⟨by decide, by decide +kernel⟩

theorem awake_any (w : World) (E : Env w) : Calls Tryd.prog 8 #[] w fun e w' => e = .returned (.bool true) ∧ Below w.heap.size w w' := by
  have h1 := parse_hit ⟨#[45, 49, 46, 56, 112, 45, 49]⟩ 13828302655841107968 norm_m34 (by rw [text_m34]) (by decide) w E
  have h2 : ∀ w1, Below w.heap.size w w1 → Calls Tryd.prog 14 #[.float .f64 4607182418800017408] w1 fun e w' => e = .returned (.string ⟨#[49, 112, 48]⟩) ∧ Below w1.heap.size w1 w' := fun w1 hb => by
    have := text_any 4607182418800017408 (by decide) w1 (E.below hb)
    rw [text_one] at this; exact this
  have e1 : (FloatKind.f64.format.order 13828302655841107968 13828302655841107968 == some .eq) = true := by decide +kernel
  have e2 : (FloatKind.f64.format.order 4611686018427387904 4611686018427387904 == some .eq) = true := by decide +kernel
  go_enter Tryd.func8, Tryd.ntmps8
  go_wp2_with (go_at_call 12; refine h1.mono ?_)
  rintro e w1 ⟨rfl, b1⟩
  go_wp2_with (go_at_call 14; refine (h2 _ b1).mono ?_)
  rintro e w2 ⟨rfl, b2⟩
  go_wp2_with (go_at_call 10; refine (round_52 _).mono ?_; rintro e w3 ⟨rfl, rfl⟩)
  go_ret
  exact ⟨rfl, below_trans b1 b2⟩
end Go.Proofs.YtjepjheklnaidaaDoor
