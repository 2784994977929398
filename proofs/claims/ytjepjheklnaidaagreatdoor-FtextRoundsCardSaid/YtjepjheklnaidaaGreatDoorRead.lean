/-
  The contract of ftext.bits: whatever the text, it answers; and what was written it reads.
-/
import Derived.Test.YtjepjheklnaidaaGreatDoorBits
import Derived.Test.YtjepjheklnaidaaGreatDoorPlain
namespace Go.Proofs.YtjepjheklnaidaaGreatDoor
open Go Go.RowKit F64
set_option maxRecDepth 100000

theorem ba_of {t : ByteArray} {l : List UInt8} (h : t.data.toList = l) : t = ⟨l.toArray⟩ := by
  subst h
  cases t
  simp
theorem ba_eq (t : ByteArray) (l : List UInt8) : (t.toList == l) = decide (t.data.toList = l) := by
  rw [ByteArray.toList_eq]
  by_cases h : t.data.toList = l
  · simp [h]
  · simp [h]
theorem textAbs_head (m : Nat) : ∃ c r, textAbs m = c :: r ∧ (c = 105 ∨ c = 48 ∨ c = 49) := by
  by_cases hI : m / 2 ^ 52 = 2047
  · unfold textAbs; rw [if_pos hI]; exact ⟨_, _, rfl, Or.inl rfl⟩
  · by_cases h0 : m = 0
    · rw [h0, textAbs_zero]; exact ⟨_, _, rfl, Or.inr (Or.inl rfl)⟩
    · rw [textAbs_num h0 hI]
      unfold headL
      by_cases he : m / 2 ^ 52 = 0
      · rw [if_pos he]; exact ⟨_, _, rfl, Or.inr (Or.inl rfl)⟩
      · rw [if_neg he]; exact ⟨_, _, rfl, Or.inr (Or.inr rfl)⟩
theorem textAbs_is_inf {m : Nat} (hm : m ≤ INF) (h : textAbs m = [105, 110, 102]) : m = INF := by
  have hI := INF_val
  by_cases h1 : m / 2 ^ 52 = 2047
  · omega
  · exfalso
    by_cases h0 : m = 0
    · rw [h0, textAbs_zero] at h; exact absurd h (by decide)
    · rw [textAbs_num h0 h1] at h
      unfold headL at h
      by_cases he : m / 2 ^ 52 = 0
      · rw [if_pos he] at h; simp at h
      · rw [if_neg he] at h; simp at h
theorem textAbs_is_zero {m : Nat} (h : textAbs m = [48]) : m = 0 := by
  by_cases h1 : m / 2 ^ 52 = 2047
  · exfalso; unfold textAbs at h; rw [if_pos h1] at h; exact absurd h (by decide)
  · by_cases h0 : m = 0
    · exact h0
    · exfalso
      rw [textAbs_num h0 h1] at h
      have : (112 : UInt8) ∈ ([48] : List UInt8) := by rw [← h]; simp
      simp at this
theorem hexVal_lt : ∀ (l : List UInt8) (a v : Nat), hexVal a l = some v → v < (a + 1) * 16 ^ l.length
  | [], a, v, h => by injection h with h; simp; omega
  | c :: l, a, v, h => by
    unfold hexVal at h
    cases hc : hv c with
    | none => rw [hc] at h; cases h
    | some d =>
      rw [hc] at h
      have h1 := hexVal_lt l (a * 16 + d) v h
      have h2 := hv_lt hc
      rw [List.length_cons, Nat.pow_succ]
      have h3 : (a * 16 + d + 1) * 16 ^ l.length ≤ ((a + 1) * 16) * 16 ^ l.length := Nat.mul_le_mul_right _ (by omega)
      have h4 : (a + 1) * 16 * 16 ^ l.length = (a + 1) * (16 ^ l.length * 16) := by rw [Nat.mul_assoc, Nat.mul_comm 16]
      omega

def BitsIs (t : ByteArray) (b : Nat) (ok : Bool) : Prop := ∀ w, Env w → Calls Tryz.prog 26 #[.string t] w fun e w' => e = .returned (.tuple #[.int .u64 (b : Int), .bool ok]) ∧ Below w.heap.size w w'

theorem cutIs_of (t : ByteArray) (c : UInt8) (H X : List UInt8) (ok : Bool) (h : Lib.cut t.data.toList [c] = (H, X, ok)) (hs : t.size ≤ 1000000) : CutIs t c ⟨H.toArray⟩ ⟨X.toArray⟩ ok := fun w => cut_one t c w H X ok h hs
theorem atoiOk_of (X : ByteArray) (v : Int) (hs : X.size ≤ 1000000) (h : Lib.atoiAll X.data.toList = .ok v) : AtoiOk X v := fun w =>
  (Tryz.strconv_Atoi_ok X (by omega) v h w).mono fun e w' ⟨he, hw⟩ => ⟨he, by
    rcases hw with rfl | ⟨t, rfl⟩
    · exact Below.refl _ _
    · exact Lib.bytesWorld_below _ _ _⟩
theorem atoiBad_of (X : ByteArray) (hs : X.size ≤ 1000000) (h : ∀ v, Lib.atoiAll X.data.toList ≠ .ok v) : ∃ v, AtoiBad X v := by
  rcases hc : Lib.atoiAll X.data.toList with v | _ | _
  · exact absurd hc (h v)
  · refine ⟨0, fun w E => ?_⟩
    obtain ⟨te, pe, e⟩ := E.syn
    exact (Tryz.strconv_Atoi_none X (by omega) hc _ w e (Or.inr ⟨te, pe, rfl⟩)).mono fun e w' ⟨N, h1, _, _, h4⟩ => ⟨N, h1, h4⟩
  · refine ⟨Lib.atoiSat X.data.toList, fun w E => ?_⟩
    obtain ⟨te, pe, e⟩ := E.rng
    exact (Tryz.strconv_Atoi_range X (by omega) hc _ w e (Or.inr ⟨te, pe, rfl⟩)).mono fun e w' ⟨N, h1, _, _, h4⟩ => ⟨N, h1, h4⟩
theorem repIs_of (R : ByteArray) (h : R.size ≤ 13) : RepIs R ⟨(List.replicate (13 - R.size) 48).toArray⟩ := fun w => by
  have := repeat_nought (13 - R.size) w (by omega)
  rw [show ((13 - R.size : Nat) : Int) = 13 - (R.size : Int) by omega] at this
  exact this

theorem cut_sizes (l : List UInt8) (c : UInt8) : (Lib.cut l [c]).1.length ≤ l.length ∧ (Lib.cut l [c]).2.1.length ≤ l.length := by
  unfold Lib.cut
  split
  · simp only [List.length_take, List.length_drop]; omega
  · simp

/-- What is known of a text that spells a rung. -/
structure Spells (t : ByteArray) (m : Nat) : Prop where
  num : m ≠ 0 ∧ m / 2 ^ 52 ≠ 2047 ∧ m ≤ INF
  txt : t.data.toList = headL (m / 2 ^ 52) (m % 2 ^ 52) ++ 112 :: Lib.itoa (expI (m / 2 ^ 52))

theorem read_any (t : ByteArray) (hs : t.size ≤ 1000) : ∃ (b : Nat) (ok : Bool), b < 2 ^ 64 ∧ BitsIs t b ok ∧ (t.data.toList = [110, 97, 110] → b = QNAN ∧ ok = true) ∧ ∀ m, m ≤ INF → t.data.toList = textAbs m → b = m ∧ ok = true := by
  have hI := INF_val
  by_cases n1 : t.data.toList = [110, 97, 110]
  · obtain rfl := ba_of n1
    refine ⟨QNAN, true, by decide, fun w _ => (bits_nan w).mono fun e w' ⟨h1, h2⟩ => ⟨h1, h2 ▸ Below.refl _ _⟩, fun _ => ⟨rfl, rfl⟩, fun m hm h => ?_⟩
    exfalso
    obtain ⟨c, r, e, hc⟩ := textAbs_head m
    rw [n1, e] at h
    injection h with h1 h2
    rcases hc with rfl | rfl | rfl <;> exact absurd h1 (by decide)
  by_cases n2 : t.data.toList = [105, 110, 102]
  · obtain rfl := ba_of n2
    exact ⟨INF, true, by decide, fun w _ => (bits_inf w).mono fun e w' ⟨h1, h2⟩ => ⟨h1, h2 ▸ Below.refl _ _⟩, fun h => absurd h n1, fun m hm h => ⟨(textAbs_is_inf hm (h.symm.trans n2)).symm, rfl⟩⟩
  by_cases n3 : t.data.toList = [48]
  · obtain rfl := ba_of n3
    exact ⟨0, true, by decide, fun w _ => (bits_zero w).mono fun e w' ⟨h1, h2⟩ => ⟨h1, h2 ▸ Below.refl _ _⟩, fun h => absurd h n1, fun m hm h => ⟨(textAbs_is_zero (h.symm.trans n3)).symm, rfl⟩⟩
  have hn : NoWord t := ⟨by rw [ba_eq]; simpa using n1, by rw [ba_eq]; simpa using n2, by rw [ba_eq]; simpa using n3⟩
  suffices hmain : ∃ (b : Nat) (ok : Bool), b < 2 ^ 64 ∧ BitsIs t b ok ∧ ∀ m, Spells t m → b = m ∧ ok = true by
    obtain ⟨b, ok, h1, h2, h3⟩ := hmain
    refine ⟨b, ok, h1, h2, fun h => absurd h n1, fun m hm h => h3 m ?_⟩
    have g1 : m ≠ 0 := fun e => n3 (by rw [h, e, textAbs_zero])
    have g2 : m / 2 ^ 52 ≠ 2047 := fun e => n2 (by rw [h]; unfold textAbs; rw [if_pos e])
    exact ⟨⟨g1, g2, hm⟩, by rw [h, textAbs_num g1 g2]⟩
  have hsl : t.data.toList.length ≤ 1000 := by rw [← Lib.size_eq]; exact hs
  obtain ⟨H, X, ok, hc1⟩ : ∃ H X ok, Lib.cut t.data.toList [112] = (H, X, ok) := ⟨_, _, _, rfl⟩
  obtain ⟨O, R, b2, hc2⟩ : ∃ O R b2, Lib.cut H [46] = (O, R, b2) := ⟨_, _, _, rfl⟩
  have hHl : H.length ≤ 1000 := by have := (cut_sizes t.data.toList 112).1; rw [hc1] at this; exact Nat.le_trans this hsl
  have hXl : X.length ≤ 1000 := by have := (cut_sizes t.data.toList 112).2; rw [hc1] at this; exact Nat.le_trans this hsl
  have sz : ∀ l : List UInt8, (⟨l.toArray⟩ : ByteArray).size = l.length := fun l => by rw [Lib.size_eq]
  have C1 := cutIs_of t 112 H X ok hc1 (by omega)
  have C2 := cutIs_of ⟨H.toArray⟩ 46 O R b2 hc2 (by rw [sz]; omega)
  have spell : ∀ m, Spells t m → H = headL (m / 2 ^ 52) (m % 2 ^ 52) ∧ X = Lib.itoa (expI (m / 2 ^ 52)) ∧ ok = true ∧ O = (if m / 2 ^ 52 = 0 then [48] else [49]) ∧ R = (if m % 2 ^ 52 = 0 then [] else hexT (m % 2 ^ 52)) ∧ Lib.atoiAll X = .ok (expI (m / 2 ^ 52)) ∧ -1022 ≤ expI (m / 2 ^ 52) ∧ expI (m / 2 ^ 52) ≤ 1023 := by
    intro m hm
    have e1 : Lib.cut t.data.toList [112] = (headL (m / 2 ^ 52) (m % 2 ^ 52), Lib.itoa (expI (m / 2 ^ 52)), true) := by rw [hm.txt, cut_hit _ _ _ (headL_mem _ _)]
    rw [hc1] at e1
    injection e1 with g1 g2
    injection g2 with g2 g3
    obtain ⟨bb, e2⟩ := headL_cut (m / 2 ^ 52) (m % 2 ^ 52)
    rw [← g1, hc2] at e2
    injection e2 with k1 k2
    injection k2 with k2 k3
    have hb := hm.num
    have r1 : -1022 ≤ expI (m / 2 ^ 52) := by unfold expI; split <;> omega
    have r2 : expI (m / 2 ^ 52) ≤ 1023 := by unfold expI; split <;> omega
    exact ⟨g1, g2, g3, k1, k2, by rw [g2]; exact atoi_itoa _ (by omega) (by omega), r1, r2⟩
  by_cases hA : ∃ v, Lib.atoiAll X = .ok v
  · obtain ⟨v, hA⟩ := hA
    have C3 : AtoiOk ⟨X.toArray⟩ v := atoiOk_of _ v (by rw [sz]; omega) hA
    have hv : ∀ m, Spells t m → v = expI (m / 2 ^ 52) := fun m hm => by
      have := (spell m hm).2.2.2.2.2.1
      rw [hA] at this; injection this
    by_cases hbad : (!ok || decide (13 < ((⟨R.toArray⟩ : ByteArray).size : Int)) || decide (v < -1022) || decide (1023 < v)) = true
    · refine ⟨0, false, by decide, fun w _ => bits_b t _ _ _ _ ok b2 _ _ _ v w hn C1 C2 C3 rfl rfl rfl hbad, fun m hm => ?_⟩
      exfalso
      obtain ⟨_, _, g3, _, g5, _, g7, g8⟩ := spell m hm
      rw [← hv m hm] at g7 g8
      rw [g3, sz, decide_eq_false (show ¬ (v < -1022) by omega), decide_eq_false (show ¬ (1023 < v) by omega)] at hbad
      have : R.length ≤ 13 := by rw [g5]; split; · simp
                                 · exact hexT_len _
      rw [decide_eq_false (by omega)] at hbad
      exact absurd hbad (by decide)
    · simp only [Bool.or_eq_true, decide_eq_true_eq, not_or, Bool.not_eq_true', Bool.not_eq_false] at hbad
      obtain ⟨⟨⟨q0, q1⟩, q2⟩, q3⟩ := hbad
      have q1' := decide_eq_false q1
      have q2' := decide_eq_false q2
      have q3' := decide_eq_false q3
      rw [q0] at C1
      have hR13 : R.length ≤ 13 := by rw [sz] at q1; omega
      have glo := bits_lo_u64 .or (IntKind.u64.wrap (IntKind.u64.wrap (wrap64 (v + 1023)) * 4503599627370496))
      have ghi := bits_hi_u64 .or (IntKind.u64.wrap (IntKind.u64.wrap (wrap64 (v + 1023)) * 4503599627370496))
      by_cases hR : R = []
      · subst hR
        have hg0 := glo 0
        have hg1 := ghi 0
        generalize hg : bits .or .u64 (IntKind.u64.wrap (IntKind.u64.wrap (wrap64 (v + 1023)) * 4503599627370496)) 0 = g at hg0 hg1
        refine ⟨(if (decide (O = [48]) && (v == -1022)) = true then 0 else g).toNat, (decide (O = [48]) && (v == -1022)) || decide (O = [49]), ?_, fun w _ => ?_, fun m hm => ?_⟩
        · split <;> omega
        · have := bits_c t _ _ _ _ b2 _ _ _ v g w hn C1 C2 C3 q1' q2' q3' (by rw [ba_eq]; rfl) (ba_eq _ [48]) (ba_eq _ [49]) rfl hg
          rw [show ((((if (decide (O = [48]) && (v == -1022)) = true then 0 else g).toNat : Nat)) : Int) = (if (decide (O = [48]) && (v == -1022)) = true then 0 else g) by split <;> omega]
          exact this
        · obtain ⟨_, _, _, g4, g5, _, _, _⟩ := spell m hm
          have hf : m % 2 ^ 52 = 0 := by
            by_cases h : m % 2 ^ 52 = 0
            · exact h
            · rw [if_neg h] at g5
              exact hexT_nil (Nat.mod_lt _ (by decide)) g5.symm
          have he : m / 2 ^ 52 ≠ 0 := fun h => hm.num.1 (by omega)
          rw [if_neg he] at g4
          have e0 : expI (m / 2 ^ 52) = ((m / 2 ^ 52 : Nat) : Int) - 1023 := by unfold expI; rw [if_neg he]
          have hj := join_parts (m / 2 ^ 52) 0 (by have := hm.num; omega) (by decide)
          rw [← e0, ← hv m hm] at hj
          rw [show ((0 : Nat) : Int) = 0 from rfl] at hj
          rw [hg] at hj
          rw [g4]
          refine ⟨?_, rfl⟩
          show g.toNat = m
          omega
      · have hRs : (⟨R.toArray⟩ : ByteArray).size ≤ 13 := by rw [sz]; exact hR13
        have C4 := repIs_of ⟨R.toArray⟩ hRs
        have qr : ((⟨R.toArray⟩ : ByteArray).toList == []) = false := by rw [ba_eq]; simpa using hR
        have hzs : (⟨R.toArray⟩ : ByteArray).size + (⟨(List.replicate (13 - (⟨R.toArray⟩ : ByteArray).size) 48).toArray⟩ : ByteArray).size ≤ 26 := by rw [sz, sz, List.length_replicate]; omega
        have hdat : ((⟨R.toArray⟩ : ByteArray) ++ ⟨(List.replicate (13 - (⟨R.toArray⟩ : ByteArray).size) 48).toArray⟩).data.toList = R ++ List.replicate (13 - R.length) 48 := by rw [ba_append, sz]
        have hsz : ((⟨R.toArray⟩ : ByteArray) ++ ⟨(List.replicate (13 - (⟨R.toArray⟩ : ByteArray).size) 48).toArray⟩).size = 13 := by rw [Lib.size_eq, hdat, List.length_append, List.length_replicate]; omega
        have hspec : ∀ m, Spells t m → m % 2 ^ 52 ≠ 0 ∧ hexVal 0 (R ++ List.replicate (13 - R.length) 48) = some (m % 2 ^ 52) := fun m hm => by
          obtain ⟨_, _, _, _, g5, _, _, _⟩ := spell m hm
          by_cases h : m % 2 ^ 52 = 0
          · rw [if_pos h] at g5; exact absurd g5 hR
          · rw [if_neg h] at g5
            refine ⟨h, ?_⟩
            rw [g5, hexT_pad, hexVal_hexN 13 _ 0 (by rw [show (16 : Nat) ^ 13 = 2 ^ 52 by decide]; exact Nat.mod_lt _ (by decide))]
            rw [Nat.zero_mul, Nat.zero_add]
        cases hx : hexVal 0 (R ++ List.replicate (13 - R.length) 48) with
        | none =>
          have C5 : PuBad ((⟨R.toArray⟩ : ByteArray) ++ ⟨(List.replicate (13 - (⟨R.toArray⟩ : ByteArray).size) 48).toArray⟩) := fun w E => by
            obtain ⟨te, pe, e⟩ := E.syn
            exact parseUint_bad _ hsz (by rw [hdat, hx]) _ w e (Or.inr ⟨te, pe, rfl⟩)
          refine ⟨0, false, by decide, fun w E => bits_d t _ _ _ _ _ b2 v w E hn C1 C2 C3 q1' q2' q3' qr C4 hzs C5, fun m hm => ?_⟩
          have := (hspec m hm).2
          rw [hx] at this; cases this
        | some f =>
          have C5 : PuOk ((⟨R.toArray⟩ : ByteArray) ++ ⟨(List.replicate (13 - (⟨R.toArray⟩ : ByteArray).size) 48).toArray⟩) f := fun w => parseUint_ok _ hsz f (by rw [hdat, hx]) w
          have hf52 : f < 2 ^ 52 := by
            have := hexVal_lt _ _ _ hx
            rw [List.length_append, List.length_replicate, show R.length + (13 - R.length) = 13 by omega, Nat.zero_add, Nat.one_mul, show (16 : Nat) ^ 13 = 2 ^ 52 by decide] at this
            exact this
          have hg0 := glo f
          have hg1 := ghi f
          generalize hg : bits .or .u64 (IntKind.u64.wrap (IntKind.u64.wrap (wrap64 (v + 1023)) * 4503599627370496)) (f : Int) = g at hg0 hg1
          refine ⟨(if (decide (O = [48]) && (v == -1022)) = true then (f : Int) else g).toNat, (decide (O = [48]) && (v == -1022)) || decide (O = [49]), ?_, fun w _ => ?_, fun m hm => ?_⟩
          · split <;> omega
          · have := bits_e t _ _ _ _ _ f b2 _ _ _ v g w hn C1 C2 C3 q1' q2' q3' qr C4 hzs C5 (ba_eq _ [48]) (ba_eq _ [49]) rfl hg
            rw [show ((((if (decide (O = [48]) && (v == -1022)) = true then (f : Int) else g).toNat : Nat)) : Int) = (if (decide (O = [48]) && (v == -1022)) = true then (f : Int) else g) by split <;> omega]
            exact this
          · obtain ⟨_, _, _, g4, _, _, _, _⟩ := spell m hm
            have hx2 := (hspec m hm).2
            rw [hx] at hx2
            injection hx2 with hx2
            have hve := hv m hm
            by_cases he : m / 2 ^ 52 = 0
            · rw [if_pos he] at g4
              have : v = -1022 := by rw [hve]; unfold expI; rw [if_pos he]
              rw [g4, this]
              refine ⟨?_, rfl⟩
              show (f : Int).toNat = m
              omega
            · rw [if_neg he] at g4
              have e0 : expI (m / 2 ^ 52) = ((m / 2 ^ 52 : Nat) : Int) - 1023 := by unfold expI; rw [if_neg he]
              have hj := join_parts (m / 2 ^ 52) f (by have := hm.num; omega) hf52
              rw [← e0, ← hve, hg] at hj
              rw [g4]
              refine ⟨?_, rfl⟩
              show g.toNat = m
              omega
  · obtain ⟨v, C3⟩ := atoiBad_of ⟨X.toArray⟩ (by rw [sz]; omega) (fun v h => hA ⟨v, h⟩)
    refine ⟨0, false, by decide, fun w E => bits_atoi t _ _ _ _ ok b2 v w E hn C1 C2 C3, fun m hm => ?_⟩
    exact absurd ⟨_, (spell m hm).2.2.2.2.2.1⟩ hA
end Go.Proofs.YtjepjheklnaidaaGreatDoor
