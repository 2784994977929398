/-
  The walk of the reference's Parse: whatever the text, it answers as the plain function rpS says.
-/
import Derived.Test.YtjepjheklnaidaaDoorRpl
import Derived.Deep.DeepCutAuto
import Derived.LoopTactic
namespace Go.Proofs.YtjepjheklnaidaaDoor
open Go Go.RowKit F64
set_option maxRecDepth 100000

/-- A fraction, if there is one, and what is left. -/
def fr (l : List UInt8) : Nat × List UInt8 := match l with
  | [] => (0, [])
  | c :: r => if c = 46 then fracL 13 0 r else (0, c :: r)
/-- What a text ahead of its sign is read as; b: the sign's word. -/
def rpT (b : Nat) (sl tl : List UInt8) : Value :=
  if tl = [110, 97, 110] then (if b = 0 then okV QNAN else badV)
  else if tl = [105, 110, 102] then okV (bitsF (b ||| 9218868437227405312))
  else if tl = [48] then okV (bitsF b)
  else match tl with
    | [] => badV
    | c :: l1 => if l1.length < 2 ∨ (c ≠ 48 ∧ c ≠ 49) then badV else rpP b sl (c == 49) (fr l1).1 (fr l1).2
/-- What a text is read as. -/
def rpS (l : List UInt8) : Value := match l with
  | [] => rpT 0 l l
  | c :: r => if c = 45 then rpT 9223372036854775808 l r else rpT 0 l l

theorem idx_at (t : ByteArray) (i : Nat) (c : UInt8) (r : List UInt8) (h : t.data.toList.drop i = c :: r) (w : World) : (Instr.index 9 (.string t) (.int .i64 (i : Int))).run Tryd.prog w = .ok (.int .u8 (c.toNat : Int)) w := by
  have hl : i < t.data.toList.length := by
    have := congrArg List.length h
    rw [List.length_drop, List.length_cons] at this; omega
  have hs : i < t.size := by rw [Lib.size_eq]; exact hl
  rw [run_index_string w 9 t .i64 _ Tryd.underlying9, dif_pos ⟨by omega, by omega⟩]
  have e : ((i : Int)).toNat = i := by omega
  simp only [e]
  have hg : t[i]'hs = c := by
    have h2 := List.drop_eq_getElem_cons hl
    rw [h] at h2
    injection h2 with a _
    exact a.symm
  rw [hg]
theorem hexOf_lt (c : UInt8) : hexOfI c < 16 ∧ -1 ≤ hexOfI c := by unfold hexOfI; split <;> (try split) <;> omega

/-- What the walk leaves of a text behind the p: the exponent and the end. -/
def FracIs (t : ByteArray) (i f : Nat) : Prop := (fr (t.data.toList.drop 1)) = (f, t.data.toList.drop i) ∧ i ≤ t.size ∧ 1 ≤ i ∧ f < 2 ^ 52

/-- Does it begin with a minus? -/
def isM (l : List UInt8) : Bool := match l with
  | [] => false
  | c :: _ => c == 45
theorem beq_nat (c k : UInt8) (n : Nat) (h : k.toNat = n) : ((c.toNat : Int) == (n : Int)) = (c == k) := by
  subst h
  by_cases e : c = k
  · subst e; simp
  · have : (c == k) = false := by rw [beq_eq_false_iff_ne]; exact e
    rw [this, beq_eq_false_iff_ne]
    intro h2
    exact e (UInt8.toNat_inj.1 (by omega))
theorem get_drop (t : ByteArray) (i : Nat) (c : UInt8) (r : List UInt8) (h : t.data.toList.drop i = c :: r) : ∃ hs : i < t.size, t[i]'hs = c ∧ t.data.toList.drop (i + 1) = r := by
  have hl : i < t.data.toList.length := by
    have := congrArg List.length h
    rw [List.length_drop, List.length_cons] at this; omega
  have hs : i < t.size := by rw [Lib.size_eq]; exact hl
  have h2 := List.drop_eq_getElem_cons hl
  rw [h] at h2
  injection h2 with a b
  exact ⟨hs, a.symm, b.symm⟩
theorem isM_false (l : List UInt8) (h : isM l = false) : rpS l = rpT 0 l l := by
  cases l with
  | nil => rfl
  | cons c r =>
    have : c ≠ 45 := by intro e; subst e; simp [isM] at h
    unfold rpS; dsimp only; rw [if_neg this]
theorem isM_true (l : List UInt8) (h : isM l = true) : 0 < l.length ∧ rpS l = rpT 9223372036854775808 l (l.drop 1) := by
  cases l with
  | nil => exact absurd h (by decide)
  | cons c r =>
    have : c = 45 := by simpa [isM] using h
    subst this
    exact ⟨by simp, rfl⟩
/-- Is it no head of a number? -/
def badH (l : List UInt8) : Bool := match l with
  | [] => true
  | c :: l1 => decide (l1.length < 2) || (c != 48 && c != 49)
/-- Does the fraction go on? -/
def contF (l : List UInt8) (j : Nat) : Bool := match l with
  | [] => false
  | c :: _ => decide (0 ≤ hexOfI c) && decide (0 < j)
/-- Does the exponent go on? -/
def contE (l : List UInt8) (e : Nat) : Bool := match l with
  | [] => false
  | c :: _ => decide (48 ≤ c.toNat) && decide (c.toNat ≤ 57) && decide (e < 10000)
theorem contF_false {l : List UInt8} {j f : Nat} (h : contF l j = false) : fracL j f l = (f, l) := by
  cases j with
  | zero => cases l <;> rfl
  | succ j =>
    cases l with
    | nil => rfl
    | cons c r =>
      rw [fracL, if_neg (by simpa [contF] using h)]
theorem contF_true {l : List UInt8} {j f : Nat} (h : contF l j = true) : ∃ c r m, l = c :: r ∧ j = m + 1 ∧ 0 ≤ hexOfI c ∧ fracL j f l = fracL m (f ||| ((hexOfI c).toNat * 16 ^ m)) r := by
  cases l with
  | nil => simp [contF] at h
  | cons c r =>
    obtain ⟨h1, h2⟩ : 0 ≤ hexOfI c ∧ 0 < j := by simpa [contF] using h
    obtain ⟨m, rfl⟩ : ∃ m, j = m + 1 := ⟨j - 1, by omega⟩
    exact ⟨c, r, m, rfl, rfl, h1, by rw [fracL, if_pos h1]⟩
theorem contE_false {l : List UInt8} {e : Nat} (h : contE l e = false) : expL e l = (e, l) := by
  cases l with
  | nil => rfl
  | cons c r =>
    rw [expL, if_neg]
    rintro ⟨a, b, d⟩
    simp [contE, a, b, d] at h
theorem contE_true {l : List UInt8} {e : Nat} (h : contE l e = true) : ∃ c r, l = c :: r ∧ 48 ≤ c.toNat ∧ c.toNat ≤ 57 ∧ e < 10000 ∧ expL e l = expL (10 * e + (c.toNat - 48)) r := by
  cases l with
  | nil => simp [contE] at h
  | cons c r =>
    obtain ⟨⟨h1, h2⟩, h3⟩ : (48 ≤ c.toNat ∧ c.toNat ≤ 57) ∧ e < 10000 := by simpa [contE] using h
    exact ⟨c, r, rfl, h1, h2, h3, by rw [expL, if_pos ⟨h1, h2, h3⟩]⟩
theorem bne_nat (c k : UInt8) (n : Nat) (h : k.toNat = n) : ((c.toNat : Int) != (n : Int)) = (c != k) := by
  rw [bne, bne, beq_nat c k n h]
theorem rpT_nan {b : Nat} {sl tl : List UInt8} (h : tl = [110, 97, 110]) : rpT b sl tl = if b = 0 then okV QNAN else badV := by subst h; rfl
theorem rpT_inf {b : Nat} {sl tl : List UInt8} (h : tl = [105, 110, 102]) : rpT b sl tl = okV (bitsF (b ||| 9218868437227405312)) := by subst h; unfold rpT; rw [if_neg (by decide), if_pos rfl]
theorem rpT_zero {b : Nat} {sl tl : List UInt8} (h : tl = [48]) : rpT b sl tl = okV (bitsF b) := by subst h; unfold rpT; rw [if_neg (by decide), if_neg (by decide), if_pos rfl]
theorem rpT_bad {b : Nat} {sl tl : List UInt8} (h1 : tl ≠ [110, 97, 110]) (h2 : tl ≠ [105, 110, 102]) (h3 : tl ≠ [48]) (h : badH tl = true) : rpT b sl tl = badV := by
  unfold rpT
  rw [if_neg h1, if_neg h2, if_neg h3]
  cases tl with
  | nil => rfl
  | cons c l1 =>
    dsimp only
    rw [if_pos]
    simpa [badH] using h
theorem rpT_num {b : Nat} {sl tl : List UInt8} (h1 : tl ≠ [110, 97, 110]) (h2 : tl ≠ [105, 110, 102]) (h3 : tl ≠ [48]) (h : badH tl = false) : ∃ c d r, tl = c :: d :: r ∧ 1 ≤ r.length ∧ rpT b sl tl = rpP b sl (c == 49) (fr (d :: r)).1 (fr (d :: r)).2 := by
  unfold rpT
  rw [if_neg h1, if_neg h2, if_neg h3]
  match tl, h with
  | [], h => simp [badH] at h
  | [c], h => simp [badH] at h
  | c :: d :: r, h =>
    have h' := h
    simp only [badH, Bool.or_eq_false_iff, decide_eq_false_iff_not, List.length_cons] at h'
    refine ⟨c, d, r, rfl, by omega, ?_⟩
    dsimp only
    rw [if_neg]
    rintro (a | ⟨a, e⟩)
    · rw [List.length_cons] at a; exact h'.1 a
    · have := h'.2
      simp [a, e] at this
theorem rfrom_nan (w : World) : Calls Tryd.prog 16 #[.int .u64 9221120237041090560] w fun e w' => e = .returned (.float .f64 QNAN) ∧ w = w' := by
  have h := rfrom_any 9221120237041090560 w (by decide)
  rw [show bitsF 9221120237041090560 = QNAN by decide +kernel] at h
  exact h
theorem or_step {f d m : Nat} {k : Int} (hf : f < 2 ^ 52) (hd : d < 16) (hm : m ≤ 12) (hk : k = 4 * (m : Int)) :
    bits .or .u64 (f : Int) (IntKind.u64.wrap ((d : Int) * 2 ^ k.toNat)) = ((f ||| d * 16 ^ m : Nat) : Int) ∧ (f ||| d * 16 ^ m) < 2 ^ 52 := by
  have e1 : k.toNat = 4 * m := by omega
  have e2 : (2 : Int) ^ k.toNat = ((16 ^ m : Nat) : Int) := by rw [e1, Int.pow_mul]; norm_cast
  have h1 : d * 16 ^ m < 2 ^ 52 := by
    have : 16 ^ m ≤ 16 ^ 12 := Nat.pow_le_pow_right (by decide) hm
    have h2 : d * 16 ^ m ≤ 15 * 16 ^ 12 := Nat.mul_le_mul (by omega) this
    have h3 : 15 * 16 ^ 12 < 2 ^ 52 := by decide
    omega
  have e3 : IntKind.u64.wrap ((d : Int) * 2 ^ k.toNat) = ((d * 16 ^ m : Nat) : Int) := by
    rw [e2, IntKind.wrap_u64]
    have : (d : Int) * ((16 ^ m : Nat) : Int) = ((d * 16 ^ m : Nat) : Int) := by norm_cast
    rw [this]; omega
  refine ⟨?_, Nat.or_lt_two_pow hf h1⟩
  rw [e3, u64_or_nat f (d * 16 ^ m) (by omega) (by omega)]
theorem rpP_p (b : Nat) (sl : List UInt8) (nb : Bool) (f : Nat) (l : List UInt8) : rpP b sl nb f (112 :: l) = rpE b sl nb f (isM l) (if isM l = true then l.drop 1 else l) := by
  unfold rpP
  dsimp only
  rw [if_pos rfl]
  cases l with
  | nil => rfl
  | cons d r =>
    dsimp only
    by_cases h : d = 45
    · subst h; rfl
    · have : isM (d :: r) = false := by show (d == 45) = false; rw [beq_eq_false_iff_ne]; exact h
      rw [if_neg h, this]; rfl
theorem rpP_no (b : Nat) (sl : List UInt8) (nb : Bool) (f : Nat) (c : UInt8) (l : List UInt8) (h : c ≠ 112) : rpP b sl nb f (c :: l) = badV := by
  unfold rpP
  dsimp only
  rw [if_neg h]
set_option maxHeartbeats 4000000 in
theorem rparse_val (s : ByteArray) (hs : s.size ≤ 500) (V : Value) (hV : V = rpS s.data.toList) (w : World) :
    Calls Tryd.prog 13 #[.string s] w fun e w' => e = .returned V ∧ Below w.heap.size w w' := by
  have HVS := Lib.hid hV
  clear hV
  have sz : s.size = s.data.toList.length := Lib.size_eq s
  have SZ := Lib.hid sz
  clear sz
  go_enter Tryd.func13, Tryd.ntmps13
  go_upto_region 3 with fail
  go_cut [21] (fun c wx => c = .bool (isM s.data.toList) ∧ wx = w)
  case first => as_aux_lemma =>
    rcases hs0 : s.data.toList with _ | ⟨c, r⟩
    · have h0 : s.size = 0 := by rw [SZ.out, hs0]; rfl
      have HS := Lib.hid hs0
      clear hs0
      go_wp2_with fail
      go_meet
      exact ⟨by rw [HS.out]; rfl, rfl⟩
    · obtain ⟨h0, hc, _⟩ := get_drop s 0 c r hs0
      have HC := Lib.hid hc
      have HS := Lib.hid hs0
      clear hs0 hc
      go_wp2_with fail
      go_meet
      exact ⟨by rw [HC.out, HS.out]; exact congrArg Value.bool (beq_nat c 45 45 rfl), rfl⟩
  case rest => as_aux_lemma =>
    obtain ⟨rfl, rfl⟩ := hcut
    obtain ⟨m, hm⟩ : ∃ m, isM s.data.toList = m := ⟨_, rfl⟩
    rw [hm]
    have HM := Lib.hid hm
    clear hm
    go_upto_if 21 with fail
    go_cut [4, 5] (fun s4 s5 wx => ∃ (t : ByteArray) (b : Nat), s4 = .string t ∧ s5 = .int .u64 (b : Int) ∧ Hid (V = rpT b s.data.toList t.data.toList) ∧ Hid (b = 0 ∨ b = 9223372036854775808) ∧ t.size ≤ 500 ∧ wx = wc)
    case first => as_aux_lemma =>
      cases m
      · go_wp2_with fail
        go_meet
        exact ⟨s, 0, rfl, rfl, Lib.hid (HVS.out.trans (isM_false _ HM.out)), Lib.hid (Or.inl rfl), hs, rfl⟩
      · obtain ⟨a, b⟩ := isM_true _ HM.out
        have h0 : 0 < s.size := by rw [SZ.out]; exact a
        have HB := Lib.hid b
        clear a b
        go_wp2_with fail
        go_meet
        refine ⟨_, 9223372036854775808, rfl, rfl, Lib.hid ?_, Lib.hid (Or.inr rfl), ?_, rfl⟩
        · rw [Lib.extract_data, HVS.out, HB.out]
          rw [List.take_of_length_le (by rw [List.length_drop, SZ.out]; omega)]
        · rw [ByteArray.size_extract]; omega
    case rest => as_aux_lemma =>
      obtain ⟨t, b, rfl, rfl, HR, HB, ht, rfl⟩ := hcut
      have hb64 : b < 2 ^ 64 := by rcases HB.out with h | h <;> rw [h] <;> decide
      have hor : bits .or .u64 (b : Int) 9218868437227405312 = ((b ||| 9218868437227405312 : Nat) : Int) := u64_or_nat b 9218868437227405312 hb64 (by decide)
      have hor64 : (b ||| 9218868437227405312) < 2 ^ 64 := Nat.or_lt_two_pow hb64 (by decide)
      obtain ⟨B, hB⟩ : ∃ B, B = b ||| 9218868437227405312 := ⟨_, rfl⟩
      rw [← hB] at hor hor64
      have HBI := Lib.hid hB
      have HF1 := Lib.hid (fun w => rfrom_any b w hb64)
      have HF2 := Lib.hid (fun w => rfrom_any B w hor64)
      have HFN := Lib.hid rfrom_nan
      have H64 := Lib.hid hb64
      clear hB hb64 hor64
      by_cases n1 : t.data.toList = [110, 97, 110]
      · have q1 : (t.toList == [110, 97, 110]) = true := by rw [ba_eq, n1]; rfl
        obtain ⟨z, hz⟩ : ∃ z, ((b : Int) == 0) = z := ⟨_, rfl⟩
        have hV2 : V = cond z (okV QNAN) badV := by
          rw [HR.out, rpT_nan n1, ← hz]
          by_cases h : b = 0
          · rw [if_pos h]; subst h; rfl
          · rw [if_neg h, show ((b : Int) == 0) = false by rw [beq_eq_false_iff_ne]; omega]; rfl
        have HV := Lib.hid hV2
        clear n1 hV2 hor
        cases z
        all_goals
          go_wp2_with (go_at_call 16; refine (HFN.out _).mono ?_; rintro e w1 ⟨rfl, rfl⟩)
          go_ret2
          exact ⟨by rw [HV.out]; rfl, Below.refl _ _⟩
      · have q1 : (t.toList == [110, 97, 110]) = false := by rw [ba_eq]; exact decide_eq_false n1
        by_cases n2 : t.data.toList = [105, 110, 102]
        · have q2 : (t.toList == [105, 110, 102]) = true := by rw [ba_eq, n2]; rfl
          have HV := Lib.hid (HR.out.trans (rpT_inf n2))
          clear n1 n2
          go_wp2_with (go_at_call 16; refine (HF2.out _).mono ?_; rintro e w1 ⟨rfl, rfl⟩)
          go_ret2
          exact ⟨by rw [HV.out, ← HBI.out]; rfl, Below.refl _ _⟩
        · have q2 : (t.toList == [105, 110, 102]) = false := by rw [ba_eq]; exact decide_eq_false n2
          by_cases n3 : t.data.toList = [48]
          · have q3 : (t.toList == [48]) = true := by rw [ba_eq, n3]; rfl
            have HV := Lib.hid (HR.out.trans (rpT_zero n3))
            clear n1 n2 n3
            go_wp2_with (go_at_call 16; refine (HF1.out _).mono ?_; rintro e w1 ⟨rfl, rfl⟩)
            go_ret2
            exact ⟨by rw [HV.out]; rfl, Below.refl _ _⟩
          · have q3 : (t.toList == [48]) = false := by rw [ba_eq]; exact decide_eq_false n3
            clear hor
            have ST := Lib.hid (Lib.size_eq t)
            have N1 := Lib.hid n1
            have N2 := Lib.hid n2
            have N3 := Lib.hid n3
            clear n1 n2 n3
            go_upto_region 15 with fail
            go_cut [51] (fun c wx => c = .bool (badH t.data.toList) ∧ wx = wc)
            case first => as_aux_lemma =>
              by_cases h3 : t.size < 3
              · have hd3 : decide ((t.size : Int) < 3) = true := decide_eq_true (by omega)
                go_wp2_with fail
                go_meet
                refine ⟨congrArg Value.bool ?_, rfl⟩
                rcases ht0 : t.data.toList with _ | ⟨c, l1⟩
                · rfl
                · have : l1.length < 2 := by
                    have e := ST.out
                    rw [ht0, List.length_cons] at e; omega
                  simp [badH, this]
              · rcases ht0 : t.data.toList with _ | ⟨c, l1⟩
                · exfalso
                  have e := ST.out
                  rw [ht0, List.length_nil] at e; omega
                · obtain ⟨h0, hc, _⟩ := get_drop t 0 c l1 ht0
                  have e1 := bne_nat c 48 48 rfl
                  have e2 := bne_nat c 49 49 rfl
                  have HBH : badH t.data.toList = (c != 48 && c != 49) := by
                    have e := ST.out
                    rw [ht0, List.length_cons] at e
                    rw [ht0]
                    have : ¬ l1.length < 2 := by omega
                    simp [badH, this]
                  rw [← hc] at e1 e2
                  have HT := Lib.hid HBH
                  obtain ⟨x1, g1⟩ : ∃ x, ((t[0].toNat : Int) != 48) = x := ⟨_, rfl⟩
                  obtain ⟨x2, g2⟩ : ∃ x, ((t[0].toNat : Int) != 49) = x := ⟨_, rfl⟩
                  have E1 := Lib.hid (e1.symm.trans g1)
                  have E2 := Lib.hid (e2.symm.trans g2)
                  have HC := Lib.hid hc
                  clear e1 e2 ht0 hc HBH
                  have hd3 : decide ((t.size : Int) < 3) = false := decide_eq_false (by omega)
                  cases x1 <;> cases x2
                  all_goals
                    go_wp2_with fail
                    go_meet
                    refine ⟨congrArg Value.bool ?_, rfl⟩
                    rw [HT.out, ← HC.out, E1.out, E2.out]; rfl
            case rest => as_aux_lemma =>
              obtain ⟨rfl, rfl⟩ := hcut
              obtain ⟨bh, hbh⟩ : ∃ bh, badH t.data.toList = bh := ⟨_, rfl⟩
              rw [hbh]
              cases bh
              · obtain ⟨c, d, r, ht0, hr1, hv⟩ := rpT_num (b := b) (sl := s.data.toList) N1.out N2.out N3.out hbh
                have HV := Lib.hid (HR.out.trans hv)
                have hsz : 3 ≤ t.size := by rw [ST.out, ht0]; simp; omega
                obtain ⟨h0, hc, _⟩ := get_drop t 0 c (d :: r) ht0
                obtain ⟨h1, hd, _⟩ := get_drop t 1 d r (by rw [ht0]; rfl)
                obtain ⟨nb, hnb⟩ : ∃ nb, ((t[0].toNat : Int) == 49) = nb := ⟨_, rfl⟩
                have HNB := Lib.hid (show (c == 49) = nb by rw [← hnb, hc]; exact (beq_nat c 49 49 rfl).symm)
                obtain ⟨pt, hpt⟩ : ∃ pt, ((t[1].toNat : Int) == 46) = pt := ⟨_, rfl⟩
                have HPT := Lib.hid (show (d == 46) = pt by rw [← hpt, hd]; exact (beq_nat d 46 46 rfl).symm)
                have HT := Lib.hid ht0
                have hd1 : t.data.toList.drop 1 = d :: r := by rw [ht0]; rfl
                have HD1 := Lib.hid hd1
                clear hbh hc hd ht0 hv hd1
                go_upto_if 58 with fail
                go_cut [7, 8] (fun s7 s8 wx => ∃ (i f : Nat), s7 = .int .i64 (i : Int) ∧ s8 = .int .u64 (f : Int) ∧ Hid (FracIs t i f) ∧ wx = wc)
                case first => as_aux_lemma =>
                  cases pt
                  · go_wp2_with fail
                    go_meet
                    refine ⟨1, 0, rfl, rfl, Lib.hid ⟨?_, by omega, by omega, by decide⟩, rfl⟩
                    rw [HD1.out]; unfold fr; dsimp only
                    rw [if_neg (by simpa using HPT.out)]
                  · have HFR := Lib.hid (show fr (t.data.toList.drop 1) = fracL 13 0 (t.data.toList.drop 2) by
                      rw [HD1.out, HT.out]; unfold fr; dsimp only
                      rw [if_pos (by simpa using HPT.out)]; rfl)
                    go_wp2_with fail
                    go_loop [7, 8, 9] (fun s7 s8 s9 => ∃ (i f j : Nat) (k : Int), s7 = .int .i64 (i : Int) ∧ s8 = .int .u64 (f : Int) ∧ s9 = .int .i64 k ∧ i ≤ t.size ∧ 2 ≤ i ∧ k ≤ 48 ∧ -4 ≤ k ∧ Hid (k = 4 * (j : Int) - 4) ∧ Hid (f < 2 ^ 52) ∧ Hid (fracL 13 0 (t.data.toList.drop 2) = fracL j f (t.data.toList.drop i))) (fun _ _ k => (intOf k + 4).toNat)
                    case atStart => exact ⟨2, 0, 13, 48, rfl, rfl, rfl, by omega, by omega, by omega, by omega, Lib.hid (by omega), Lib.hid (by decide), Lib.hid rfl⟩
                    case round =>
                      obtain ⟨i, f, j, k, rfl, rfl, rfl, hi, hi2, hk1, hk2, HK, HF, HL⟩ := hrel
                      obtain ⟨ct, hct⟩ : ∃ ct, contF (t.data.toList.drop i) j = ct := ⟨_, rfl⟩
                      have HCT := Lib.hid hct
                      clear hct
                      go_upto_region 23 with fail
                      go_cut [75] (fun c wx => c = .bool ct ∧ wx = wc)
                      case first => as_aux_lemma =>
                        rcases hdi : t.data.toList.drop i with _ | ⟨c, r⟩
                        · have hge : t.size ≤ i := by rw [ST.out]; exact List.drop_eq_nil_iff.1 hdi
                          have HX := Lib.hid (show contF [] j = ct by rw [← hdi]; exact HCT.out)
                          clear hdi
                          go_wp2_with fail
                          go_meet
                          exact ⟨by rw [← HX.out]; rfl, rfl⟩
                        · obtain ⟨hlt, hc, _⟩ := get_drop t i c r hdi
                          obtain ⟨h, hh⟩ : ∃ h, hexOfI t[i] = h := ⟨_, rfl⟩
                          have HX := Lib.hid (fun w => hexOf_any t[i] w)
                          rw [hh] at HX
                          have hb := hexOf_lt t[i]
                          rw [hh] at hb
                          obtain ⟨hb1, hb2⟩ := hb
                          have HC2 := Lib.hid (show contF (c :: r) j = ct by rw [← hdi]; exact HCT.out)
                          have HHC := Lib.hid (show hexOfI c = h by rw [← hc]; exact hh)
                          have HK2 := Lib.hid (show decide (0 ≤ k) = decide (0 < j) by have := HK.out; by_cases e : 0 < j <;> simp [e] <;> omega)
                          obtain ⟨x1, g1⟩ : ∃ x, decide (0 ≤ h) = x := ⟨_, rfl⟩
                          obtain ⟨x2, g2⟩ : ∃ x, decide (0 ≤ k) = x := ⟨_, rfl⟩
                          have G1 := Lib.hid g1
                          have G2 := Lib.hid g2
                          clear hdi hh hc
                          cases x1 <;> cases x2
                          all_goals
                            go_wp2_with (go_at_call 24; refine (HX.out _).mono ?_; rintro e w1 ⟨rfl, rfl⟩)
                            go_meet
                            refine ⟨congrArg Value.bool ?_, rfl⟩
                            rw [← HC2.out]; unfold contF; dsimp only
                            rw [HHC.out, ← HK2.out, G1.out, G2.out]; rfl
                      case rest => as_aux_lemma =>
                        obtain ⟨rfl, rfl⟩ := hcut
                        cases ct
                        · have HXF := Lib.hid (contF_false (f := f) HCT.out)
                          go_wp2_with fail
                          go_meet
                          exact ⟨i, f, rfl, rfl, Lib.hid ⟨by rw [HFR.out, HL.out, HXF.out], hi, by omega, HF.out⟩, rfl⟩
                        · obtain ⟨c, r, m, hdi, hj, hh, hfr⟩ := contF_true (f := f) HCT.out
                          obtain ⟨hlt, hc, hr⟩ := get_drop t i c r hdi
                          have hb := (hexOf_lt c).1
                          obtain ⟨d, hd⟩ : ∃ d : Nat, hexOfI c = (d : Int) := ⟨(hexOfI c).toNat, by omega⟩
                          have HX := Lib.hid (fun w => hexOf_any t[i] w)
                          rw [hc, hd] at HX
                          rw [← hc] at HX
                          have hd16 : d < 16 := by omega
                          have hk0 : 0 ≤ k := by have := HK.out; omega
                          have hm : m ≤ 12 := by have := HK.out; omega
                          have HKM := Lib.hid (show k = 4 * (m : Int) by have := HK.out; omega)
                          rw [hd, Int.toNat_natCast] at hfr
                          have HFR2 := Lib.hid hfr
                          have HDI := Lib.hid hr
                          obtain ⟨o1, o2⟩ := or_step HF.out hd16 hm HKM.out
                          have HO1 := Lib.hid o1
                          have HO2 := Lib.hid o2
                          clear hdi hj hh hfr hr hc hd o1 o2 hb hm
                          go_wp2_with (go_at_call 24; refine (HX.out _).mono ?_; rintro e w1 ⟨rfl, rfl⟩)
                          go_round
                          case rel => exact ⟨i + 1, f ||| d * 16 ^ m, m, k - 4, by go_num, by rw [HO1.out], rfl, by omega, by omega, by omega, by omega, Lib.hid (by have := HKM.out; omega), HO2, Lib.hid (by rw [HL.out, HFR2.out, HDI.out])⟩
                          case measure => simp [intOf]; omega
                case rest => as_aux_lemma =>
                  obtain ⟨i, f, rfl, rfl, HFI, rfl⟩ := hcut
                  obtain ⟨fi1, fi2, fi3, fi4⟩ := HFI.out
                  have HV2 := Lib.hid (show V = rpP b s.data.toList nb f (t.data.toList.drop i) by
                    have e := HV.out
                    rw [← HD1.out, fi1, HNB.out] at e; exact e)
                  have HF52 := Lib.hid fi4
                  clear HFI fi1 fi3 fi4 HV
                  rcases hdi : t.data.toList.drop i with _ | ⟨p, l3⟩
                  · have hge : t.size ≤ i := by rw [ST.out]; exact List.drop_eq_nil_iff.1 hdi
                    have HV3 := Lib.hid (show V = badV by rw [HV2.out, hdi]; rfl)
                    clear hdi
                    go_wp2_with fail
                    go_ret2
                    exact ⟨by rw [HV3.out]; rfl, Below.refl _ _⟩
                  · obtain ⟨hlt, hp, hr⟩ := get_drop t i p l3 hdi
                    obtain ⟨x, hx⟩ : ∃ x, ((t[i].toNat : Int) != 112) = x := ⟨_, rfl⟩
                    have hpx : (p != 112) = x := by rw [← hx, hp]; exact (bne_nat p 112 112 rfl).symm
                    cases x
                    case true =>
                      have HV3 := Lib.hid (show V = badV by rw [HV2.out, hdi]; exact rpP_no _ _ _ _ _ _ (by simpa using hpx))
                      clear hdi hp hr hpx
                      go_wp2_with fail
                      go_ret2
                      exact ⟨by rw [HV3.out]; rfl, Below.refl _ _⟩
                    case false =>
                      have HV3 := Lib.hid (show V = rpE b s.data.toList nb f (isM l3) (if isM l3 = true then l3.drop 1 else l3) by
                        rw [HV2.out, hdi, show p = 112 by simpa using hpx]; exact rpP_p _ _ _ _ _)
                      have HR3 := Lib.hid hr
                      clear hdi hp hr hpx HV2
                      go_upto_region 29 with fail
                      go_cut [7] (fun s7 wx => ∃ i1 : Nat, s7 = .int .i64 (i1 : Int) ∧ i1 ≤ t.size ∧ Hid (t.data.toList.drop i1 = l3) ∧ wx = wc)
                      case first => as_aux_lemma =>
                        go_wp2_with fail
                        go_meet
                        exact ⟨i + 1, by go_num, by omega, HR3, rfl⟩
                      case rest => as_aux_lemma =>
                        obtain ⟨i1, rfl, hi1, HL3, rfl⟩ := hcut
                        obtain ⟨ng, hng⟩ : ∃ ng, isM l3 = ng := ⟨_, rfl⟩
                        have HNG := Lib.hid hng
                        clear hng
                        go_upto_region 30 with fail
                        go_cut [10] (fun c wx => c = .bool ng ∧ wx = wc)
                        case first => as_aux_lemma =>
                          rcases hl3 : l3 with _ | ⟨c, r⟩
                          · have hge : t.size ≤ i1 := by rw [ST.out]; exact List.drop_eq_nil_iff.1 (HL3.out.trans hl3)
                            have HG := Lib.hid (show isM [] = ng by rw [← hl3]; exact HNG.out)
                            clear hl3
                            go_wp2_with fail
                            go_meet
                            exact ⟨by rw [← HG.out]; rfl, rfl⟩
                          · obtain ⟨hlt, hc, _⟩ := get_drop t i1 c r (HL3.out.trans hl3)
                            have HG := Lib.hid (show isM (c :: r) = ng by rw [← hl3]; exact HNG.out)
                            have HC := Lib.hid hc
                            clear hl3 hc
                            go_wp2_with fail
                            go_meet
                            exact ⟨by rw [HC.out, ← HG.out]; exact congrArg Value.bool (beq_nat c 45 45 rfl), rfl⟩
                        case rest => as_aux_lemma =>
                          obtain ⟨rfl, rfl⟩ := hcut
                          obtain ⟨l4, hl4⟩ : ∃ l4, l4 = (if ng = true then l3.drop 1 else l3) := ⟨_, rfl⟩
                          have HV4 := Lib.hid (show V = rpE b s.data.toList nb f ng l4 by rw [HV3.out, HNG.out, hl4])
                          have HL4 := Lib.hid hl4
                          clear hl4 HV3
                          go_upto_if 111 with fail
                          go_cut [7] (fun s7 wx => ∃ i2 : Nat, s7 = .int .i64 (i2 : Int) ∧ i2 ≤ t.size ∧ Hid (t.data.toList.drop i2 = l4) ∧ wx = wc)
                          case first => as_aux_lemma =>
                            cases ng
                            · go_wp2_with fail
                              go_meet
                              exact ⟨i1, rfl, hi1, Lib.hid (by rw [HL3.out, HL4.out]; rfl), rfl⟩
                            · have hlt1 : i1 < t.size := by
                                rcases hl3 : l3 with _ | ⟨c, r⟩
                                · have := HNG.out; rw [hl3] at this; cases this
                                · exact (get_drop t i1 c r (HL3.out.trans hl3)).1
                              go_wp2_with fail
                              go_meet
                              exact ⟨i1 + 1, by go_num, by omega, Lib.hid (by rw [HL4.out, if_pos trivial, ← HL3.out, List.drop_drop]), rfl⟩
                          case rest => as_aux_lemma =>
                            obtain ⟨i2, rfl, hi2, HL5, rfl⟩ := hcut
                            go_wp2_with fail
                            go_loop [7, 11] (fun s7 s11 => ∃ (i e : Nat), s7 = .int .i64 (i : Int) ∧ s11 = .int .i64 (e : Int) ∧ i ≤ t.size ∧ e < 100000 ∧ Hid (expL 0 l4 = expL e (t.data.toList.drop i))) (fun s7 _ => t.size - (intOf s7).toNat)
                            case atStart => exact ⟨i2, 0, rfl, rfl, hi2, by omega, Lib.hid (by rw [HL5.out])⟩
                            case round =>
                              obtain ⟨i3, e, rfl, rfl, hi3, he, HE⟩ := hrel
                              obtain ⟨ct, hct⟩ : ∃ ct, contE (t.data.toList.drop i3) e = ct := ⟨_, rfl⟩
                              have HCT := Lib.hid hct
                              clear hct
                              go_upto_region 34 with fail
                              go_cut [133] (fun c wx => c = .bool ct ∧ wx = wc)
                              case first => as_aux_lemma =>
                                rcases hdi : t.data.toList.drop i3 with _ | ⟨c, r⟩
                                · have hge : t.size ≤ i3 := by rw [ST.out]; exact List.drop_eq_nil_iff.1 hdi
                                  have HX := Lib.hid (show contE [] e = ct by rw [← hdi]; exact HCT.out)
                                  clear hdi
                                  go_wp2_with fail
                                  go_meet
                                  exact ⟨by rw [← HX.out]; rfl, rfl⟩
                                · obtain ⟨hlt3, hc, _⟩ := get_drop t i3 c r hdi
                                  have HC2 := Lib.hid (show contE (c :: r) e = ct by rw [← hdi]; exact HCT.out)
                                  obtain ⟨x1, g1⟩ : ∃ x, decide (48 ≤ (t[i3].toNat : Int)) = x := ⟨_, rfl⟩
                                  obtain ⟨x2, g2⟩ : ∃ x, decide ((t[i3].toNat : Int) ≤ 57) = x := ⟨_, rfl⟩
                                  obtain ⟨x3, g3⟩ : ∃ x, decide ((e : Int) < 10000) = x := ⟨_, rfl⟩
                                  have G1 := Lib.hid (show decide (48 ≤ c.toNat) = x1 by rw [← g1, hc]; by_cases h : 48 ≤ c.toNat <;> simp [h] <;> omega)
                                  have G2 := Lib.hid (show decide (c.toNat ≤ 57) = x2 by rw [← g2, hc]; by_cases h : c.toNat ≤ 57 <;> simp [h] <;> omega)
                                  have G3 := Lib.hid (show decide (e < 10000) = x3 by rw [← g3]; by_cases h : e < 10000 <;> simp [h] <;> omega)
                                  clear hdi hc
                                  cases x1 <;> cases x2 <;> cases x3
                                  all_goals
                                    go_wp2_with fail
                                    go_meet
                                    refine ⟨congrArg Value.bool ?_, rfl⟩
                                    rw [← HC2.out]; unfold contE; dsimp only
                                    rw [G1.out, G2.out, G3.out]; rfl
                              case rest => as_aux_lemma =>
                                obtain ⟨rfl, rfl⟩ := hcut
                                cases ct
                                case true =>
                                  obtain ⟨c, r, hdi, c1, c2, c3, hE2⟩ := contE_true HCT.out
                                  obtain ⟨hlt3, hc, hr⟩ := get_drop t i3 c r hdi
                                  have HC := Lib.hid hc
                                  have HR3 := Lib.hid hr
                                  have HE2 := Lib.hid hE2
                                  have d1 : 48 ≤ t[i3].toNat := by rw [hc]; exact c1
                                  have d2 : t[i3].toNat ≤ 57 := by rw [hc]; exact c2
                                  clear hdi hE2 hc hr c1 c2
                                  go_wp2_with fail
                                  go_round
                                  case rel => exact ⟨i3 + 1, 10 * e + (t[i3].toNat - 48), by go_num, by go_num, by omega, by omega, Lib.hid (by rw [HE.out, HE2.out, HR3.out, HC.out])⟩
                                  case measure => simp [intOf]; omega
                                case false =>
                                  have HEX := Lib.hid (show (expL 0 l4).1 = e by rw [HE.out, contE_false HCT.out])
                                  go_upto_if 144 with fail
                                  go_cut [11] (fun s11 wx => ∃ E : Int, s11 = .int .i64 E ∧ -100000 < E ∧ E < 100000 ∧ Hid (E = (if ng = true then -(e : Int) else (e : Int))) ∧ wx = wc)
                                  case first => as_aux_lemma =>
                                    cases ng
                                    · go_wp2_with fail
                                      go_meet
                                      exact ⟨e, rfl, by omega, by omega, Lib.hid rfl, rfl⟩
                                    · go_wp2_with fail
                                      go_meet
                                      exact ⟨-e, rfl, by omega, by omega, Lib.hid rfl, rfl⟩
                                  case rest => as_aux_lemma =>
                                    obtain ⟨E, rfl, hE1, hE2, HEE, rfl⟩ := hcut
                                    have HV5 := Lib.hid (show V = if E < -1022 ∨ 1023 < E then badV else if textF (bitsF ((b ||| (if nb = true then (E + 1023).toNat * 2 ^ 52 else 0)) ||| f)) = s.data.toList then okV (bitsF ((b ||| (if nb = true then (E + 1023).toNat * 2 ^ 52 else 0)) ||| f)) else badV by
                                      rw [HV4.out, HEE.out, ← HEX.out]; rfl)
                                    clear HV4
                                    obtain ⟨x1, g1⟩ : ∃ x, decide (E < -1022) = x := ⟨_, rfl⟩
                                    obtain ⟨x2, g2⟩ : ∃ x, decide (1023 < E) = x := ⟨_, rfl⟩
                                    have G1 := Lib.hid g1
                                    have G2 := Lib.hid g2
                                    cases x1 <;> cases x2
                                    case false.false => as_aux_lemma =>
                                      have hEl : -1022 ≤ E := by have := of_decide_eq_false G1.out; omega
                                      have hEh : E ≤ 1023 := by have := of_decide_eq_false G2.out; omega
                                      have HV6 := Lib.hid (HV5.out.trans (if_neg (by omega)))
                                      clear HV5
                                      go_upto_if 153 with fail
                                      go_cut [5] (fun s5 wx => ∃ b1 : Nat, s5 = .int .u64 (b1 : Int) ∧ Hid (b1 = b ||| (if nb = true then (E + 1023).toNat * 2 ^ 52 else 0)) ∧ Hid (b1 < 2 ^ 64) ∧ wx = wc)
                                      case first => as_aux_lemma =>
                                        cases nb
                                        · go_wp2_with fail
                                          go_meet
                                          exact ⟨b, rfl, Lib.hid (by simp), H64, rfl⟩
                                        · go_wp2_with fail
                                          go_meet
                                          refine ⟨b ||| (E + 1023).toNat * 2 ^ 52, ?_, Lib.hid (by simp), Lib.hid (Nat.or_lt_two_pow H64.out (by omega)), rfl⟩
                                          rw [show (E + 1023) * 4503599627370496 = (((E + 1023).toNat * 2 ^ 52 : Nat) : Int) by omega, u64_or_nat _ _ H64.out (by omega)]
                                      case rest => as_aux_lemma =>
                                        obtain ⟨b1, rfl, HB1, HB64, rfl⟩ := hcut
                                        have hor2 := u64_or_nat b1 f HB64.out (by have := HF52.out; omega)
                                        have hX64 : (b1 ||| f) < 2 ^ 64 := Nat.or_lt_two_pow HB64.out (by have := HF52.out; omega)
                                        obtain ⟨X, hX⟩ : ∃ X, X = b1 ||| f := ⟨_, rfl⟩
                                        rw [← hX] at hor2 hX64
                                        have HXF := Lib.hid (fun w => rfrom_any X w hX64)
                                        have HXT := Lib.hid (fun w => rtext_any (bitsF X) (bitsF_lt hX64) w)
                                        have HV7 := Lib.hid (show V = if textF (bitsF X) = s.data.toList then okV (bitsF X) else badV by rw [HV6.out, ← HB1.out, ← hX])
                                        generalize bitsF X = xx at HXF HXT HV7
                                        have HBE := Lib.hid (ba_eq s (textF xx))
                                        generalize textF xx = tx at HXT HV7 HBE
                                        obtain ⟨ev, hev⟩ : ∃ ev, decide (s.data.toList = tx) = ev := ⟨_, rfl⟩
                                        have hq1 : (tx == s.toList) = ev := by rw [← hev, ← HBE.out, BEq.comm]
                                        have hq2 : (tx != s.toList) = !ev := by rw [bne, hq1]
                                        have HEV := Lib.hid hev
                                        clear hX hX64 hev HV6
                                        cases ev
                                        · go_wp2_with (first
                                            | (go_at_call 16; refine (HXF.out _).mono ?_; rintro e w1 ⟨rfl, rfl⟩)
                                            | (go_at_call 15; refine (HXT.out _).mono ?_; rintro e w1 ⟨rfl, b1⟩))
                                          go_ret2
                                          exact ⟨by rw [HV7.out, if_neg (fun h => of_decide_eq_false HEV.out h.symm)]; rfl, b1⟩
                                        · go_wp2_with (first
                                            | (go_at_call 16; refine (HXF.out _).mono ?_; rintro e w1 ⟨rfl, rfl⟩)
                                            | (go_at_call 15; refine (HXT.out _).mono ?_; rintro e w1 ⟨rfl, b1⟩))
                                          go_ret2
                                          exact ⟨by rw [HV7.out, if_pos (of_decide_eq_true HEV.out).symm]; rfl, b1⟩
                                    all_goals
                                      have HV6 := Lib.hid (show V = badV by
                                        rw [HV5.out, if_pos]
                                        first
                                          | exact Or.inl (of_decide_eq_true G1.out)
                                          | exact Or.inr (of_decide_eq_true G2.out))
                                      go_wp2_with fail
                                      go_ret2
                                      exact ⟨by rw [HV6.out]; rfl, Below.refl _ _⟩
              · have HV := Lib.hid (HR.out.trans (rpT_bad N1.out N2.out N3.out hbh))
                clear hbh
                go_wp2_with fail
                go_ret2
                exact ⟨by rw [HV.out]; rfl, Below.refl _ _⟩
/-- Whatever the text, the reference's Parse answers. -/
theorem rparse_any (s : ByteArray) (hs : s.size ≤ 500) (w : World) :
    Calls Tryd.prog 13 #[.string s] w fun e w' => e = .returned (rpS s.data.toList) ∧ Below w.heap.size w w' := rparse_val s hs _ rfl w
end Go.Proofs.YtjepjheklnaidaaDoor
