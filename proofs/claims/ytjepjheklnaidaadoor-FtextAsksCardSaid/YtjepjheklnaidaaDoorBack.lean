/-
  FtextBack: the walk of the law: it returns true at every two words, in a world where the start-up code's tables lie.
-/
import Derived.Test.YtjepjheklnaidaaDoorAwake
namespace Go.Proofs.YtjepjheklnaidaaDoor
open Go Go.RowKit F64
set_option maxRecDepth 100000

theorem textAbs_len (m : Nat) (hm : m ≤ INF) : (textAbs m).length ≤ 90 := by
  have hI := INF_val
  by_cases h1 : m / 2 ^ 52 = 2047
  · unfold textAbs; rw [if_pos h1]; decide
  · by_cases h0 : m = 0
    · rw [h0, textAbs_zero]; decide
    · rw [textAbs_num h0 h1]
      have a := hexT_len (m % 2 ^ 52)
      have b := itoa_len (expI (m / 2 ^ 52)) (by unfold expI; split <;> omega) (by unfold expI; split <;> omega)
      have c : (headL (m / 2 ^ 52) (m % 2 ^ 52)).length ≤ 15 := by
        unfold headL
        rw [List.length_append]
        have h1 : (if m / 2 ^ 52 = 0 then [48] else [49] : List UInt8).length = 1 := by split <;> rfl
        have h2 : (if m % 2 ^ 52 = 0 then [] else 46 :: hexT (m % 2 ^ 52) : List UInt8).length ≤ 14 := by
          split
          · simp
          · simp; omega
        omega
      rw [List.length_append, List.length_cons]; omega
theorem textF_num {x : Nat} (hn : isNaN x = false) : textF x = (if sgn x = true then [45] else []) ++ textAbs (rg x) := by unfold textF; rw [hn]; rfl
theorem textF_nan {x : Nat} (hn : isNaN x = true) : textF x = [110, 97, 110] := by unfold textF; rw [hn]; rfl
theorem textF_len (x : Nat) : (textF x).length ≤ 100 := by
  cases hn : isNaN x
  · rw [textF_num hn]
    have := textAbs_len (rg x) (isNaN_false.1 hn)
    rw [List.length_append]
    have : (if sgn x = true then [45] else [] : List UInt8).length ≤ 1 := by split <;> simp
    omega
  · rw [textF_nan hn]; decide
theorem textAbs_inj {m n : Nat} (hm : m ≤ INF) (hn : n ≤ INF) (h : textAbs m = textAbs n) : m = n := by
  have sz : ∀ l : List UInt8, (⟨l.toArray⟩ : ByteArray).size = l.length := fun l => by rw [Lib.size_eq]
  obtain ⟨b, ok, _, _, _, h4⟩ := read_any ⟨(textAbs m).toArray⟩ (by rw [sz]; have := textAbs_len m hm; omega)
  rw [← (h4 m hm rfl).1, ← (h4 n hn h).1]
/-- How the text of a number that is none begins. -/
theorem textF_head {x : Nat} (hn : isNaN x = false) : ∃ c r, textF x = c :: r ∧ (c = 45 ↔ sgn x = true) ∧ c ≠ 110 := by
  rw [textF_num hn]
  obtain ⟨c, r, e, hc⟩ := textAbs_head (rg x)
  rw [e]
  cases sgn x
  · refine ⟨c, r, rfl, ?_, ?_⟩
    · rcases hc with rfl | rfl | rfl <;> decide
    · rcases hc with rfl | rfl | rfl <;> decide
  · exact ⟨45, c :: r, rfl, by decide, by decide⟩
theorem textF_inj {x y : Nat} (hx : Norm x) (hy : Norm y) (h : textF x = textF y) : x = y := by
  cases nx : isNaN x <;> cases ny : isNaN y
  · obtain ⟨c, r, e, h1, _⟩ := textF_head nx
    obtain ⟨c', r', e', h1', _⟩ := textF_head ny
    have hs : sgn x = sgn y := by
      rw [e, e'] at h
      injection h with g _
      subst g
      have := h1.symm.trans h1'
      cases a : sgn x <;> cases b : sgn y <;> simp_all
    rw [textF_num nx, textF_num ny, hs] at h
    have hr := textAbs_inj (isNaN_false.1 nx) (isNaN_false.1 ny) (List.append_cancel_left h)
    rw [word_sgn hx.lt, word_sgn hy.lt, hr, hs]
  · obtain ⟨c, r, e, _, h1⟩ := textF_head nx
    rw [e, textF_nan ny] at h
    injection h with g _; exact absurd g h1
  · obtain ⟨c, r, e, _, h1⟩ := textF_head ny
    rw [e, textF_nan nx] at h
    injection h with g _; exact absurd g.symm h1
  · rw [norm_nan hx nx, norm_nan hy ny]
theorem same_text {x y : Nat} (hx : Norm x) (hy : Norm y) : (textF x == textF y) = sameB x y := by
  cases h : sameB x y
  · rw [beq_eq_false_iff_ne]
    intro e
    have := textF_inj hx hy e
    rw [this] at h
    rw [sameB_true.2 rfl] at h; cases h
  · have := sameB_true.1 h
    rw [hx.nrm, hy.nrm] at this
    rw [this]; simp

set_option maxHeartbeats 1000000 in
theorem back_walk (v u : Nat) (hv : v < 2 ^ 64) (hu : u < 2 ^ 64) (w : World) (E : Env w) :
    Calls Tryd.prog 5 #[.int .u64 (v : Int), .int .u64 (u : Int)] w fun e w' => e = .returned (.bool true) ∧ Below w.heap.size w w' := by
  have f1 := fun w => rfrom_any v w hv
  have f2 := fun w => rfrom_any u w hu
  have hx := norm_bits hv
  have hy := norm_bits hu
  generalize bitsF v = x at *
  generalize bitsF u = y at *
  have sz : ∀ l : List UInt8, (⟨l.toArray⟩ : ByteArray).size = l.length := fun l => by rw [Lib.size_eq]
  have t1 := Lib.hid (fun w E => text_any x hx.lt w E)
  have t2 := Lib.hid (fun w E => text_any y hy.lt w E)
  have p1 := Lib.hid (fun w E => parse_hit ⟨(textF x).toArray⟩ x hx rfl (by rw [sz]; have := textF_len x; omega) w E)
  have hst := same_text hx hy
  have hss : sameB x x = true := sameB_true.2 rfl
  have hd : ∀ b : Bool, (b == b) = true := by decide
  clear hv hu hx hy sz
  generalize textF x = tx at *
  generalize textF y = ty at *
  go_enter Tryd.func5, Tryd.ntmps5
  go_wp2_with (go_at_call 16; refine (f1 _).mono ?_)
  rintro e w1 ⟨rfl, rfl⟩
  go_wp2_with (go_at_call 16; refine (f2 _).mono ?_)
  rintro e w1 ⟨rfl, rfl⟩
  go_wp2_with (go_at_call 14; refine (t1.out _ E).mono ?_)
  rintro e w1 ⟨rfl, b1⟩
  go_wp2_with (go_at_call 12; refine (p1.out _ (E.below b1)).mono ?_)
  rintro e w2 ⟨rfl, b2⟩
  have E2 := (E.below b1).below b2
  go_wp2_with (first
    | (go_at_call 11; refine (rsame_any _ _ _).mono ?_; rintro e w3 ⟨rfl, rfl⟩)
    | (go_at_call 14; refine (t1.out _ E2).mono ?_))
  rintro e w3 ⟨rfl, b3⟩
  go_wp2_with (go_at_call 14; refine (t2.out _ (E2.below b3)).mono ?_)
  rintro e w4 ⟨rfl, b4⟩
  have E4 := (E2.below b3).below b4
  go_wp2_with (first
    | (go_at_call 11; refine (rsame_any _ _ _).mono ?_; rintro e w3 ⟨rfl, rfl⟩)
    | (go_at_call 8; refine (awake_any _ E4).mono ?_; rintro e w5 ⟨rfl, b5⟩))
  go_ret
  exact ⟨rfl, below_trans (below_trans (below_trans (below_trans b1 b2) b3) b4) b5⟩

theorem u64_open {v : Int} (h : (Lit.int .u64 v).wf = true) : ∃ n : Nat, v = n ∧ n < 2 ^ 64 := by
  have : 0 ≤ v ∧ v ≤ 18446744073709551615 := by simpa [Lit.wf, IntKind.min, IntKind.max, IntKind.signed, IntKind.bits] using h
  exact ⟨v.toNat, by omega, by omega⟩
theorem back_all (v u : Int) (w : World) (E : Env w) (hv : (Lit.int .u64 v).wf = true) (hu : (Lit.int .u64 u).wf = true) :
    Calls Tryd.prog 5 #[.int .u64 v, .int .u64 u] w fun e w' => e = .returned (.bool true) ∧ Below w.heap.size w w' := by
  obtain ⟨n, rfl, hn⟩ := u64_open hv
  obtain ⟨m, rfl, hm⟩ := u64_open hu
  exact back_walk n m hn hm w E
end Go.Proofs.YtjepjheklnaidaaDoor
