/-
  The walk of the law ScriptBack.
-/
import Derived.Test.YtjjpnmeldgnfeaaDoorAp
import Derived.Test.YtjjpnmeldgnfeaaDoorBp
namespace Go.Proofs.YtjjpnmeldgnfeaaDoor
open Go Go.RowKit Go.Proofs.YtjjpnmeldgnfeaaDoor.PScriptTexts Go.Proofs.YtjjpnmeldgnfeaaDoorW.PrintWords
set_option maxRecDepth 100000

/-- An op's block. -/
abbrev Ob (W : World) (b : Nat) (k h lba len : Int) (v : Value) : Prop := W.heap[b]? = some (.cells #[.int .i64 k, .int .i64 h, .int .i64 lba, .int .i64 len, v] 24 (0, 0))
/-- The law's two ops: the one that came in (in its box), and the one that is made of it. -/
structure TwoOps (w W : World) (B : Nat) (k h lba len : Int) (v : Value) (hx lx nx : Int) (vx : Value) : Prop where
  o : Ob W w.heap.size k h lba len v
  x : Ob W B k hx lx nx vx
  bel : Below w.heap.size w W
  hB : w.heap.size < B
theorem TwoOps.set {w W : World} {B : Nat} {k h lba len : Int} {v : Value} {hx lx nx : Int} {vx : Value} (p : TwoOps w W B k h lba len v hx lx nx vx) (i : Nat) (u : Value) {hx' lx' nx' : Int} {vx' : Value}
    (e : (#[Value.int .i64 k, .int .i64 hx, .int .i64 lx, .int .i64 nx, vx] : Array Value).setIfInBounds i u = #[.int .i64 k, .int .i64 hx', .int .i64 lx', .int .i64 nx', vx']) : TwoOps w (W.setCell ⟨B, i, none⟩ u) B k h lba len v hx' lx' nx' vx' := by
  have hb := p.hB
  exact ⟨blk_far p.o (by dsimp only; omega) u, by have := blk_set p.x i u; rw [e] at this; exact this, p.bel.setCell (by dsimp only; omega) _, hb⟩
theorem TwoOps.below {w W W' : World} {B : Nat} {k h lba len : Int} {v : Value} {hx lx nx : Int} {vx : Value} (p : TwoOps w W B k h lba len v hx lx nx vx) (b : Below W.heap.size W W') : TwoOps w W' B k h lba len v hx lx nx vx :=
  ⟨(b.block _ (blk_lt p.o)).trans p.o, (b.block _ (blk_lt p.x)).trans p.x, below_trans p.bel b, p.hB⟩
theorem alike_self (A0 A1 : Option Addr) (c0 c1 : Nat) (a : List Int) (w : World) (h0 : (Kd.int .u8).C w A0 a.length a) (h1 : (Kd.int .u8).C w A1 a.length a) (hl : a.length ≤ 140737488351232) :
    Calls Tryd.prog 20 #[.slice A0 a.length c0, .slice A1 a.length c1] w fun e w' => e = .returned (.bool true) ∧ Below w.heap.size w w' :=
  (alike_any A0 A1 c0 c1 a a w h0 h1 hl).mono fun _ _ h => ⟨by rw [h.1, decide_eq_true rfl], h.2⟩
theorem take_near (l : List S42) (i : Nat) (hi : i < l.length) : (∀ p ∈ l.take (i + 1), In40 p.f0) ↔ ((∀ p ∈ l.take i, In40 p.f0) ∧ In40 l[i].f0) := by
  rw [List.take_succ_eq_append_getElem hi]
  constructor
  · exact fun h => ⟨fun p hp => h p (List.mem_append_left _ hp), h _ (List.mem_append_right _ (List.mem_singleton.2 rfl))⟩
  · rintro ⟨h1, h2⟩ p hp
    rcases List.mem_append.1 hp with hp | hp
    · exact h1 p hp
    · rw [List.mem_singleton.1 hp]; exact h2
set_option maxHeartbeats 16000000 in
theorem back_all (k h lba len : Int) (A : Option Addr) (l : List S42) (c : Nat) (A1 : Option Addr) (b : List Int) (c1 : Nat) (w : World) (E : Env w) (_ : I64 k) (ih : I64 h) (il : I64 lba) (in_ : I64 len) (hC : Kd.C k42 w A l.length l) (hc : l.length ≤ c) (hok : PutsOk l) (hl : l.length ≤ 140737488351232) (h1 : RowB w A1 b c1) (m1 : InB b) :
    Calls Tryd.prog 5 #[.agg #[.int .i64 k, .int .i64 h, .int .i64 lba, .int .i64 len, .slice A l.length c], .slice A1 b.length c1] w fun e w' => e = .returned (.bool true) ∧ Below w.heap.size w w' := by
  have b0 : Below w.heap.size w (w.alloc (.cells #[.int .i64 k, .int .i64 h, .int .i64 lba, .int .i64 len, .slice A l.length c] 24)) := (Below.refl _ _).alloc (Nat.le_refl _) _
  have B0 := Lib.hid b0
  have O0 : Hid (Ob (w.alloc (.cells #[.int .i64 k, .int .i64 h, .int .i64 lba, .int .i64 len, .slice A l.length c] 24)) w.heap.size k h lba len (.slice A l.length c)) := Lib.hid (heap_alloc_new w _)
  obtain ⟨r, hr, hcall⟩ := puts_any A c l _ (Kd.C_below hC b0) hc hl
  have HC := Lib.hid hcall
  have R1 := Lib.hid h1
  have M1 := Lib.hid m1
  clear hcall b0 h1 m1
  by_cases g1 : r > 3000
  · go_enter Tryd.func5, Tryd.ntmps5
    go_wp2_with (first
      | (go_at_call 9; refine HC.out.mono ?_; rintro e w2 ⟨rfl, b2⟩; have B2 := Lib.hid (below_trans B0.out b2); clear b2)
      | (go_at_call 10; refine (awake_any _ (E.below B2.out)).mono ?_; rintro e w3 ⟨rfl, b3⟩; have B3 := Lib.hid (below_trans B2.out b3); clear b3))
    go_ret
    exact ⟨rfl, B3.out⟩
  · by_cases g2 : (b.length : Int) > 40
    · go_enter Tryd.func5, Tryd.ntmps5
      go_wp2_with (first
        | (go_at_call 9; refine HC.out.mono ?_; rintro e w2 ⟨rfl, b2⟩; have B2 := Lib.hid (below_trans B0.out b2); clear b2)
        | (go_at_call 10; refine (awake_any _ (E.below B2.out)).mono ?_; rintro e w3 ⟨rfl, b3⟩; have B3 := Lib.hid (below_trans B2.out b3); clear b3))
      go_ret
      exact ⟨rfl, B3.out⟩
    · have HSM := Lib.hid (hr (by omega))
      have HIH := Lib.hid ih
      have HIL := Lib.hid il
      have HIN := Lib.hid in_
      have HPC := Lib.hid hC
      have HOK := Lib.hid hok
      have hlb : b.length ≤ 40 := by omega
      clear hr ih il in_ hC hok hl
      go_enter Tryd.func5, Tryd.ntmps5
      go_upto_region 5 with (go_at_call 9; refine HC.out.mono ?_; rintro e w2 ⟨rfl, b2⟩; have B2 := Lib.hid (below_trans B0.out b2); have hO2 := (b2.block _ (blk_lt O0.out)).trans O0.out; have O2 := Lib.hid hO2; obtain ⟨⟨a0, a1, a2, a3, a4⟩, -⟩ := five hO2; clear b2 hO2)
      have hB := (Array.getElem?_eq_some_iff.1 O2.out).1
      have P0 : Hid (TwoOps w (w2.alloc (.cells #[.int .i64 k, .int .i64 0, .int .i64 0, .int .i64 0, .slice none 0 0] 24)) w2.heap.size k h lba len (.slice A l.length c) 0 0 0 (.slice none 0 0)) :=
        Lib.hid ⟨blk_alloc O2.out _, heap_alloc_new w2 _, B2.out.alloc B2.out.size _, hB⟩
      obtain ⟨hx, hhx⟩ : ∃ hx, (if k = 1 then 0 else h) = hx := ⟨_, rfl⟩
      obtain ⟨fh, hfh⟩ : ∃ fh : Bool, (fh = true ↔ ¬ In40 hx) := by
        by_cases hn : In40 hx
        · exact ⟨false, by simp [hn]⟩
        · exact ⟨true, by simp [hn]⟩
      have HHX : Hid ((k = 1 → hx = 0) ∧ (k ≠ 1 → hx = h)) := Lib.hid ⟨fun e => by rw [← hhx, if_pos e], fun e => by rw [← hhx, if_neg e]⟩
      have HFH := Lib.hid hfh
      have HB := Lib.hid hB
      clear hhx hfh a0 a1 a2 a3 a4 B0 O0 HC B2 O2 hB
      obtain ⟨W0, hW0⟩ : ∃ W, w2.alloc (.cells #[.int .i64 k, .int .i64 0, .int .i64 0, .int .i64 0, .slice none 0 0] 24) = W := ⟨_, rfl⟩
      rw [hW0] at P0 ⊢
      clear hW0
      obtain ⟨⟨a0, a1, a2, a3, a4⟩, -⟩ := five P0.out.o
      obtain ⟨⟨x0, x1, x2, x3, x4⟩, ⟨xf0, xf1, xf2, xf3, xf4⟩⟩ := five P0.out.x
      go_upto_if 29 with fail
      go_cut [6] (fun s6 wx => s6 = .bool fh ∧ Hid (TwoOps w wx w2.heap.size k h lba len (.slice A l.length c) hx 0 0 (.slice none 0 0)))
      case first => as_aux_lemma =>
        by_cases hk1 : k = 1
        · have q : (k != 1) = false := by rw [hk1]; rfl
          obtain rfl := HHX.out.1 hk1
          obtain rfl : fh = false := by
            cases fh
            · rfl
            · exact absurd in40_zero (HFH.out.1 rfl)
          clear hk1
          go_wp2_with fail
          go_meet
          exact ⟨rfl, P0⟩
        · have q : (k != 1) = true := by rw [bne_iff_ne]; exact hk1
          obtain rfl := HHX.out.2 hk1
          have hne : w.heap.size ≠ w2.heap.size := Nat.ne_of_lt HB.out
          clear hk1
          by_cases t1 : hx < -1099511627776
          · obtain rfl : fh = true := HFH.out.2 (fun hn => by have := hn.1; omega)
            go_wp2_with fail
            go_meet
            exact ⟨rfl, Lib.hid (P0.out.set 1 _ rfl)⟩
          · by_cases t2 : hx > 1099511627776
            · obtain rfl : fh = true := HFH.out.2 (fun hn => by have := hn.2; omega)
              go_wp2_with fail
              go_meet
              exact ⟨rfl, Lib.hid (P0.out.set 1 _ rfl)⟩
            · obtain rfl : fh = false := by
                cases fh
                · rfl
                · exact absurd ⟨by omega, by omega⟩ (HFH.out.1 rfl)
              go_wp2_with fail
              go_meet
              exact ⟨rfl, Lib.hid (P0.out.set 1 _ rfl)⟩
      case rest => as_aux_lemma =>
        obtain ⟨rfl, P1⟩ := hcut
        clear P0 x0 x1 x2 x3 x4 xf0 xf1 xf2 xf3 xf4 a0 a1 a2 a3 a4
        obtain ⟨lx, hlx⟩ : ∃ n, (if k = 2 then lba else 0) = n := ⟨_, rfl⟩
        obtain ⟨nx, hnx⟩ : ∃ n, (if k = 2 then len else 0) = n := ⟨_, rfl⟩
        obtain ⟨ls, hls⟩ : ∃ n : List S42, (if k = 3 then l else []) = n := ⟨_, rfl⟩
        obtain ⟨vx, hvx⟩ : ∃ n, (if k = 3 then Value.slice A l.length c else Value.slice none 0 0) = n := ⟨_, rfl⟩
        obtain ⟨fb, hfb⟩ : ∃ fb : Bool, (fb = true ↔ ¬ Near ⟨k, hx, lx, nx, ls⟩) := by
          by_cases hn : Near ⟨k, hx, lx, nx, ls⟩
          · exact ⟨false, by simp [hn]⟩
          · exact ⟨true, by simp [hn]⟩
        have HF : Hid ((k = 2 → lx = lba ∧ nx = len) ∧ (k ≠ 2 → lx = 0 ∧ nx = 0) ∧ (k = 3 → ls = l ∧ vx = .slice A l.length c) ∧ (k ≠ 3 → ls = [] ∧ vx = .slice none 0 0)) :=
          Lib.hid ⟨fun e => ⟨by rw [← hlx, if_pos e], by rw [← hnx, if_pos e]⟩, fun e => ⟨by rw [← hlx, if_neg e], by rw [← hnx, if_neg e]⟩, fun e => ⟨by rw [← hls, if_pos e], by rw [← hvx, if_pos e]⟩, fun e => ⟨by rw [← hls, if_neg e], by rw [← hvx, if_neg e]⟩⟩
        have HFB := Lib.hid hfb
        clear hlx hnx hls hvx hfb
        obtain ⟨⟨a0, a1, a2, a3, a4⟩, -⟩ := five P1.out.o
        go_upto_block 0 with fail
        go_cut [6] (fun s6 wx => s6 = .bool fb ∧ Hid (TwoOps w wx w2.heap.size k h lba len (.slice A l.length c) hx lx nx vx))
        case first => as_aux_lemma =>
          have hne : w.heap.size ≠ w2.heap.size := Nat.ne_of_lt HB.out
          obtain ⟨⟨x0, x1, x2, x3, x4⟩, ⟨xf0, xf1, xf2, xf3, xf4⟩⟩ := five P1.out.x
          by_cases k2 : k = 2
          · subst k2
            obtain ⟨rfl, rfl⟩ := HF.out.1 rfl
            obtain ⟨rfl, rfl⟩ := HF.out.2.2.2 (by decide)
            cases fh
            · by_cases t1 : lx < -1099511627776
              · obtain rfl : fb = true := HFB.out.2 (fun hn => by have := hn.2.1.1; dsimp only at this; omega)
                go_wp2_with fail
                go_meet
                exact ⟨rfl, Lib.hid ((P1.out.set 2 _ rfl).set 3 _ rfl)⟩
              · by_cases t2 : lx > 1099511627776
                · obtain rfl : fb = true := HFB.out.2 (fun hn => by have := hn.2.1.2; dsimp only at this; omega)
                  go_wp2_with fail
                  go_meet
                  exact ⟨rfl, Lib.hid ((P1.out.set 2 _ rfl).set 3 _ rfl)⟩
                · by_cases t3 : nx < -1099511627776
                  · obtain rfl : fb = true := HFB.out.2 (fun hn => by have := hn.2.2.1.1; dsimp only at this; omega)
                    go_wp2_with fail
                    go_meet
                    exact ⟨rfl, Lib.hid ((P1.out.set 2 _ rfl).set 3 _ rfl)⟩
                  · by_cases t4 : nx > 1099511627776
                    · obtain rfl : fb = true := HFB.out.2 (fun hn => by have := hn.2.2.1.2; dsimp only at this; omega)
                      go_wp2_with fail
                      go_meet
                      exact ⟨rfl, Lib.hid ((P1.out.set 2 _ rfl).set 3 _ rfl)⟩
                    · obtain rfl : fb = false := by
                        cases fb
                        · rfl
                        · exact absurd ⟨by
                            have := mt HFH.out.2 (by decide)
                            exact Classical.not_not.1 this, ⟨by dsimp only; omega, by dsimp only; omega⟩, ⟨by dsimp only; omega, by dsimp only; omega⟩, fun p hp => by cases hp⟩ (HFB.out.1 rfl)
                      go_wp2_with fail
                      go_meet
                      exact ⟨rfl, Lib.hid ((P1.out.set 2 _ rfl).set 3 _ rfl)⟩
            · obtain rfl : fb = true := HFB.out.2 (fun hn => HFH.out.1 rfl hn.1)
              go_wp2_with fail
              go_meet
              exact ⟨rfl, Lib.hid ((P1.out.set 2 _ rfl).set 3 _ rfl)⟩
          · obtain ⟨rfl, rfl⟩ := HF.out.2.1 k2
            have q2 : (k == 2) = false := by rw [beq_eq_false_iff_ne]; exact k2
            by_cases k3 : k = 3
            · subst k3
              obtain ⟨rfl, rfl⟩ := HF.out.2.2.1 rfl
              clear k2 q2
              have hll : ls.length ≤ 3000 := by have := HSM.out; omega
              go_wp2_with fail
              clear a0 a1 a2 a3 a4 x0 x1 x2 x3 x4 xf0 xf1 xf2 xf3 xf4
              go_loopw [6, 7] (fun vf vi wr => ∃ (i : Nat) (f : Bool), i ≤ ls.length ∧ vf = .bool f ∧ vi = .int .i64 (i : Int) ∧ Hid (f = true ↔ ¬ (In40 hx ∧ ∀ p ∈ ls.take i, In40 p.f0)) ∧ Hid (TwoOps w wr w2.heap.size 3 h lba len (.slice A ls.length c) hx 0 0 (.slice A ls.length c))) (fun _ vi _ => ls.length - (intOf vi).toNat)
              case atStart => exact ⟨0, fh, Nat.zero_le _, rfl, rfl, Lib.hid (by rw [HFH.out]; simp), Lib.hid (P1.out.set 4 _ rfl)⟩
              case round =>
                obtain ⟨i, f, hi, rfl, rfl, HI, P⟩ := hrel
                rename World => W
                clear P1
                obtain ⟨⟨a0, -, -, -, a4⟩, -⟩ := five P.out.o
                by_cases hlt : i < ls.length
                · obtain ⟨ad, _, _, hA, x0, -, -, -⟩ := at_T42 (Kd.C_below HPC.out P.out.bel) (i : Int) (by omega) (by omega)
                  rw [rdT_at ls i hlt, Int.toNat_natCast] at x0
                  subst hA
                  have HS := Lib.hid (take_near ls i hlt)
                  have g3 : (0 : Int) ≤ (i : Int) := by omega
                  have g4 : (i : Int) < (ls.length : Int) := by omega
                  generalize ls[i] = p at x0 HS
                  have hpf := p.f0
                  obtain ⟨z, hz⟩ : ∃ z, p.f0 = z := ⟨_, rfl⟩
                  rw [hz] at x0 HS
                  clear hz hpf
                  cases f
                  · have HI2 : Hid (In40 hx ∧ ∀ p ∈ ls.take i, In40 p.f0) := Lib.hid (Classical.not_not.1 (mt HI.out.2 (by decide)))
                    by_cases t1 : z < -1099511627776
                    · go_wp2_with fail
                      go_roundw
                      case rel => exact ⟨i + 1, true, by omega, rfl, by go_num, Lib.hid (iff_of_true rfl (fun hn => by have := (HS.out.1 hn.2).2.1; omega)), P⟩
                      case measure => simp [intOf]; omega
                    · by_cases t2 : z > 1099511627776
                      · go_wp2_with fail
                        go_roundw
                        case rel => exact ⟨i + 1, true, by omega, rfl, by go_num, Lib.hid (iff_of_true rfl (fun hn => by have := (HS.out.1 hn.2).2.2; omega)), P⟩
                        case measure => simp [intOf]; omega
                      · have HZ : Hid (In40 z) := Lib.hid ⟨by omega, by omega⟩
                        go_wp2_with fail
                        go_roundw
                        case rel => exact ⟨i + 1, false, by omega, rfl, by go_num, Lib.hid (iff_of_false (by decide) (fun hn => hn ⟨HI2.out.1, HS.out.2 ⟨HI2.out.2, HZ.out⟩⟩)), P⟩
                        case measure => simp [intOf]; omega
                  · have HI2 : Hid (¬ (In40 hx ∧ ∀ p ∈ ls.take i, In40 p.f0)) := Lib.hid (HI.out.1 rfl)
                    go_wp2_with fail
                    go_roundw
                    case rel => exact ⟨i + 1, true, by omega, rfl, by go_num, Lib.hid (iff_of_true rfl (fun hn => HI2.out ⟨hn.1, (HS.out.1 hn.2).1⟩)), P⟩
                    case measure => simp [intOf]; omega
                · obtain rfl : i = ls.length := by omega
                  have HI2 := HI.out
                  rw [List.take_length] at HI2
                  obtain rfl : fb = f := by
                    have e : fb = true ↔ f = true := by
                      rw [HFB.out, HI2]
                      exact not_congr ⟨fun h => ⟨h.1, h.2.2.2⟩, fun h => ⟨h.1, in40_zero, in40_zero, h.2⟩⟩
                    exact Bool.eq_iff_iff.2 e
                  clear HI2 HI
                  go_wp2_with fail
                  go_meet
                  exact ⟨rfl, P⟩
            · obtain ⟨rfl, rfl⟩ := HF.out.2.2.2 k3
              have q3 : (k == 3) = false := by rw [beq_eq_false_iff_ne]; exact k3
              obtain rfl : fb = fh := by
                cases fh
                · cases fb
                  · rfl
                  · exact absurd ⟨by
                      have := mt HFH.out.2 (by decide)
                      exact Classical.not_not.1 this, in40_zero, in40_zero, fun p hp => by cases hp⟩ (HFB.out.1 rfl)
                · exact HFB.out.2 (fun hn => HFH.out.1 rfl hn.1)
              clear k2 k3
              go_wp2_with fail
              go_meet
              exact ⟨rfl, P1⟩
        case rest => as_aux_lemma =>
          obtain ⟨rfl, P2⟩ := hcut
          clear a0 a1 a2 a3 a4 P1
          have hTR : Trim ⟨k, hx, lx, nx, ls⟩ := ⟨HHX.out.1, HF.out.2.1, fun e => (HF.out.2.2.2 e).1⟩
          have z : I64 0 := ⟨by decide, by decide⟩
          have hX1 : I64 hx := by
            by_cases e : k = 1
            · rw [HHX.out.1 e]; exact z
            · rw [HHX.out.2 e]; exact HIH.out
          have hX2 : I64 lx ∧ I64 nx := by
            by_cases e : k = 2
            · rw [(HF.out.1 e).1, (HF.out.1 e).2]; exact ⟨HIL.out, HIN.out⟩
            · rw [(HF.out.2.1 e).1, (HF.out.2.1 e).2]; exact ⟨z, z⟩
          have hX3 : PutsOk ls ∧ ls.length + lenSum ls ≤ 3000 ∧ ∃ Ax cx, vx = .slice Ax ls.length cx ∧ ls.length ≤ cx ∧ ∀ W, Below w.heap.size w W → Kd.C k42 W Ax ls.length ls := by
            by_cases e : k = 3
            · obtain ⟨rfl, rfl⟩ := HF.out.2.2.1 e
              exact ⟨HOK.out, HSM.out, A, c, rfl, hc, fun W hb => Kd.C_below HPC.out hb⟩
            · obtain ⟨rfl, rfl⟩ := HF.out.2.2.2 e
              exact ⟨(fun p hp => by cases hp), by simp [lenSum], none, 0, rfl, Nat.le_refl _, fun W _ => C_nil42 W⟩
          obtain ⟨hX4, hX5, Ax, cx, rfl, hcx, hX6⟩ := hX3
          have HT := Lib.hid (fun W (hb : Below w.heap.size w W) => stext_any k hx lx nx ls Ax cx W (E.below hb) hX1 hX2.1 hX2.2 (hX6 W hb) hX4 (by omega))
          have htl := text_len k hx lx nx ls hX1 hX2.1 hX2.2 hX4 hX5
          have HBN : Hid (Near ⟨k, hx, lx, nx, ls⟩ → textP k hx lx nx ls ≠ [] → parseR (textP k hx lx nx ls) = (⟨k, hx, lx, nx, ls⟩, 0)) := Lib.hid (fun hn hne => back_near hTR hn hne (fun p hp => (hX4 p hp).2))
          have HBF : Hid (¬ Near ⟨k, hx, lx, nx, ls⟩ → textP k hx lx nx ls ≠ [] → parseR (textP k hx lx nx ls) = (⟨0, 0, 0, 0, []⟩, 13)) := Lib.hid (fun hn hne => back_far hTR hn hne (fun p hp => (hX4 p hp).2))
          have HLS : Hid (ls.length ≤ 3000) := Lib.hid (by omega)
          have HXC := Lib.hid hX6
          clear hTR z hX1 hX2 hX4 hX5 hX6 HF HHX HFH HPC HOK HSM HIH HIL HIN hcx
          generalize textP k hx lx nx ls = tx at HT htl HBN HBF
          have HPR : Hid (∀ W, Env W → Calls Tryd.prog 11 #[.string (ba tx)] W fun e w' => OpIs W w' e (parseR tx).1 (parseR tx).2) := Lib.hid (fun W E => parse_any (ba tx) (by show tx.length ≤ 8000; omega) W E)
          obtain ⟨⟨x0, x1, x2, x3, x4⟩, -⟩ := five P2.out.x
          go_upto_if 106 with (go_at_call 13; refine (HT.out _ P2.out.bel).mono ?_; rintro e w3 ⟨rfl, b3⟩; have P3 := Lib.hid (P2.out.below b3); clear b3 x0 x1 x2 x3 x4)
          go_cut [8] (fun s8 wx => s8 = .string (ba tx) ∧ Hid (Below w.heap.size w wx))
          case first => as_aux_lemma =>
            by_cases htx : tx = []
            · subst htx
              go_wp2_with fail
              go_meet
              exact ⟨rfl, Lib.hid P3.out.bel⟩
            · have e0 : tx.isEmpty = false := by
                cases tx
                · exact absurd rfl htx
                · rfl
              have e1 : (!tx.isEmpty) = true := by rw [e0]; rfl
              rw [e1]
              cases fb
              · have hpr : parseR tx = (⟨k, hx, lx, nx, ls⟩, 0) := HBN.out (Classical.not_not.1 (mt HFB.out.2 (by decide))) htx
                rw [hpr] at HPR
                clear hpr HBN HBF
                go_wp2_with (first
                  | (go_at_call 11; refine (HPR.out _ (E.below P3.out.bel)).mono ?_; rintro e w4 ⟨A4, c4, rfl, C4, hc4, b4⟩; have P4 := Lib.hid ((P3.out.below b4).below ((Below.refl _ _).alloc (Nat.le_refl _) (.cells #[.int .i64 k, .int .i64 hx, .int .i64 lx, .int .i64 nx, .slice A4 ls.length c4] 24))); have D4 := Lib.hid (Kd.C_below C4 ((Below.refl _ _).alloc (Nat.le_refl _) (.cells #[.int .i64 k, .int .i64 hx, .int .i64 lx, .int .i64 nx, .slice A4 ls.length c4] 24))); obtain ⟨⟨x0, x1, x2, x3, x4⟩, -⟩ := five P4.out.x; clear b4 C4)
                  | (go_at_call 15; refine (same_any k hx lx nx ls A4 Ax c4 cx _ D4.out (HXC.out _ P4.out.bel) (by have := HLS.out; omega)).mono ?_; rintro e w5 ⟨rfl, b5⟩; have B5 := Lib.hid (below_trans P4.out.bel b5); clear b5))
                go_meet
                exact ⟨rfl, B5⟩
              · have hpr : parseR tx = (⟨0, 0, 0, 0, []⟩, 13) := HBF.out (HFB.out.1 rfl) htx
                rw [hpr] at HPR
                clear hpr HBN HBF
                go_wp2_with (go_at_call 11; refine (HPR.out _ (E.below P3.out.bel)).mono ?_; rintro e w4 ⟨A4, c4, rfl, C4, hc4, b4⟩; have B4 := Lib.hid (below_trans P3.out.bel b4); clear b4 C4)
                go_meet
                exact ⟨rfl, Lib.hid (B4.out.alloc B4.out.size _)⟩
          case rest => as_aux_lemma =>
            obtain ⟨rfl, B6⟩ := hcut
            clear P2 P3 HBN HBF HPR HT HLS HXC HFB
            have HPB := Lib.hid (pad_app b hlb)
            have HS := Lib.hid (fun w hr => sbytes_any A1 b c1 w hr M1.out (by omega))
            have hub : unbP (bytesP b) = (pad40 b, true) := unbP_bytes b M1.out hlb
            have HL40 : Hid ((pad40 b).length = 40) := Lib.hid (pad40_len b hlb)
            generalize bytesP b = tb at HS hub
            have HU : Hid (∀ W, Calls Tryd.prog 16 #[.string (ba tb)] W fun e w' => ∃ v : Value, e = .returned (.tuple #[v, .bool true]) ∧ Kd.R (Kd.int .u8) 5 w' W.heap.size (fun _ => True) v (pad40 b) ∧ Below W.heap.size W w') := Lib.hid (fun W => by
              have := sunb_any (ba tb) W
              rw [show (ba tb).data.toList = tb from rfl, hub] at this
              exact this)
            clear hub
            generalize pad40 b = pb at HPB HL40 HU
            go_wp2_with (first
              | (at_builtin; refine list_appZero (w0 := wc) (by rfl) _ _ (by rfl) _ ([] ++ b) (40 - (b.length : Int)) (by rfl) (by rfl) X1.out (by omega) B7.out (by simp; omega) ?_; intro v8 w8 h8 b8; rw [HPB.out] at h8; obtain ⟨Ax2, cx2, rfl, q8⟩ := row_of_R h8; have X2 := Lib.hid q8; have B8 := Lib.hid (below_trans B6.out b8); clear h8 q8 b8 X1 B7)
              | (at_builtin; refine list_appRow (w0 := wc) (by rfl) _ _ (by rfl) _ [] b A1 c1 (by rfl) (by rfl) (ownB_lit wc _ (Nat.le_refl _)) (R1.out.below (B6.out.alloc B6.out.size _)).1 ((Below.refl _ _).alloc (Nat.le_refl _) _) (by simp; omega) ?_; intro v7 w7 h7 b7; have X1 := Lib.hid h7; have B7 := Lib.hid b7; clear h7 b7)
              | (go_at_call 18; refine (HS.out _ (R1.out.below B8.out)).mono ?_; rintro e w9 ⟨rfl, b9⟩; have B9 := Lib.hid (below_trans B8.out b9); have X3 := Lib.hid (X2.out.below b9); clear b9)
              | (go_at_call 16; refine (HU.out _).mono ?_; rintro e wa ⟨va, rfl, ra, bq⟩; obtain ⟨Aa, ca, rfl, qa⟩ := row_of_R ra; have Xa := Lib.hid qa; have Ba := Lib.hid (below_trans B9.out bq); have X4 := Lib.hid (X3.out.below bq); clear ra qa bq)
              | (go_at_call 20; refine (alike_self _ _ _ _ pb _ Xa.out.1 X4.out.1 (by rw [HL40.out]; omega)).mono ?_; rintro e wb ⟨rfl, bb⟩; have Bb := Lib.hid (below_trans Ba.out bb); clear bb)
              | (go_at_call 10; refine (awake_any _ (E.below Bb.out)).mono ?_; rintro e wd ⟨rfl, bd⟩; have Bd := Lib.hid (below_trans Bb.out bd); clear bd))
            go_ret
            exact ⟨rfl, Bd.out⟩
end Go.Proofs.YtjjpnmeldgnfeaaDoor
