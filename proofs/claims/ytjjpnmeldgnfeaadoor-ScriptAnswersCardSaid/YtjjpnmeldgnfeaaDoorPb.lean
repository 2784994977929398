/-
  The walk of script.Parse.
-/
import Derived.Test.YtjjpnmeldgnfeaaDoorPc
import Derived.Deep.CutBlock
import Derived.Deep.LoopGhost
import Derived.Deep.RegionHeld3
import Derived.Deep.RegionLaw
namespace Go.Proofs.YtjjpnmeldgnfeaaDoor
open Go Go.RowKit Go.Proofs.YtjjpnmeldgnfeaaDoor.PScriptTexts Go.Proofs.YtjjpnmeldgnfeaaDoorW.PrintWords
set_option maxRecDepth 100000

theorem kindOf_le (x : List UInt8) : kindOf x ≤ 5 := by unfold kindOf; repeat' split <;> try omega
theorem PS.setK {w W : World} {ws : List (List UInt8)} {bad : Bool} {k h lba len : Int} {v : Value} (p : PS w W ws bad k h lba len v) (n m : Int) (e : n = m) : PS w (W.setCell ⟨w.heap.size + 1 + 1 + 1, 0, none⟩ (.int .i64 n)) ws bad m h lba len v := by
  subst e; exact p.setOp 0 _ rfl

theorem spl_length : ∀ (s pre : List UInt8), (spl pre s).length ≤ s.length + 1
  | [], pre => by rw [spl]; simp
  | c :: r, pre => by
    rw [spl]
    split
    · have := spl_length r []; simp; omega
    · have := spl_length r (pre ++ [c]); simp; omega
section
variable {ops : Array Oper} {o : Oper} {a : Act} {Q : Exit → Act → World → Prop} {K : Act → World → Prop}
theorem step_put {w W : World} {E : Prop} {Av A2 : Option Addr} {cv c2 B : Nat} {l : List S42} {m : Int} {d : List Int} (hgd : o.guard = none) (s x : Operand) (ho : o.op = .call { callee := .builtin .append, args := #[s, x], argTypes := #[22, 22] })
    (hs : a.eval s = .slice Av l.length cv) (hx : a.eval x = .slice (some ⟨W.heap.size, 0, none⟩) 1 1) (HM : k42.M W (w.heap.size + 1 + 1 + 1 + 1) (fun k => B ≤ k) ⟨m, d⟩ [.int .i64 m, .slice A2 d.length c2])
    (hB : w.heap.size + 1 + 1 + 1 + 1 ≤ B) (hBW : B ≤ W.heap.size) (hown : ∀ k, (Value.slice Av l.length cv).ownBlock = some k → k < B) (HO : PutsR w W (.slice Av l.length cv) l) (hl : l.length ≤ 100000)
    (h : ∀ A1 c1 w1, PutsR w w1 (.slice A1 (l.length + 1) c1) (l ++ [⟨m, d⟩]) → Below (w.heap.size + 1 + 1 + 1 + 1) W w1 → K (a.put o.dst (.slice A1 (l.length + 1) c1)) w1) :
    if Region.wanted o (yielded ops a.tmps) = true then Oper.wp Tryd.prog o a (W.alloc (.cells #[.int .i64 m, .slice A2 d.length c2] 42)) K Q else E := by
  have hw : Region.wanted o (yielded ops a.tmps) = true := by simp [Region.wanted, hgd]
  have H := Kd.R_append_step (P := Tryd.prog) (ops := ops) (o := o) (a := a) (Q := Q) (Kc := K) k42 (w0 := W) (W := W) (w.heap.size + 1 + 1 + 1 + 1) hw s x 22 42 (.agg #[(.int .i64 0), (.slice none 0 0)]) 32 ho Tryd.underlying22 info42 rfl (by decide) (by omega) (.slice Av l.length cv) l ⟨m, d⟩ [.int .i64 m, .slice A2 d.length c2] (fun k => w.heap.size + 1 + 1 + 1 < k) (fun k => B ≤ k) hs hx HM
    (fun k hk => ⟨by omega, fun he => by have := hown k he.symm; omega⟩) (fun k hk => by omega) HO (Below.refl _ _) (by omega) (by omega) (fun v1 w1 h1 h2 _ _ => by
      obtain ⟨A1, c1, rfl⟩ := Kd.R_slice h1
      rw [List.length_append, List.length_singleton] at h1 ⊢
      exact h A1 c1 w1 h1 h2)
  rw [if_pos hw] at H ⊢
  exact H
end
theorem alloc_cell {W : World} {p : Addr} {v : Value} (h : W.cell? p = some v) (o : Obj) : (W.alloc o).cell? p = some v := (((Below.refl W.heap.size W).alloc (Nat.le_refl _) o).cell (World.block_lt_of_cell? W _ h)).trans h
theorem numS_len {a : List UInt8} {t ws' : List (List UInt8)} {n : Int} {b : Bool} (h : NumS (a :: t) false n ws' b) : ws'.length = t.length := by
  rcases h with ⟨h, _⟩ | ⟨_, h, _⟩ | ⟨_, a', he, _⟩
  · cases h
  · cases h
  · injection he with e1 e2; rw [e2]
theorem put_less {a : List UInt8} {t t1 t2 : List (List UInt8)} {gk : Nat} (h : (a :: t).length + 1 ≤ gk) (h1 : t1.length = t.length) (h2 : t2.length ≤ t1.length) : t2.length + 1 < gk := by rw [List.length_cons] at h; omega
theorem put_room {a : List UInt8} {t t1 t2 r : List (List UInt8)} {l : List S42} {p : S42} (h : l.length + (a :: t).length ≤ r.length) (h1 : t1.length = t.length) (h2 : t2.length ≤ t1.length) : (l ++ [p]).length + t2.length ≤ r.length := by rw [List.length_cons] at h; rw [List.length_append, List.length_singleton]; omega
theorem datalen (s : ByteArray) : s.data.toList.length = s.size := Array.length_toList

theorem ret_op2 (w : World) (a : Act) (W : World) (b : Nat) (o : OpD) (A : Option Addr) (cap : Nat) (c : Int) (ro : OpD) (rc : Int) (ho : ro = o) (hrc : rc = c) (hb : W.heap[b]? = some (.cells #[.int .i64 o.k, .int .i64 o.h, .int .i64 o.lba, .int .i64 o.len, .slice A o.l.length cap] 24 (0, 0)))
    (h2 : a.tmps[2]?.getD undef = .pointer (some ⟨b, 0, none⟩)) (h3 : a.tmps[3]?.getD undef = .int .i64 c) (hbel : Below w.heap.size w W) (hC : Kd.C k42 W A o.l.length o.l) (hcap : o.l.length ≤ cap) (hd : a.defers = [] := by rfl) :
    bodyPost Tryd.prog Tryd.f11 (fun e w' => OpIs w w' e ro rc) Exit.ret a W := by
  subst ho hrc
  exact ret_op w a W b ro A cap rc hb h2 h3 hbel hC hcap hd

set_option maxHeartbeats 16000000 in
theorem parse_val (s : ByteArray) (hs : s.size ≤ 8000) (w : World) (E : Env w) (x : List UInt8) (r : List (List UInt8)) (hx : spl [] s.data.toList = x :: r) (ro : OpD) (rc : Int) (hr : (ro, rc) = parseR s.data.toList) :
    Calls Tryd.prog 11 #[.string s] w fun e w' => OpIs w w' e ro rc := by
  have HS := Lib.hid (fun w E => split_any s (by omega) w E)
  rw [hx] at HS
  have hK5 := kindOf_le x
  obtain ⟨K, hK⟩ : ∃ K, kindOf x = K := ⟨_, rfl⟩
  have HK := Lib.hid (fun w1 => kind_at w1 x ((K : Int) - 1) (by rw [hK]))
  rw [hK] at hK5
  have HKX := Lib.hid hK
  have HP := Lib.hid (ps_init w x r)
  have HR : Hid ((ro, rc) = match parseO (x :: r) with | none => (⟨0, 0, 0, 0, []⟩, 13) | some o => if textO o = s.data.toList then (o, 0) else (⟨0, 0, 0, 0, []⟩, 13)) := Lib.hid (hr.trans (by rw [parseR, hx]; rfl))
  have HLEN : Hid ((x :: r).length ≤ 8001) := Lib.hid (by rw [← hx]; have h1 := spl_length s.data.toList []; rw [datalen] at h1; omega)
  have HWD : Hid (∀ y ∈ r, y.length ≤ 1000000) := Lib.hid (fun y hy => by
    have h1 := spl_mem s.data.toList [] y (by rw [hx]; exact List.mem_cons_of_mem _ hy)
    rw [datalen, List.length_nil] at h1; omega)
  clear hx hK hr
  go_enter Tryd.func11, Tryd.ntmps11
  go_wp2_with fail
  go_step3
  go_wp2_with (first
    | (go_at_call 24; refine (HS.out _ (E.below ((Below.refl _ _).alloc (Nat.le_refl _) _))).mono ?_; rintro e w1 ⟨rfl, rfl⟩)
    | (go_at_call 25; refine (next_some _ _ _ _ _ x r HP.out.2).mono ?_; rintro e w1 ⟨rfl, r1⟩; have P1 := Lib.hid (HP.out.1.keep r1); clear r1)
    | (go_at_call 26; refine (HK.out _).mono ?_; rintro e w2 ⟨rfl, b2⟩; have P2 := Lib.hid (P1.out.below b2); obtain ⟨⟨o0, -, -, -, -⟩, ⟨of0, -, -, -, -⟩⟩ := five P2.out.op; clear b2))
  go_step3
  go_upto_region 5 with fail
  go_cut [19] (fun s19 wx => s19 = .int .i64 (K : Int) ∧ Hid (PS w wx r false K 0 0 0 (.slice none 0 0)))
  case first => as_aux_lemma =>
    go_wp2_with fail
    go_meet
    have e : (1 : Int) + ((K : Int) - 1) = (K : Int) := by omega
    exact ⟨congrArg (Value.int .i64) e, Lib.hid (P2.out.setK _ _ e)⟩
  case rest => as_aux_lemma =>
    obtain ⟨rfl, P3⟩ := hcut
    go_upto_block 0 with fail
    go_cut [3] (fun s3 wx => s3 = .int .i64 0 ∧ Hid (Sw w wx x r))
    case first => as_aux_lemma =>
      have R0 : Hid (PutsR w wc (.slice none 0 0) []) := Lib.hid (Kd.R_nil _ _ _ _ _)
      obtain rfl | rfl | rfl | rfl | rfl | rfl : K = 0 ∨ K = 1 ∨ K = 2 ∨ K = 3 ∨ K = 4 ∨ K = 5 := by omega
      · obtain ⟨g1, gf1⟩ := P3.out.facts
        go_wp2_with fail
        go_meet
        exact ⟨rfl, Lib.hid ⟨_, _, _, _, _, _, _, _, P3.out.setBad true, R0.out.set _ (by dsimp only; omega) _, left_0 x r HKX.out _⟩⟩
      · go_wp2_with fail
        go_meet
        exact ⟨rfl, Lib.hid ⟨_, _, _, _, _, _, _, _, P3.out, R0.out, left_1 x r HKX.out⟩⟩
      · go_wp2_with (go_at_call 29; first | (refine (num_at E P5.out W5.out).mono ?_; rintro e w' ⟨n3, s3, f3, rfl, N1, M1, p4, m4⟩; have P6 := Lib.hid p4; have N6 := Lib.hid N1; have R6 := Lib.hid (R5.out.keep m4 (by omega)); have W6 := Lib.hid (fun y hy => W5.out y (M1.1 y hy)); obtain ⟨⟨q0, q1, q2, q3, q4⟩, ⟨qf0, qf1, qf2, qf3, qf4⟩⟩ := five P6.out.op; clear p4 m4 N1 M1) | (refine (num_at E P4.out W4.out).mono ?_; rintro e w' ⟨n2, s2, f2, rfl, N1, M1, p4, m4⟩; have P5 := Lib.hid p4; have N5 := Lib.hid N1; have R5 := Lib.hid (R4.out.keep m4 (by omega)); have W5 := Lib.hid (fun y hy => W4.out y (M1.1 y hy)); obtain ⟨⟨q0, q1, q2, q3, q4⟩, ⟨qf0, qf1, qf2, qf3, qf4⟩⟩ := five P5.out.op; clear p4 m4 N1 M1) | (refine (num_at E P3.out HWD.out).mono ?_; rintro e w' ⟨n1, s1, f1, rfl, N1, M1, p4, m4⟩; have P4 := Lib.hid p4; have N4 := Lib.hid N1; have L4 := Lib.hid M1.2; have R4 := Lib.hid (R0.out.keep m4 (by omega)); have W4 := Lib.hid (fun y hy => HWD.out y (M1.1 y hy)); obtain ⟨⟨q0, q1, q2, q3, q4⟩, ⟨qf0, qf1, qf2, qf3, qf4⟩⟩ := five P4.out.op; clear p4 m4 N1 M1))
        go_meet
        exact ⟨rfl, Lib.hid ⟨_, _, _, _, _, _, _, _, ((P6.out.setOp 1 _ rfl).setOp 2 _ rfl).setOp 3 _ rfl, ((R6.out.set _ (by dsimp only; omega) _).set _ (by dsimp only; omega) _).set _ (by dsimp only; omega) _, left_2 x r _ _ _ _ _ _ _ _ _ HKX.out N4.out N5.out N6.out⟩⟩
      · go_wp2_with (go_at_call 29; (refine (num_at E P3.out HWD.out).mono ?_; rintro e w' ⟨n1, s1, f1, rfl, N1, M1, p4, m4⟩; have P4 := Lib.hid p4; have N4 := Lib.hid N1; have L4 := Lib.hid M1.2; have R4 := Lib.hid (R0.out.keep m4 (by omega)); have W4 := Lib.hid (fun y hy => HWD.out y (M1.1 y hy)); obtain ⟨⟨q0, q1, q2, q3, q4⟩, ⟨qf0, qf1, qf2, qf3, qf4⟩⟩ := five P4.out.op; clear p4 m4 N1 M1))
        clear q0 q1 q2 q3 q4 qf0 qf1 qf2 qf3 qf4 HK HS HP HR P1 P2 o0 of0
        go_loopg [] (r.length + 1) (fun gk wr => ∃ (ws : List (List UInt8)) (bad : Bool) (v : Value) (l : List S42), ws.length + 1 ≤ gk ∧ Hid (PS w wr ws bad 3 n1 0 0 v) ∧ Hid (PutsR w wr v l) ∧ Hid (LI x r n1 ws bad l) ∧ Hid (∀ y ∈ ws, y.length ≤ 1000000) ∧ Hid (l.length + ws.length ≤ r.length))
        case atStart => exact ⟨s1, f1, _, [], by have := L4.out; omega, Lib.hid (P4.out.setOp 1 _ rfl), Lib.hid (R4.out.set _ (by dsimp only; omega) _), Lib.hid (li_0 x r _ _ _ HKX.out N4.out), W4, Lib.hid (by have := L4.out; simpa using this)⟩
        case round =>
          obtain ⟨ws, bad, v, l, hgk, P, RR, HL, HW, HB⟩ := hrel
          obtain ⟨A, c, k0, k1⟩ := P.out.rfacts
          obtain ⟨Av, cv, rfl⟩ := RR.out.slice
          clear P4 R4 N4 W4 L4
          by_cases hend : bad = true ∨ ws = []
          · have HD := Lib.hid (li_done _ _ _ _ _ _ HL.out hend)
            have hfin : Hid (Sw w wr x r) := Lib.hid ⟨_, _, _, _, _, _, _, _, P.out, RR.out, HD.out⟩
            clear HD HL
            rcases hend with rfl | rfl
            · cases ws
              all_goals
                go_wp2_with fail
                go_meet
                exact ⟨rfl, hfin⟩
            · cases bad
              all_goals
                go_wp2_with fail
                go_meet
                exact ⟨rfl, hfin⟩
          · obtain rfl : bad = false := by
              cases bad
              · rfl
              · exact absurd (Or.inl rfl) hend
            obtain ⟨a, t, rfl⟩ : ∃ a t, ws = a :: t := by
              cases ws with
              | nil => exact absurd (Or.inr rfl) hend
              | cons a t => exact ⟨a, t, rfl⟩
            clear hend
            obtain ⟨⟨p0, p1, p2, p3, p4⟩, ⟨pf0, pf1, pf2, pf3, pf4⟩⟩ := five P.out.op
            have HG := Lib.hid hgk
            clear p0 p1 p2 p3 pf0 pf1 pf2 pf3
            go_wp2_with fail
            clear hgk k0 k1
            have PD := Lib.hid (P.out.below ((Below.refl _ _).drew))
            have RD := Lib.hid (RR.out.below ((Below.refl _ _).drew))
            go_region_law
              (first
                | (go_simp; go_at_call 29; refine (num_at E PD.out HW.out).mono ?_; rintro e w4 ⟨m, t1, f1, rfl, N1, M1, p5, m5⟩; have P5 := Lib.hid p5; have N5 := Lib.hid N1; have L5 := Lib.hid M1; have R5 := Lib.hid (RD.out.keep m5 (by omega)); obtain ⟨⟨-, -, -, -, z4⟩, ⟨-, -, -, -, zf4⟩⟩ := five P5.out.op; clear p5 m5 N1 M1; go_simp)
                | (go_simp; go_at_call 30; refine (data_at P5.out).mono ?_; rintro e w5 ⟨v2, d, t2, f2, rfl, N2, M2, hm, p6, m6⟩; obtain ⟨A2, c2, rfl⟩ := Kd.R_slice hm; have P6 := Lib.hid p6; have N6 := Lib.hid N2; have L6 := Lib.hid M2; have R6 := Lib.hid (R5.out.keep m6 (by omega)); have K6 := Lib.hid m6; have HM := Lib.hid (putM m hm (show w.heap.size + 1 + 1 + 1 + 1 ≤ w4.heap.size by have := P5.out.lt; omega)); obtain ⟨⟨-, -, -, -, y4⟩, ⟨-, -, -, -, yf4⟩⟩ := five P6.out.op; have yn := alloc_cell y4 (.cells #[.int .i64 m, .slice A2 d.length c2] 42); clear p6 m6 N2 M2 hm; go_simp)
                | (refine step_put (by rfl) _ _ (by rfl) (by rfl) (by rfl) HM.out (by have := P5.out.lt; omega) (by have := K6.out.size; exact this) R5.out.own_lt R6.out (by have := HB.out; have := HLEN.out; simp only [List.length_cons] at *; omega) ?_; intro A1 c1 w7 h1 h2; have R7 := Lib.hid h1; have P7 := Lib.hid (P6.out.below4 h2); obtain ⟨⟨-, -, -, -, x4⟩, ⟨-, -, -, -, xf4⟩⟩ := five P7.out.op; clear h1 h2))
            all_goals
              go_wp2_with fail
              go_roundg (t2.length + 1)
              case measure => exact put_less HG.out (numS_len N5.out) L6.out.2
              case rel => exact ⟨t2, f2, _, _, Nat.le_refl _, Lib.hid (P7.out.setOp 4 _ rfl), Lib.hid (R7.out.set _ (by dsimp only; omega) _), Lib.hid (li_step _ _ _ _ _ _ _ _ _ _ _ _ HL.out N5.out N6.out), Lib.hid (fun y hy => HW.out y (L5.out.1 y (L6.out.1 y hy))), Lib.hid (put_room HB.out (numS_len N5.out) L6.out.2)⟩
      · obtain ⟨⟨o0, o1, o2, o3, o4⟩, ⟨of0, of1, of2, of3, of4⟩⟩ := five P3.out.op
        go_wp2_with (go_at_call 29; (refine (num_at E P3.out HWD.out).mono ?_; rintro e w' ⟨n1, s1, f1, rfl, N1, M1, p4, m4⟩; have P4 := Lib.hid p4; have N4 := Lib.hid N1; have L4 := Lib.hid M1.2; have R4 := Lib.hid (R0.out.keep m4 (by omega)); have W4 := Lib.hid (fun y hy => HWD.out y (M1.1 y hy)); obtain ⟨⟨q0, q1, q2, q3, q4⟩, ⟨qf0, qf1, qf2, qf3, qf4⟩⟩ := five P4.out.op; clear p4 m4 N1 M1))
        go_meet
        exact ⟨rfl, Lib.hid ⟨_, _, _, _, _, _, _, _, P4.out.setOp 1 _ rfl, R4.out.set _ (by dsimp only; omega) _, left_4 x r _ _ _ HKX.out N4.out⟩⟩
      · obtain ⟨⟨o0, o1, o2, o3, o4⟩, ⟨of0, of1, of2, of3, of4⟩⟩ := five P3.out.op
        go_wp2_with (go_at_call 29; (refine (num_at E P3.out HWD.out).mono ?_; rintro e w' ⟨n1, s1, f1, rfl, N1, M1, p4, m4⟩; have P4 := Lib.hid p4; have N4 := Lib.hid N1; have L4 := Lib.hid M1.2; have R4 := Lib.hid (R0.out.keep m4 (by omega)); have W4 := Lib.hid (fun y hy => HWD.out y (M1.1 y hy)); obtain ⟨⟨q0, q1, q2, q3, q4⟩, ⟨qf0, qf1, qf2, qf3, qf4⟩⟩ := five P4.out.op; clear p4 m4 N1 M1))
        go_meet
        exact ⟨rfl, Lib.hid ⟨_, _, _, _, _, _, _, _, P4.out.setOp 1 _ rfl, R4.out.set _ (by dsimp only; omega) _, left_5 x r _ _ _ HKX.out N4.out⟩⟩
    case rest => as_aux_lemma =>
      obtain ⟨rfl, HW⟩ := hcut
      obtain ⟨ws, bad, k, h, lba, len, v, l, P, RR, hsw⟩ := HW.out
      clear HW
      have PP := Lib.hid P
      have RP := Lib.hid RR
      clear P RR
      rcases hsw with ⟨rfl, hno⟩ | ⟨rfl, hpo⟩
      · have HN : Hid (ro = ⟨0, 0, 0, 0, []⟩ ∧ rc = 13) := Lib.hid (by have e := HR.out; rw [hno] at e; exact ⟨congrArg Prod.fst e, congrArg Prod.snd e⟩)
        obtain ⟨⟨r0, r1, r2, r3, r4⟩, ⟨rf0, rf1, rf2, rf3, rf4⟩⟩ := five PP.out.res
        obtain ⟨g1, gf1⟩ := PP.out.facts
        clear hno
        go_wp2_with fail
        rw [Exit.noGoto_ret]
        refine ret_op2 w _ _ _ ⟨0, 0, 0, 0, []⟩ none 0 13 ro rc HN.out.1 HN.out.2 (store5 PP.out.res _ _ _ _ _) rfl rfl ?_ (C_nil42 _) (Nat.le_refl _)
        repeat (refine Below.setCell ?_ (by dsimp only; omega) _)
        exact PP.out.bel
      · obtain ⟨A, cap, rfl⟩ := RP.out.slice
        obtain ⟨hh, hlb, hln, hok, hl1, hl2⟩ := parseO_ok _ _ hpo
        have hC := RP.out.reads.2.2
        have HT := Lib.hid (stext_any k h lba len l A cap wc (E.below PP.out.bel) hh hlb hln hC hok (by have := HLEN.out; dsimp only at hl1 hl2; omega))
        have HTB := Lib.hid (beq_dec (textP k h lba len l) s.toList)
        have HPO : Hid ((ro, rc) = if textP k h lba len l = s.data.toList then (⟨k, h, lba, len, l⟩, 0) else (⟨0, 0, 0, 0, []⟩, 13)) := Lib.hid (by have e := HR.out; rw [hpo] at e; exact e)
        clear hpo hh hlb hln hok hl1 hl2 hC
        generalize textP k h lba len l = tx at HT HTB HPO
        obtain ⟨ev, hev⟩ : ∃ ev, decide (tx = s.data.toList) = ev := ⟨_, rfl⟩
        have e1 : (tx == s.toList) = ev := by rw [HTB.out, ByteArray.toList_eq, hev]
        have e2 : (tx != s.toList) = !ev := by rw [bne, e1]
        have HEV := Lib.hid hev
        clear hev
        obtain ⟨⟨p0, p1, p2, p3, p4⟩, ⟨pf0, pf1, pf2, pf3, pf4⟩⟩ := five PP.out.op
        obtain ⟨g1, gf1⟩ := PP.out.facts
        cases ev
        · have HN : Hid (ro = ⟨0, 0, 0, 0, []⟩ ∧ rc = 13) := Lib.hid (by have e := HPO.out; rw [if_neg (of_decide_eq_false HEV.out)] at e; exact ⟨congrArg Prod.fst e, congrArg Prod.snd e⟩)
          go_wp2_with (go_at_call 13; refine HT.out.mono ?_; rintro e w3 ⟨rfl, b3⟩; have P5 := Lib.hid (PP.out.below b3); obtain ⟨⟨r0, r1, r2, r3, r4⟩, ⟨rf0, rf1, rf2, rf3, rf4⟩⟩ := five P5.out.res; clear b3)
          rw [Exit.noGoto_ret]
          refine ret_op2 w _ _ _ ⟨0, 0, 0, 0, []⟩ none 0 13 ro rc HN.out.1 HN.out.2 (store5 P5.out.res _ _ _ _ _) rfl rfl ?_ (C_nil42 _) (Nat.le_refl _)
          repeat (refine Below.setCell ?_ (by dsimp only; omega) _)
          exact P5.out.bel
        · have HN : Hid (ro = ⟨k, h, lba, len, l⟩ ∧ rc = 0) := Lib.hid (by have e := HPO.out; rw [if_pos (of_decide_eq_true HEV.out)] at e; exact ⟨congrArg Prod.fst e, congrArg Prod.snd e⟩)
          go_wp2_with (go_at_call 13; refine HT.out.mono ?_; rintro e w3 ⟨rfl, b3⟩; have P5 := Lib.hid (PP.out.below b3); have R5 := Lib.hid (RP.out.below b3); obtain ⟨⟨r0, r1, r2, r3, r4⟩, ⟨rf0, rf1, rf2, rf3, rf4⟩⟩ := five P5.out.res; obtain ⟨⟨q0, q1, q2, q3, q4⟩, ⟨qf0, qf1, qf2, qf3, qf4⟩⟩ := five P5.out.op; clear b3)
          rw [Exit.noGoto_ret]
          refine ret_op2 w _ _ _ ⟨k, h, lba, len, l⟩ A cap 0 ro rc HN.out.1 HN.out.2 (store5 P5.out.res _ _ _ _ _) rfl rfl ?_ ?_ R5.out.reads.2.1
          · repeat (refine Below.setCell ?_ (by dsimp only; omega) _)
            exact P5.out.bel
          · refine (PutsR.reads (w := w) (n := l.length) (c := cap) ?_).2.2
            repeat (refine PutsR.set ?_ _ (by dsimp only; omega) _)
            exact R5.out
/-- script.Parse. -/
theorem parse_any (s : ByteArray) (hs : s.size ≤ 8000) (w : World) (E : Env w) : Calls Tryd.prog 11 #[.string s] w fun e w' => OpIs w w' e (parseR s.data.toList).1 (parseR s.data.toList).2 := by
  obtain ⟨x, r, hx⟩ : ∃ x r, spl [] s.data.toList = x :: r := by
    cases h : spl [] s.data.toList with
    | nil => exact absurd h (spl_ne _ _)
    | cons x r => exact ⟨x, r, rfl⟩
  exact parse_val s hs w E x r hx _ _ rfl
end Go.Proofs.YtjjpnmeldgnfeaaDoor
