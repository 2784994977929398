/-
  The walk of script.Unbytes.
-/
import Derived.Test.YtjjpnmeldgnfeaaDoorSm
namespace Go.Proofs.YtjjpnmeldgnfeaaDoor
open Go Go.RowKit Go.Proofs.YtjjpnmeldgnfeaaDoor.PScriptTexts Go.Proofs.YtjjpnmeldgnfeaaDoorW.PrintWords
set_option maxRecDepth 100000

def intsV (l : List Int) : List Value := l.map (Value.int .u8)
/-- A block that is known whole is a row of the call's own. -/
theorem rowR (w : World) (base g : Nat) (l : List Int) (hl : l.length ≤ 1000000) (hb : base ≤ g) (hblk : w.heap[g]? = some (.cells (intsV l).toArray 5 (0, 0))) :
    Kd.R (Kd.int .u8) 5 w base (fun _ => True) (.slice (some ⟨g, 0, none⟩) l.length l.length) l := by
  refine ⟨fun _ _ => trivial, intsV l, ⟨by simp [intsV, Kd.int, Kd.scalar], .inr ⟨g, l.length, (intsV l).toArray, rfl, hb, hblk, Nat.le_refl _, by unfold maxLen; omega, by simp [intsV, Kd.int, Kd.scalar], by simp only [Kd.int, Kd.scalar, Nat.mul_one]; exact List.take_of_length_le (by simp [intsV])⟩⟩, by simp [intsV, Kd.int, Kd.scalar], fun j p hj => ?_⟩
  show (List.take 1 (List.drop (j * 1) (intsV l))) = [.int .u8 p]
  obtain ⟨hjl, rfl⟩ := List.getElem?_eq_some_iff.1 hj
  have h2 : j < (intsV l).length := by simpa [intsV] using hjl
  rw [Nat.mul_one, List.drop_eq_getElem_cons h2]
  simp [intsV]
theorem row_of_R {w : World} {base : Nat} {ok : Nat → Prop} {v : Value} {l : List Int} (h : Kd.R (Kd.int .u8) 5 w base ok v l) : ∃ A c, v = .slice A l.length c ∧ RowB w A l c := by
  obtain ⟨A, c, e, hc, hr⟩ := Kd.R_reads h
  exact ⟨A, c, e, hr, hc⟩

theorem index_hv : ∀ c : Fin 256, Lib.indexByte [48, 49, 50, 51, 52, 53, 54, 55, 56, 57, 97, 98, 99, 100, 101, 102] (UInt8.ofNat c.1) = hv (UInt8.ofNat c.1) := by decide +kernel
theorem index_any (c : UInt8) (w : World) : Calls Tryd.prog 38 #[.string ⟨#[48, 49, 50, 51, 52, 53, 54, 55, 56, 57, 97, 98, 99, 100, 101, 102]⟩, .int .u8 (c.toNat : Int)] w fun e w' => e = .returned (.int .i64 (hv c)) ∧ w = w' := by
  refine (Tryd.strings_IndexByte _ _ w).mono fun e w' ⟨h1, h2⟩ => ⟨?_, h2.symm⟩
  rw [h1]
  have := index_hv ⟨c.toNat, c.toNat_lt⟩
  simp only [UInt8.ofNat_toNat] at this
  have e : ((c.toNat : Int)).toNat.toUInt8 = c := by rw [Int.toNat_natCast]; simp
  rw [e, ← this]
theorem or16 : ∀ x y : Fin 16, Go.bits .or .i64 ((x.1 : Int) * 16) (y.1 : Int) = (16 * x.1 + y.1 : Nat) := by decide +kernel

def Z40 : Obj := .cells (intsV (List.replicate 40 0)).toArray 5
theorem info5' : (Tryd.prog.info? 5).map (fun i => (i.zero, i.size, i.bytes)) = some (some (.int .u8 0), 1, 1) := by kernel_rfl
theorem make40 (u : World) : (Instr.makeSlice 35 (.int .i64 40) (.int .i64 40)).run Tryd.prog u = .ok (.slice (some ⟨u.heap.size, 0, none⟩) 40 40) (u.alloc Z40) := by
  obtain ⟨i0, hi, hz0, hz1, hz2⟩ := info_parts info5'
  rw [run_make u 35 5 i0 (.int .u8 0) Tryd.underlying35 hi hz0 .i64 .i64 40 40 (by omega) (by omega) (by rw [hz2]; omega) (by omega), hz1, show madeCells (Value.int .u8 0).cells (Int.toNat 40 * 1) = (intsV (List.replicate 40 0)).toArray by kernel_rfl]
  rfl
theorem pair_step {a b : UInt8} {r : List UInt8} (h : 0 ≤ hv a ∧ 0 ≤ hv b) : pairs (a :: b :: r) = (pairs r).map (fun l => (16 * hv a + hv b) :: l) := by rw [pairs, if_pos h]
theorem pair_bad {a b : UInt8} {r : List UInt8} (h : ¬ (0 ≤ hv a ∧ 0 ≤ hv b)) : pairs (a :: b :: r) = none := by rw [pairs, if_neg h]
theorem unbV_step (s : List UInt8) (acc : List Int) (x : Int) (o : Option (List Int)) : unbV s acc (o.map (fun l => x :: l)) = unbV s (acc ++ [x]) o := by
  cases o with
  | none => rfl
  | some bs => simp only [Option.map_some, unbV]; rw [List.append_assoc]; rfl
theorem set40 (acc : List Int) (v : Int) (m : Nat) (hm : acc.length = m) (h : m < 40) : ((intsV (pad40 acc)).toArray.setIfInBounds m (.int .u8 v)) = (intsV (pad40 (acc ++ [v]))).toArray := by
  rw [List.setIfInBounds_toArray]
  congr 1
  rw [← pad40_set acc v (by omega), hm]
  simp [intsV, List.map_set]

theorem beq_dec (a b : List UInt8) : (a == b) = decide (a = b) := by by_cases h : a = b <;> simp [h]
theorem or16i (x y : Int) (hx : 0 ≤ x ∧ x < 16) (hy : 0 ≤ y ∧ y < 16) : Go.bits .or .i64 (x * 16) y % 256 = 16 * x + y := by
  obtain ⟨m, rfl⟩ := Int.eq_ofNat_of_zero_le hx.1
  obtain ⟨n, rfl⟩ := Int.eq_ofNat_of_zero_le hy.1
  have := or16 ⟨m, by omega⟩ ⟨n, by omega⟩
  dsimp only at this
  rw [this]; omega
set_option maxHeartbeats 8000000 in
theorem sunb_str (s : ByteArray) (l : List UInt8) (w : World) (hln : l.length = s.size) (hgd : ∀ i (h : i < l.length) (hi : i < s.size), s[i] = l[i]) (htl : s.toList = l) :
    Calls Tryd.prog 16 #[.string s] w fun e w' => ∃ v : Value, e = .returned (.tuple #[v, .bool (unbP l).2]) ∧ Kd.R (Kd.int .u8) 5 w' w.heap.size (fun _ => True) v (unbP l).1 ∧ Below w.heap.size w w' := by
  have hu : unbP l = if l = [45] then (List.replicate 40 0, true) else if l.length % 2 ≠ 0 ∨ 80 < l.length then ([], false) else unbV l [] (pairs l) := by unfold unbP; rfl
  generalize unbP l = U at hu ⊢
  have HU := Lib.hid hu
  have hmk := make40
  have HB0 := Lib.hid ((Below.refl w.heap.size w).alloc (Nat.le_refl _) Z40)
  have HZ : Hid ((w.alloc Z40).heap[w.heap.size]? = some (.cells (intsV (pad40 [])).toArray 5 (0, 0))) := Lib.hid (heap_alloc_new w Z40)
  have HLN := Lib.hid hln
  have HGD := Lib.hid hgd
  have HTL := Lib.hid htl
  clear hu hln hgd htl
  by_cases h1 : l = [45]
  · have q1 : (s.toList == [45]) = true := by rw [HTL.out, h1]; rfl
    have HU1 := Lib.hid (HU.out.trans (if_pos h1))
    clear h1
    go_enter Tryd.func16, Tryd.ntmps16
    go_wp2_with fail
    go_ret2
    refine ⟨_, by rw [HU1.out]; rfl, ?_, HB0.out⟩
    rw [HU1.out]
    exact rowR _ _ _ (List.replicate 40 0) (by simp) (Nat.le_refl _) HZ.out
  · have q1 : (s.toList == [45]) = false := by rw [HTL.out, beq_eq_false_iff_ne]; exact h1
    have HU1 := Lib.hid (HU.out.trans (if_neg h1))
    clear h1
    by_cases hbad : l.length % 2 ≠ 0 ∨ 80 < l.length
    · have HU2 := Lib.hid (HU1.out.trans (if_pos hbad))
      have hb2 : s.size % 2 ≠ 0 ∨ 80 < s.size := by rw [← HLN.out]; exact hbad
      clear hbad
      by_cases h2 : s.size % 2 = 0
      · have h80 : 80 < s.size := by omega
        have q2 : ((s.size : Int) % 2 != 0) = false := by rw [bne_eq_false_iff_eq]; omega
        have q3 : decide (80 < (s.size : Int)) = true := decide_eq_true (by omega)
        clear hb2 h2 h80
        go_enter Tryd.func16, Tryd.ntmps16
        go_wp2_with fail
        go_ret2
        refine ⟨_, by rw [HU2.out]; rfl, ?_, HB0.out⟩
        rw [HU2.out]
        exact Kd.R_nil _ _ _ _ _
      · have q2 : ((s.size : Int) % 2 != 0) = true := by rw [bne_iff_ne]; omega
        clear hb2 h2
        go_enter Tryd.func16, Tryd.ntmps16
        go_wp2_with fail
        go_ret2
        refine ⟨_, by rw [HU2.out]; rfl, ?_, HB0.out⟩
        rw [HU2.out]
        exact Kd.R_nil _ _ _ _ _
    · have HU2 := Lib.hid (HU1.out.trans (if_neg hbad))
      have h80 : s.size ≤ 80 := by rw [← HLN.out]; omega
      obtain ⟨n, hn⟩ : ∃ n, s.size = 2 * n := ⟨s.size / 2, by have := HLN.out; omega⟩
      have q2 : ((s.size : Int) % 2 != 0) = false := by rw [bne_eq_false_iff_eq]; omega
      have q3 : decide (80 < (s.size : Int)) = false := decide_eq_false (by omega)
      have q4 : (s.size : Int) / 2 = (n : Int) := by omega
      have HN := Lib.hid hn
      have hn40 : n ≤ 40 := by omega
      clear hbad h80 hn
      go_enter Tryd.func16, Tryd.ntmps16
      go_wp2_with fail
      go_loopw [24] (fun vi wr => ∃ (m : Nat) (acc : List Int), vi = .int .i64 (m : Int) ∧ m ≤ n ∧ acc.length = m ∧ Hid (InB acc) ∧ Hid (unbV l [] (pairs l) = unbV l acc (pairs (l.drop (2 * m)))) ∧ Hid (wr.heap[w.heap.size]? = some (.cells (intsV (pad40 acc)).toArray 5 (0, 0))) ∧ Hid (Below w.heap.size w wr)) (fun vi _ => n - (intOf vi).toNat)
      case atStart => exact ⟨0, [], rfl, Nat.zero_le _, rfl, Lib.hid (fun x hx => by cases hx), Lib.hid rfl, HZ, HB0⟩
      case round =>
        obtain ⟨m, acc, rfl, hm, hacc, HIN, HV, HBK, HB⟩ := hrel
        rename World => W
        by_cases hlt : m < n
        · have hs1 : 2 * m < s.size := by have := HN.out; omega
          have hs2 : 2 * m + 1 < s.size := by have := HN.out; omega
          have hl1 : 2 * m < l.length := by have := HLN.out; omega
          have hl2 : 2 * m + 1 < l.length := by have := HLN.out; omega
          have hdr : l.drop (2 * m) = s[2 * m] :: s[2 * m + 1] :: l.drop (2 * (m + 1)) := by
            rw [List.drop_eq_getElem_cons hl1, List.drop_eq_getElem_cons hl2, ← HGD.out _ hl1 hs1, ← HGD.out _ hl2 hs2, show 2 * m + 1 + 1 = 2 * (m + 1) by omega]
          have HDR := Lib.hid hdr
          have w1 : IntKind.i64.wrap (2 * (m : Int)) = 2 * (m : Int) := IntWalk.i64_in _ (by omega)
          have w2 : IntKind.i64.wrap (2 * (m : Int) + 1) = 2 * (m : Int) + 1 := IntWalk.i64_in _ (by omega)
          have w3 : (0 : Int) ≤ 2 * (m : Int) := by omega
          have w4 : (0 : Int) ≤ 2 * (m : Int) + 1 := by omega
          have w5 : (2 * (m : Int)).toNat = 2 * m := by omega
          have w6 : (2 * (m : Int) + 1).toNat = 2 * m + 1 := by omega
          have w7 : 2 * (m : Int) < (s.size : Int) := by omega
          have w8 : 2 * (m : Int) + 1 < (s.size : Int) := by omega
          have HC1 := Lib.hid (fun w => (index_any s[2 * m] w).mono fun _ _ h => (⟨h.1, h.2.symm⟩ : _ ∧ _ = w))
          have HC2 := Lib.hid (fun w => (index_any s[2 * m + 1] w).mono fun _ _ h => (⟨h.1, h.2.symm⟩ : _ ∧ _ = w))
          have hb1 := hv_lt s[2 * m]
          have hb2 := hv_lt s[2 * m + 1]
          have hps : 0 ≤ hv s[2 * m] ∧ 0 ≤ hv s[2 * m + 1] → pairs (l.drop (2 * m)) = (pairs (l.drop (2 * (m + 1)))).map (fun r => (16 * hv s[2 * m] + hv s[2 * m + 1]) :: r) := fun h => by rw [hdr]; exact pair_step h
          have hpb : ¬ (0 ≤ hv s[2 * m] ∧ 0 ≤ hv s[2 * m + 1]) → pairs (l.drop (2 * m)) = none := fun h => by rw [hdr]; exact pair_bad h
          generalize hv s[2 * m] = x at HC1 hb1 hps hpb
          generalize hv s[2 * m + 1] = y at HC2 hb2 hps hpb
          have HPS := Lib.hid hps
          have HPB := Lib.hid hpb
          clear hdr hl1 hl2 HDR hps hpb
          by_cases hx : x < 0
          · have HU3 : Hid (U = ([], false)) := Lib.hid (by rw [HU2.out, HV.out, HPB.out (by omega)]; rfl)
            have t1 : decide (x < 0) = true := decide_eq_true hx
            clear hx
            go_wp2_with fail
            go_quiet ((go_at_call 38; first | (with_reducible exact Calls.quiet_of_same (HC1.out _)) | (with_reducible exact Calls.quiet_of_same (HC2.out _))))
            go_wp2_with fail
            go_ret2
            refine ⟨_, by rw [HU3.out]; rfl, ?_, below_trans HB.out (below_drewN' _ _)⟩
            rw [HU3.out]
            exact Kd.R_nil _ _ _ _ _
          · by_cases hy : y < 0
            · have HU3 : Hid (U = ([], false)) := Lib.hid (by rw [HU2.out, HV.out, HPB.out (by omega)]; rfl)
              have t1 : decide (x < 0) = false := decide_eq_false hx
              have t2 : decide (y < 0) = true := decide_eq_true hy
              clear hx hy
              go_wp2_with fail
              go_quiet ((go_at_call 38; first | (with_reducible exact Calls.quiet_of_same (HC1.out _)) | (with_reducible exact Calls.quiet_of_same (HC2.out _))))
              go_wp2_with fail
              go_ret2
              refine ⟨_, by rw [HU3.out]; rfl, ?_, below_trans HB.out (below_drewN' _ _)⟩
              rw [HU3.out]
              exact Kd.R_nil _ _ _ _ _
            · have t1 : decide (x < 0) = false := decide_eq_false hx
              have t2 : decide (y < 0) = false := decide_eq_false hy
              have x0 : 0 ≤ x := by omega
              have y0 : 0 ≤ y := by omega
              have kc : W.cell? ⟨w.heap.size, m, none⟩ = some (.int .u8 0) := by
                rw [blk_cell HBK.out m]
                have : m < (intsV (pad40 acc)).length := by have := pad40_len acc (by omega); simp [intsV]; omega
                rw [List.getElem?_toArray, List.getElem?_eq_getElem this]
                simp only [intsV, List.getElem_map]
                congr 2
                unfold pad40
                rw [List.getElem_append_right (by omega)]; simp
              have kf : W.frozen? ⟨w.heap.size, m, none⟩ = false := blk_frozen HBK.out m
              have g1 : (0 : Int) ≤ (m : Int) := by omega
              have g2 : (m : Int) < 40 := by omega
              go_wp2_with fail
              go_quiet ((go_at_call 38; first | (with_reducible exact Calls.quiet_of_same (HC1.out _)) | (with_reducible exact Calls.quiet_of_same (HC2.out _))))
              go_wp2_with fail
              refine ⟨⟨m + 1, acc ++ [16 * x + y], by go_num, by omega, by rw [List.length_append, hacc]; rfl, Lib.hid ?_, Lib.hid ?_, Lib.hid ?_, Lib.hid ?_⟩, by simp [intOf]; omega⟩
              · intro z hz
                rcases List.mem_append.1 hz with hz | hz
                · exact HIN.out z hz
                · rw [List.mem_singleton.1 hz]; omega
              · rw [HV.out, HPS.out ⟨x0, y0⟩, unbV_step]
              · rw [or16i x y ⟨x0, by omega⟩ ⟨y0, by omega⟩]
                have := blk_set (w := W.drewN nq) HBK.out m (.int .u8 (16 * x + y))
                rw [set40 acc (16 * x + y) m hacc (by omega)] at this
                exact this
              · exact (below_trans HB.out (below_drewN' _ _)).setCell (Nat.le_refl _) _
        · obtain rfl : m = n := by omega
          have h40 := pad40_len acc (by omega)
          have HU3 : Hid (U = if bytesP (pad40 acc) = l then (pad40 acc, true) else ([], false)) := Lib.hid (by
            rw [HU2.out, HV.out, show l.drop (2 * m) = [] by rw [List.drop_eq_nil_iff]; have := HLN.out; have := HN.out; omega]
            show unbV l acc (some []) = _
            unfold unbV; dsimp only; rw [List.append_nil])
          have hin40 := pad40_range acc HIN.out
          have hR := rowR W w.heap.size w.heap.size (pad40 acc) (by omega) (Nat.le_refl _) HBK.out
          have HRW : Hid (RowB W (some ⟨w.heap.size, 0, none⟩) (pad40 acc) 40) := Lib.hid (by
            obtain ⟨A, c, e, hr⟩ := row_of_R hR
            injection e with e1 e2 e3
            rw [e1, ← h40, e3]; exact hr)
          have HSB := Lib.hid (sbytes_any (some ⟨w.heap.size, 0, none⟩) (pad40 acc) 40 W HRW.out hin40 (by omega))
          rw [h40] at HSB hR
          have HRR := Lib.hid hR
          obtain ⟨ev, hev⟩ : ∃ ev, decide (bytesP (pad40 acc) = l) = ev := ⟨_, rfl⟩
          have e1 : (bytesP (pad40 acc) == s.toList) = ev := by rw [HTL.out, ← hev]; exact beq_dec _ _
          have e2 : (bytesP (pad40 acc) != s.toList) = !ev := by rw [bne, e1]
          have HEV := Lib.hid hev
          clear hev hR hin40 h40
          generalize bytesP (pad40 acc) = bt0 at HU3 HSB e1 e2 HEV
          cases ev
          · have HU4 : Hid (U = ([], false)) := Lib.hid (by rw [HU3.out, if_neg (of_decide_eq_false HEV.out)])
            go_wp2_with (go_at_call 18; refine HSB.out.mono ?_; rintro e w2 ⟨rfl, b2⟩)
            go_ret2
            refine ⟨_, by rw [HU4.out]; rfl, ?_, below_trans HB.out b2⟩
            rw [HU4.out]
            exact Kd.R_nil _ _ _ _ _
          · have HU4 : Hid (U = (pad40 acc, true)) := Lib.hid (by rw [HU3.out, if_pos (of_decide_eq_true HEV.out)])
            go_wp2_with (go_at_call 18; refine HSB.out.mono ?_; rintro e w2 ⟨rfl, b2⟩)
            go_ret2
            refine ⟨_, by rw [HU4.out]; rfl, ?_, below_trans HB.out b2⟩
            rw [HU4.out]
            exact Kd.R_below HRR.out b2
theorem sunb_any (s : ByteArray) (w : World) :
    Calls Tryd.prog 16 #[.string s] w fun e w' => ∃ v : Value, e = .returned (.tuple #[v, .bool (unbP s.data.toList).2]) ∧ Kd.R (Kd.int .u8) 5 w' w.heap.size (fun _ => True) v (unbP s.data.toList).1 ∧ Below w.heap.size w w' :=
  sunb_str s s.data.toList w rfl (fun _ _ _ => rfl) (ByteArray.toList_eq s)
end Go.Proofs.YtjjpnmeldgnfeaaDoor
