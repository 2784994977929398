/-
  What an answer's text is; the walk of script.Answer.
-/
import Derived.Test.YtjjpnmeldgnfeaaDoorAw
namespace Go.Proofs.YtjjpnmeldgnfeaaDoor
open Go Go.RowKit Go.Proofs.YtjjpnmeldgnfeaaDoor.PScriptTexts Go.Proofs.YtjjpnmeldgnfeaaDoorW.PrintWords
set_option maxRecDepth 100000

/-- The blocks of an answer's data, each as a word. -/
def chunk (d : List Int) (i : Nat) : List Int := (d.drop (40 * i)).take 40
def chT (d : List Int) (n : Nat) : List (List UInt8) := (List.range n).map fun i => bytesP (chunk d i)
def chN (d : List Int) : Nat := (d.length + 39) / 40
def ansW0 (k : Int) : List UInt8 := if wordL k = [] then [111, 112] else wordL k
/-- The words of an answer's text. -/
def ansW (k cd hh tm : Int) (d : List Int) : List (List UInt8) :=
  if cd ≠ 0 then [ansW0 k, Lib.itoa hh, [101, 114, 114, 111, 114, 32] ++ Lib.itoa cd]
  else if k = 1 ∨ k = 4 then [ansW0 k, Lib.itoa hh, [111, 107]] ++ [[97, 116], Lib.itoa tm]
  else if k = 2 then [ansW0 k, Lib.itoa hh, [111, 107]] ++ chT d (chN d)
  else [ansW0 k, Lib.itoa hh, [111, 107]]
def ansP (k cd hh tm : Int) (d : List Int) : List UInt8 := joinW (ansW k cd hh tm d)
theorem chT_succ (d : List Int) (n : Nat) : chT d (n + 1) = chT d n ++ [bytesP (chunk d n)] := by unfold chT; rw [List.range_succ, List.map_append]; rfl
theorem chT_len (d : List Int) (n : Nat) : (chT d n).length = n := by unfold chT; simp
theorem chunk_len (d : List Int) (i : Nat) : (chunk d i).length ≤ 40 := by unfold chunk; rw [List.length_take]; omega
theorem chunk_in {d : List Int} (h : InB d) (i : Nat) : InB (chunk d i) := fun x hx => h x (List.mem_of_mem_drop (List.mem_of_mem_take hx))
/-- Words behind words. -/
def flW (cs : List (List UInt8)) : List UInt8 := cs.flatMap fun c => 32 :: c
theorem join_more (ws cs : List (List UInt8)) (h : 0 < ws.length) : joinW (ws ++ cs) = joinW ws ++ flW cs := by
  induction cs generalizing ws with
  | nil => simp [flW]
  | cons c r ih =>
    rw [show ws ++ c :: r = (ws ++ [c]) ++ r by simp, ih _ (by simp), join_snoc _ _ h]
    simp [flW]
theorem flW_len (d : List Int) (n : Nat) : (flW (chT d n)).length ≤ 82 * n := by
  induction n with
  | zero => simp [chT, flW]
  | succ n ih =>
    rw [chT_succ]
    unfold flW at ih ⊢
    rw [List.flatMap_append, List.length_append]
    have h1 := bytesP_len (chunk d n)
    have h2 := chunk_len d n
    simp only [List.flatMap_cons, List.flatMap_nil, List.append_nil, List.length_cons]
    omega
/-- A part of a row of bytes. -/
theorem row_part {w : World} {ad : Addr} {l : List Int} {n : Nat} (h : (Kd.int .u8).C w (some ad) n l) (lo m : Nat) : (Kd.int .u8).C w (some (ad.add lo)) ((l.drop lo).take m).length ((l.drop lo).take m) := by
  have hn := h.1
  refine ⟨rfl, by rw [List.length_take, List.length_drop]; have := h.2.1; omega, fun h0 => ⟨ad.add lo, rfl, fun j p hj => ?_⟩⟩
  have hjm : j < m ∧ lo + j < l.length := by
    have := (List.getElem?_eq_some_iff.1 hj).1
    rw [List.length_take, List.length_drop] at this
    omega
  obtain ⟨ad', e, hc⟩ := h.2.2 (by omega)
  injection e with e
  subst e
  have hp : l[lo + j]? = some p := by rw [List.getElem?_take, if_pos hjm.1, List.getElem?_drop] at hj; exact hj
  obtain ⟨c, h1, h2, h3⟩ := hc (lo + j) p hp
  refine ⟨c, h1, h2, fun i u hu => ?_⟩
  have := h3 i u hu
  rw [show (lo + j) * (Kd.int .u8).sz + i = lo + (j * (Kd.int .u8).sz + i) by rw [show (Kd.int .u8).sz = 1 from rfl]; omega] at this
  rw [← this]
  congr 1
  unfold Addr.add
  split <;> split <;> split <;> simp_all <;> omega
/-- The call on one block of the data. -/
theorem part_calls {w : World} {ad : Addr} {d : List Int} {c : Nat} (h : RowB w (some ad) d c) (hm : InB d) (i j : Nat) (hj : j = 40 * i) (hlt : j < d.length) (F : Nat)
    (HF : ∀ (A : Option Addr) (l : List Int) (c : Nat) (w : World), RowB w A l c → InB l → l.length ≤ 1000000 → Calls Tryd.prog F #[.slice A l.length c] w fun e w' => e = .returned (.string (ba (bytesP l))) ∧ Below w.heap.size w w') :
    Calls Tryd.prog F #[.slice (some (ad.add j)) ((min ((j : Int) + 40) (d.length : Int)).toNat - j) (c - j)] w fun e w' => e = .returned (.string (ba (bytesP (chunk d i)))) ∧ Below w.heap.size w w' := by
  have hl : (min ((j : Int) + 40) (d.length : Int)).toNat - j = (chunk d i).length := by
    unfold chunk
    rw [List.length_take, List.length_drop, ← hj]; omega
  rw [hl]
  refine HF _ _ _ _ ⟨?_, ?_⟩ (chunk_in hm i) (by have := chunk_len d i; omega)
  · unfold chunk
    rw [← hj]
    exact row_part h.1 j 40
  · have := h.2
    unfold chunk
    rw [List.length_take, List.length_drop, ← hj]; omega
/-- A block of strings is a row of words. -/
theorem ownS_blk (W : World) (base g : Nat) (ws : List (List UInt8)) (hl : ws.length ≤ 1000000) (hb : base ≤ g) (hblk : W.heap[g]? = some (.cells (strsV ws).toArray 9 (0, 0))) : OwnS W base (.slice (some ⟨g, 0, none⟩) ws.length ws.length) ws :=
  ⟨by simp [strsV], .inr ⟨g, ws.length, (strsV ws).toArray, rfl, hb, hblk, Nat.le_refl _, by unfold maxLen; omega, by simp [strsV], by rw [Nat.mul_one]; exact List.take_of_length_le (by simp [strsV])⟩⟩
/-- The three words. -/
structure An3 (w W : World) (k cd hh tm : Int) (v : Value) (G : Nat) (a b c : List UInt8) : Prop where
  bel : Below (w.heap.size + 1) (w.alloc (.cells #[.int .i64 k, .int .i64 cd, .int .i64 hh, .int .i64 tm, v] 47)) W
  blk : W.heap[G]? = some (.cells #[.string (ba a), .string (ba b), .string (ba c)] 9 (0, 0))
  ge : w.heap.size + 1 ≤ G
theorem An3.below {w W W' : World} {k cd hh tm : Int} {v : Value} {G : Nat} {a b c : List UInt8} (p : An3 w W k cd hh tm v G a b c) (k1 : Below W.heap.size W W') : An3 w W' k cd hh tm v G a b c :=
  ⟨below_next p.bel k1, (k1.block _ (blk_lt p.blk)).trans p.blk, p.ge⟩
theorem An3.set {w W : World} {k cd hh tm : Int} {v : Value} {G : Nat} {a b c : List UInt8} (p : An3 w W k cd hh tm v G a b c) (i : Nat) (u : Value) {a' b' c' : List UInt8}
    (e : (#[Value.string (ba a), .string (ba b), .string (ba c)] : Array Value).setIfInBounds i u = #[.string (ba a'), .string (ba b'), .string (ba c')]) : An3 w (W.setCell ⟨G, i, none⟩ u) k cd hh tm v G a' b' c' :=
  ⟨p.bel.setCell p.ge _, by have := blk_set p.blk i u; rw [e] at this; exact this, p.ge⟩
theorem An3.own {w W : World} {k cd hh tm : Int} {v : Value} {G : Nat} {a b c : List UInt8} (p : An3 w W k cd hh tm v G a b c) : OwnS W (w.heap.size + 1) (.slice (some ⟨G, 0, none⟩) 3 3) [a, b, c] :=
  ownS_blk W _ G [a, b, c] (by simp) p.ge p.blk
theorem An3.cells {w W : World} {k cd hh tm : Int} {v : Value} {G : Nat} {a b c : List UInt8} (p : An3 w W k cd hh tm v G a b c) :
    (W.cell? ⟨G, 0, none⟩ = some (.string (ba a)) ∧ W.cell? ⟨G, 1, none⟩ = some (.string (ba b)) ∧ W.cell? ⟨G, 2, none⟩ = some (.string (ba c))) ∧ (W.frozen? ⟨G, 0, none⟩ = false ∧ W.frozen? ⟨G, 1, none⟩ = false ∧ W.frozen? ⟨G, 2, none⟩ = false) :=
  ⟨⟨by rw [blk_cell p.blk]; rfl, by rw [blk_cell p.blk]; rfl, by rw [blk_cell p.blk]; rfl⟩, blk_frozen p.blk 0, blk_frozen p.blk 1, blk_frozen p.blk 2⟩
theorem An3.box {w W : World} {k cd hh tm : Int} {v : Value} {G : Nat} {a b c : List UInt8} (p : An3 w W k cd hh tm v G a b c) :
    W.cell? ⟨w.heap.size, 0, none⟩ = some (.int .i64 k) ∧ W.cell? ⟨w.heap.size, 1, none⟩ = some (.int .i64 cd) ∧ W.cell? ⟨w.heap.size, 2, none⟩ = some (.int .i64 hh) ∧ W.cell? ⟨w.heap.size, 3, none⟩ = some (.int .i64 tm) ∧ W.cell? ⟨w.heap.size, 4, none⟩ = some v :=
  ⟨box_cell p.bel 0 _ rfl, box_cell p.bel 1 _ rfl, box_cell p.bel 2 _ rfl, box_cell p.bel 3 _ rfl, box_cell p.bel 4 _ rfl⟩
set_option maxHeartbeats 16000000 in
theorem sans_any (k cd hh tm : Int) (A : Option Addr) (d : List Int) (c : Nat) (w : World) (E : Env w) (ic : I64 cd) (ih : I64 hh) (it : I64 tm) (hR : RowB w A d c) (hm : InB d) (hl : d.length ≤ 3000) :
    Calls Tryd.prog 21 #[.agg #[.int .i64 k, .int .i64 cd, .int .i64 hh, .int .i64 tm, .slice A d.length c]] w fun e w' => e = .returned (.string (ba (ansP k cd hh tm d))) ∧ Below w.heap.size w w' := by
  have H1 := Lib.hid (fun w E => itoa_any hh ih.1 ih.2 w E)
  have H2 := Lib.hid (fun w E => itoa_any cd ic.1 ic.2 w E)
  have H3 := Lib.hid (fun w E => itoa_any tm it.1 it.2 w E)
  have l1 := itoa_len hh ih.1 ih.2
  have l2 := itoa_len cd ic.1 ic.2
  have l3 := itoa_len tm it.1 it.2
  have HW := Lib.hid (fun w => word_any k w)
  have HR := Lib.hid hR
  have HM := Lib.hid hm
  have HT : Hid (ansW k cd hh tm d = if cd ≠ 0 then [ansW0 k, Lib.itoa hh, [101, 114, 114, 111, 114, 32] ++ Lib.itoa cd] else if k = 1 ∨ k = 4 then [ansW0 k, Lib.itoa hh, [111, 107]] ++ [[97, 116], Lib.itoa tm] else if k = 2 then [ansW0 k, Lib.itoa hh, [111, 107]] ++ chT d (chN d) else [ansW0 k, Lib.itoa hh, [111, 107]]) := Lib.hid rfl
  obtain ⟨w0, hw0⟩ : ∃ x, ansW0 k = x := ⟨_, rfl⟩
  have HW0 : Hid ((wordL k = [] → w0 = [111, 112]) ∧ (wordL k ≠ [] → w0 = wordL k)) := Lib.hid ⟨fun e => by rw [← hw0, ansW0, if_pos e], fun e => by rw [← hw0, ansW0, if_neg e]⟩
  rw [hw0] at HT
  have HWL : Hid (w0.length ≤ 10) := Lib.hid (by
    rw [← hw0]; unfold ansW0 wordL
    repeat' split
    all_goals simp)
  unfold ansP
  generalize Lib.itoa hh = i1 at H1 l1 HT
  generalize Lib.itoa cd = i2 at H2 l2 HT
  generalize Lib.itoa tm = i3 at H3 l3 HT
  generalize ansW k cd hh tm d = aw at HT
  generalize wordL k = wk at HW HW0
  clear hw0 hR hm ic ih it
  go_enter Tryd.func21, Tryd.ntmps21
  go_upto_region 1 with fail
  go_cut [3] (fun s3 wx => ∃ G, s3 = .slice (some ⟨G, 0, none⟩) 3 3 ∧ Hid (An3 w wx k cd hh tm (.slice A d.length c) G wk i1 [111, 107]))
  case first => as_aux_lemma =>
    have B0 : Hid (Below (w.heap.size + 1) (w.alloc (.cells #[.int .i64 k, .int .i64 cd, .int .i64 hh, .int .i64 tm, .slice A d.length c] 47)) (w.alloc (.cells #[.int .i64 k, .int .i64 cd, .int .i64 hh, .int .i64 tm, .slice A d.length c] 47)).drew) := Lib.hid (Below.refl _ _).drew
    have k00 := box_cell (Below.refl (w.heap.size + 1) (w.alloc (.cells #[.int .i64 k, .int .i64 cd, .int .i64 hh, .int .i64 tm, .slice A d.length c] 47))) 0 (.int .i64 k) (by rfl)
    have k02 := box_cell (Below.refl (w.heap.size + 1) (w.alloc (.cells #[.int .i64 k, .int .i64 cd, .int .i64 hh, .int .i64 tm, .slice A d.length c] 47))) 2 (.int .i64 hh) (by rfl)
    go_region_held3 (fun w' => w'.cell? ⟨w.heap.size, 0, none⟩ = some (.int .i64 k) ∧ w'.cell? ⟨w.heap.size, 2, none⟩ = some (.int .i64 hh)) (go_keep)
      (first
        | (go_at_call 28; refine (HW.out _).mono ?_; rintro e w' ⟨rfl, rfl⟩)
        | (go_at_call 34; refine (H1.out _ (E.below (below_up B0.out))).mono ?_; rintro e w2 ⟨rfl, b2⟩; have B2 := Lib.hid (below_next B0.out b2); have k20 := box_cell B2.out 0 (.int .i64 k) (by rfl); have k22 := box_cell B2.out 2 (.int .i64 hh) (by rfl); clear b2))
    all_goals
      go_wp2_with fail
      go_meet
      exact ⟨_, rfl, Lib.hid ⟨B2.out.alloc (by have := B2.out.size; simpa using this) _, heap_alloc_new _ _, by have := B2.out.size; simpa using this⟩⟩
  case rest => as_aux_lemma =>
    obtain ⟨G, rfl, P0⟩ := hcut
    obtain ⟨eb, heb⟩ : ∃ b, wk.isEmpty = b := ⟨_, rfl⟩
    obtain ⟨⟨g0, g1, g2⟩, ⟨f0, f1, f2⟩⟩ := P0.out.cells
    go_upto_if 15 with fail
    go_cut [14] (fun _ wx => Hid (An3 w wx k cd hh tm (.slice A d.length c) G w0 i1 [111, 107]))
    case first => as_aux_lemma =>
      have HEB := Lib.hid heb
      clear heb
      cases eb
      · obtain rfl := HW0.out.2 (by rintro rfl; cases HEB.out)
        go_wp2_with fail
        go_meet
        exact P0
      · obtain rfl := HW0.out.1 (List.isEmpty_iff.1 HEB.out)
        go_wp2_with fail
        go_meet
        exact Lib.hid (P0.out.set 0 _ rfl)
    case rest => as_aux_lemma =>
      clear g0 g1 g2 f0 f1 f2 P0 HW HW0 heb H1
      obtain ⟨q0, q1, q2, q3, q4⟩ := hcut.out.box
      obtain ⟨⟨g0, g1, g2⟩, ⟨f0, f1, f2⟩⟩ := hcut.out.cells
      have P1 := hcut
      clear hcut
      have BU := Lib.hid (below_up P1.out.bel)
      by_cases hcd : cd = 0
      · have e0 : (cd != 0) = false := by rw [hcd]; rfl
        by_cases hk1 : k = 1 ∨ k = 4
        · have HTA : Hid (aw = [w0, i1, [111, 107]] ++ [[97, 116], i3]) := Lib.hid (by rw [HT.out, if_neg (fun h => h hcd), if_pos hk1])
          have HJ : Hid ((joinW ([w0, i1, [111, 107]] ++ [[97, 116], i3])).length ≤ 100000000) := Lib.hid (by have := HWL.out; simp [joinW]; omega)
          clear hcd HT
          rcases hk1 with rfl | rfl
          all_goals
            go_wp2_with (first
              | (go_at_call 34; refine (H3.out _ (E.below BU.out)).mono ?_; rintro e w2 ⟨rfl, b2⟩; have P2 := Lib.hid (P1.out.below b2); clear b2)
              | (at_builtin; refine list_app (w.heap.size + 1) (by rfl) _ _ (by rfl) _ [w0, i1, [111, 107]] [[97, 116], i3] _ (by rfl) (by rfl) (by rfl) P2.out.own P2.out.bel (by have := P2.out.bel.size; simpa using this) (by simp) ?_; intro v3 w3 hown hb3 _; have O3 := Lib.hid hown; have B3 := Lib.hid hb3; clear hown hb3)
              | (go_at_call 35; refine (join_any _ _ _ _ O3.out (by simp) (by simp) HJ.out).mono ?_; rintro e w4 ⟨rfl, b4⟩; have B4 := Lib.hid (below_next B3.out b4); clear b4))
            go_ret
            exact ⟨by rw [HTA.out]; rfl, below_up B4.out⟩
        · have q1' : (k == 1) = false := by rw [beq_eq_false_iff_ne]; exact fun h => hk1 (.inl h)
          have q4' : (k == 4) = false := by rw [beq_eq_false_iff_ne]; exact fun h => hk1 (.inr h)
          by_cases hk2 : k = 2
          · subst hk2
            have HTA : Hid (aw = [w0, i1, [111, 107]] ++ chT d (chN d)) := Lib.hid (by rw [HT.out, if_neg (fun h => h hcd), if_neg hk1, if_pos rfl])
            have HCN : Hid (chN d = (d.length + 39) / 40) := Lib.hid rfl
            have HJ : Hid ((joinW ([w0, i1, [111, 107]] ++ chT d (chN d))).length ≤ 100000000) := Lib.hid (by
              have h1 := HWL.out
              have h2 := flW_len d (chN d)
              have h3 := HCN.out
              rw [join_more _ _ (by simp), List.length_append]
              simp [joinW]; omega)
            have OW := Lib.hid P1.out.own
            have B1 := Lib.hid P1.out.bel
            clear hcd HT hk1 q1' q4' g0 g1 g2 f0 f1 f2 P1 BU
            go_wp2_with fail
            clear q0 q1 q2 q3 q4 e0
            go_loopw [3, 4] (fun vs vi wr => ∃ i j : Nat, j ≤ 3040 ∧ vi = .int .i64 (j : Int) ∧ Hid (j = 40 * i ∧ i ≤ chN d) ∧ Hid (OwnS wr (w.heap.size + 1) vs ([w0, i1, [111, 107]] ++ chT d i)) ∧ Hid (Below (w.heap.size + 1) (w.alloc (.cells #[.int .i64 2, .int .i64 cd, .int .i64 hh, .int .i64 tm, .slice A d.length c] 47)) wr)) (fun _ vi _ => d.length + 40 - (intOf vi).toNat)
            case atStart => exact ⟨0, 0, by omega, rfl, Lib.hid ⟨rfl, Nat.zero_le _⟩, Lib.hid (by rw [show chT d 0 = [] from rfl, List.append_nil]; exact OW.out), B1⟩
            case round =>
              clear OW B1
              obtain ⟨i, j, hj, rfl, HI, HO, HB⟩ := hrel
              rename World => W
              have q4 := box_cell HB.out 4 (.slice A d.length c) (by rfl)
              by_cases hlt : j < d.length
              · obtain ⟨ad, hA, -⟩ := row_cell (HR.out.below (below_up HB.out)).1 j hlt
                subst hA
                have hcap := HR.out.2
                have hij := HI.out
                have hcn := HCN.out
                have HCH := Lib.hid (part_calls (HR.out.below (below_up HB.out)) HM.out i j hij.1 hlt 18 sbytes_any)
                have HSU := Lib.hid (chT_succ d i)
                have HI2 : Hid (j + 40 = 40 * (i + 1) ∧ i + 1 ≤ chN d) := Lib.hid ⟨by omega, by omega⟩
                have HLE : Hid (([w0, i1, [111, 107]] ++ chT d i).length ≤ 10000) := Lib.hid (by rw [List.length_append, chT_len]; simp; omega)
                clear hij hcn HI
                generalize bytesP (chunk d i) = cb at HCH HSU
                go_wp2_with (first
                  | (go_at_call 18; refine HCH.out.mono ?_; rintro e w2 ⟨rfl, b2⟩; have O2 := Lib.hid (HO.out.below b2); have B2 := Lib.hid (below_next HB.out b2); clear b2)
                  | (at_builtin; refine list_app (w.heap.size + 1) (by rfl) _ _ (by rfl) _ ([w0, i1, [111, 107]] ++ chT d i) [cb] _ (by rfl) (by rfl) (by rfl) O2.out B2.out (by have := B2.out.size; simpa using this) (by have := HLE.out; simp only [List.length_singleton]; omega) ?_; intro v3 w3 hown hb3 _; have O3 := Lib.hid hown; have B3 := Lib.hid hb3; clear hown hb3))
                go_roundw
                case rel => exact ⟨i + 1, j + 40, by omega, by go_num, HI2, Lib.hid (by rw [HSU.out, ← List.append_assoc]; exact O3.out), B3⟩
                case measure => simp [intOf]; omega
              · have hij := HI.out
                have hcn := HCN.out
                obtain rfl : i = chN d := by omega
                clear hij hcn HI
                go_wp2_with (go_at_call 35; refine (join_any _ _ _ _ HO.out (by simp) (by rw [List.length_append, chT_len]; have := HCN.out; simp; omega) HJ.out).mono ?_; rintro e w4 ⟨rfl, b4⟩; have B4 := Lib.hid (below_next HB.out b4); clear b4)
                go_ret
                exact ⟨by rw [HTA.out]; rfl, below_up B4.out⟩
          · have q2' : (k == 2) = false := by rw [beq_eq_false_iff_ne]; exact hk2
            have HTA : Hid (aw = [w0, i1, [111, 107]]) := Lib.hid (by rw [HT.out, if_neg (fun h => h hcd), if_neg hk1, if_neg hk2])
            have HJ : Hid ((joinW [w0, i1, [111, 107]]).length ≤ 100000000) := Lib.hid (by have := HWL.out; simp [joinW]; omega)
            clear hcd HT hk1 hk2
            go_wp2_with (go_at_call 35; refine (join_any _ _ _ _ P1.out.own (by simp) (by simp) HJ.out).mono ?_; rintro e w4 ⟨rfl, b4⟩; have B4 := Lib.hid (below_next P1.out.bel b4); clear b4)
            go_ret
            exact ⟨by rw [HTA.out]; rfl, below_up B4.out⟩
      · have e0 : (cd != 0) = true := by rw [bne_iff_ne]; exact hcd
        have HTA : Hid (aw = [w0, i1, [101, 114, 114, 111, 114, 32] ++ i2]) := Lib.hid (by rw [HT.out, if_pos hcd])
        have HJ : Hid ((joinW [w0, i1, [101, 114, 114, 111, 114, 32] ++ i2]).length ≤ 100000000) := Lib.hid (by have := HWL.out; simp [joinW]; omega)
        clear hcd HT
        have hp := hap
        go_wp2_with (first
          | (go_at_call 34; refine (H2.out _ (E.below BU.out)).mono ?_; rintro e w2 ⟨rfl, b2⟩; clear g0 g1 g2 f0 f1 f2; have P2 := Lib.hid (P1.out.below b2); obtain ⟨⟨g0, g1, g2⟩, ⟨f0, f1, f2⟩⟩ := P2.out.cells; have P3 : Hid (An3 w (w2.setCell ⟨G, 2, none⟩ (.string (ba ([101, 114, 114, 111, 114, 32] ++ i2)))) k cd hh tm (.slice A d.length c) G w0 i1 ([101, 114, 114, 111, 114, 32] ++ i2)) := Lib.hid (P2.out.set 2 _ rfl); clear b2)
          | (go_at_call 35; refine (join_any _ _ _ _ P3.out.own (by simp) (by simp) HJ.out).mono ?_; rintro e w4 ⟨rfl, b4⟩; have B4 := Lib.hid (below_next P3.out.bel b4); clear b4))
        go_ret
        exact ⟨by rw [HTA.out]; rfl, below_up B4.out⟩
end Go.Proofs.YtjjpnmeldgnfeaaDoor
