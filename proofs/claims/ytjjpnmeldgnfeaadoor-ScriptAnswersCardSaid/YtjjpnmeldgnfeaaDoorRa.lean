/-
  The reference's Parse: its blocks.
-/
import Derived.Test.YtjjpnmeldgnfeaaDoorCo
import Derived.Test.YtjjpnmeldgnfeaaDoorPb
namespace Go.Proofs.YtjjpnmeldgnfeaaDoor
open Go Go.RowKit Go.Proofs.YtjjpnmeldgnfeaaDoor.PScriptTexts Go.Proofs.YtjjpnmeldgnfeaaDoorW.PrintWords
set_option maxRecDepth 100000

theorem words_of {W : World} {b : Nat} {v : Value} {ws : List (List UInt8)} (h : Kd.R Kd.string 9 W b (fun _ => True) v (ws.map ba)) (h0 : 0 < ws.length) :
    ∃ g c, v = .slice (some ⟨g, 0, none⟩) ws.length c ∧ b ≤ g ∧ g < W.heap.size ∧ ws.length ≤ c ∧ ∀ (j : Nat) (x : List UInt8), ws[j]? = some x → W.cell? ⟨g, j, none⟩ = some (.string (ba x)) := by
  have hb := Kd.R_bound h
  obtain ⟨A, c, rfl, hc, hC⟩ := Kd.R_reads h
  rw [List.length_map] at hc hC
  obtain ⟨ad, _, rfl, _, _, _⟩ := Kd.C_get hC ByteArray.empty 0 (Int.le_refl 0) (by omega)
  obtain ⟨g, rfl⟩ := Kd.R_head h
  obtain ⟨_, b1, b2, _⟩ := hb.1 g rfl
  refine ⟨g, c, by rw [List.length_map], b1, b2, hc, fun j x hj => ?_⟩
  have hlt : j < ws.length := (List.getElem?_eq_some_iff.1 hj).1
  obtain ⟨ad, cs, e, _, hK, hcell⟩ := Kd.C_get hC ByteArray.empty (j : Int) (by omega) (by omega)
  injection e with e
  subst e
  have hK2 : cs = [Value.string ((ws.map ba).getD (j : Int).toNat ByteArray.empty)] := hK
  have := hcell 0 (.string ((ws.map ba).getD (j : Int).toNat ByteArray.empty)) (by rw [hK2]; rfl)
  have e1 : (⟨g, 0, none⟩ : Addr).add ((j : Int).toNat * Kd.string.sz + 0) = ⟨g, j, none⟩ := by
    rw [show Kd.string.sz = 1 from rfl, Int.toNat_natCast, Nat.mul_one, Nat.add_zero]
    simp [Addr.add]; omega
  rw [e1] at this
  rw [this, Int.toNat_natCast, List.getD_eq_getElem?_getD, List.getElem?_map, hj]; rfl
/-- The blocks of the reference's Parse: the result's, the words', the op's. -/
structure RP (w W : World) (B g : Nat) (ws : List (List UInt8)) (k h lba len : Int) (v : Value) : Prop where
  res : W.heap[w.heap.size]? = some (.cells #[.int .i64 0, .int .i64 0, .int .i64 0, .int .i64 0, .slice none 0 0] 24 (0, 0))
  wd : ∀ (j : Nat) (x : List UInt8), ws[j]? = some x → W.cell? ⟨g, j, none⟩ = some (.string (ba x))
  op : W.heap[B]? = some (.cells #[.int .i64 k, .int .i64 h, .int .i64 lba, .int .i64 len, v] 24 (0, 0))
  bel : Below w.heap.size w W
  g0 : w.heap.size < g
  gB : g < B
theorem RP.lt {w W : World} {B g : Nat} {ws : List (List UInt8)} {k h lba len : Int} {v : Value} (p : RP w W B g ws k h lba len v) : B < W.heap.size := blk_lt p.op
theorem RP.below {w W W' : World} {B g : Nat} {ws : List (List UInt8)} {k h lba len : Int} {v : Value} (p : RP w W B g ws k h lba len v) (b : Below (B + 1) W W') : RP w W' B g ws k h lba len v := by
  have hl := p.lt
  have h0 := p.g0
  have h1 := p.gB
  exact ⟨(b.block _ (by omega)).trans p.res, fun j x hj => by rw [← p.wd j x hj]; exact World.cell?_of_block (b.block _ (by dsimp only; omega)), (b.block _ (by omega)).trans p.op, p.bel.trans (b.mono (by omega)), h0, h1⟩
theorem RP.belowN {w W W' : World} {B g : Nat} {ws : List (List UInt8)} {k h lba len : Int} {v : Value} (p : RP w W B g ws k h lba len v) (b : Below W.heap.size W W') : RP w W' B g ws k h lba len v := p.below (b.mono p.lt)
theorem RP.setOp {w W : World} {B g : Nat} {ws : List (List UInt8)} {k h lba len : Int} {v : Value} (p : RP w W B g ws k h lba len v) (i : Nat) (u : Value) {k' h' lba' len' : Int} {v' : Value}
    (e : (#[Value.int .i64 k, .int .i64 h, .int .i64 lba, .int .i64 len, v] : Array Value).setIfInBounds i u = #[.int .i64 k', .int .i64 h', .int .i64 lba', .int .i64 len', v']) :
    RP w (W.setCell ⟨B, i, none⟩ u) B g ws k' h' lba' len' v' := by
  have hk : Keep W (W.setCell ⟨B, i, none⟩ u) B := Keep.set W _ i _
  have hl := p.lt
  have h0 := p.g0
  have h1 := p.gB
  exact ⟨(hk.block _ (by omega) (by omega)).trans p.res, fun j x hj => by rw [← p.wd j x hj]; exact World.cell?_of_block (hk.block _ (by dsimp only; omega) (by dsimp only; omega)), by rw [← e]; exact blk_set p.op i u, p.bel.setCell (by dsimp only; omega) _, h0, h1⟩
theorem kindOf_word (x : List UInt8) (i : Nat) (h1 : 1 ≤ i) (h : kindOf x = i) : x = wordL (i : Int) := by
  unfold kindOf at h
  split at h
  · rename_i e; subst h; exact e.symm
  · split at h
    · rename_i e; subst h; exact e.symm
    · split at h
      · rename_i e; subst h; exact e.symm
      · split at h
        · rename_i e; subst h; exact e.symm
        · split at h
          · rename_i e; subst h; exact e.symm
          · omega
theorem kindOf_dec (x : List UInt8) (i : Nat) (h1 : 1 ≤ i) (h5 : i ≤ 5) : decide (x = wordL (i : Int)) = decide (kindOf x = i) := by
  by_cases h : kindOf x = i
  · have := kindOf_word x i h1 h
    rw [decide_eq_true h, decide_eq_true this]
  · rw [decide_eq_false h, decide_eq_false]
    rintro rfl
    apply h
    obtain rfl | rfl | rfl | rfl | rfl : i = 1 ∨ i = 2 ∨ i = 3 ∨ i = 4 ∨ i = 5 := by omega
    all_goals decide
/-- The kind that has been found when i words have been looked at. -/
def kUp (K i : Nat) : Nat := if K < i then K else 0
theorem kUp_no {K i : Nat} (h : K ≠ i) : kUp K (i + 1) = kUp K i := by unfold kUp; split <;> split <;> omega
theorem kUp_hit {K i : Nat} (h : K = i) : ((kUp K (i + 1) : Nat) : Int) = (i : Int) := by unfold kUp; rw [if_pos (by omega), h]
theorem ret12 (w : World) (a : Act) (W : World) (b : Nat) (o : OpD) (A : Option Addr) (cap : Nat) (c : Int) (ro : OpD) (rc : Int) (ho : ro = o) (hrc : rc = c) (hb : W.heap[b]? = some (.cells #[.int .i64 o.k, .int .i64 o.h, .int .i64 o.lba, .int .i64 o.len, .slice A o.l.length cap] 24 (0, 0)))
    (h2 : a.tmps[2]?.getD undef = .pointer (some ⟨b, 0, none⟩)) (h3 : a.tmps[3]?.getD undef = .int .i64 c) (hbel : Below w.heap.size w W) (hC : Kd.C k42 W A o.l.length o.l) (hcap : o.l.length ≤ cap) (hd : a.defers = [] := by rfl) :
    bodyPost Tryd.prog Tryd.f12 (fun e w' => OpIs w w' e ro rc) Exit.ret a W := by
  subst ho hrc
  obtain ⟨⟨c0, c1, c2, c3, c4⟩, _⟩ := five hb
  refine bodyPost_ret (v := .tuple #[.agg #[.int .i64 ro.k, .int .i64 ro.h, .int .i64 ro.lba, .int .i64 ro.len, .slice A ro.l.length cap], .int .i64 rc]) (by simp [results, Tryd.results12, go_sem, h2, h3, c0, c1, c2, c3, c4]) hd ⟨A, cap, rfl, hC, hcap, hbel⟩
/-- A refusal. -/
theorem ret12_bad {w W : World} {B g : Nat} {ws : List (List UInt8)} {k h lba len : Int} {v : Value} (p : RP w W B g ws k h lba len v) (a : Act) (ro : OpD) (rc : Int) (hn : ro = ⟨0, 0, 0, 0, []⟩ ∧ rc = 13)
    (h2 : a.tmps[2]?.getD undef = .pointer (some ⟨w.heap.size, 0, none⟩)) (h3 : a.tmps[3]?.getD undef = .int .i64 13) (hd : a.defers = [] := by rfl) :
    bodyPost Tryd.prog Tryd.f12 (fun e w' => OpIs w w' e ro rc) Exit.ret a (((((W.setCell ⟨w.heap.size, 0, none⟩ (.int .i64 0)).setCell ⟨w.heap.size, 1, none⟩ (.int .i64 0)).setCell ⟨w.heap.size, 2, none⟩ (.int .i64 0)).setCell ⟨w.heap.size, 3, none⟩ (.int .i64 0)).setCell ⟨w.heap.size, 4, none⟩ (.slice none 0 0)) := by
  refine ret12 w a _ _ ⟨0, 0, 0, 0, []⟩ none 0 13 ro rc hn.1 hn.2 (store5 p.res _ _ _ _ _) h2 h3 ?_ (C_nil42 _) (Nat.le_refl _) hd
  repeat (refine Below.setCell ?_ (by dsimp only; omega) _)
  exact p.bel
/-- Is there a range? -/
def hasL (K : Nat) (r : List (List UInt8)) : Bool := K == 2 && r.length == 3
theorem hasL_no {K : Nat} {r : List (List UInt8)} (h : hasL K r = false) : laR K r = ((0, 0), true) := by
  unfold laR
  by_cases h1 : K = 2
  · rw [if_pos h1]
    match r, h with
    | [], _ => rfl
    | [_], _ => rfl
    | [_, _], _ => rfl
    | [a, b, c], h => simp [hasL, h1] at h
    | _ :: _ :: _ :: _ :: _, _ => rfl
  · rw [if_neg h1]
theorem hasL_yes {K : Nat} {r : List (List UInt8)} (h : hasL K r = true) : K = 2 ∧ ∃ a b c, r = [a, b, c] := by
  unfold hasL at h
  rw [Bool.and_eq_true] at h
  refine ⟨by simpa using h.1, ?_⟩
  match r, h.2 with
  | [a, b, c], _ => exact ⟨a, b, c, rfl⟩
theorem rdR_len : ∀ (ws : List (List UInt8)) (l : List S42), rdR ws = some l → l.length ≤ ws.length
  | [], l, h => by injection h with h; subst h; simp
  | [_], l, h => by injection h with h; subst h; simp
  | a :: d :: r, l, h => by
    rw [rdR] at h
    split at h
    · cases h3 : rdR r with
      | none => rw [h3] at h; cases h
      | some l' =>
        rw [h3] at h
        injection h with h; subst h
        have := rdR_len r l' h3
        simp; omega
    · cases h
theorem lenSum_40 : ∀ (l : List S42), PutsC l → lenSum l = 40 * l.length
  | [], _ => rfl
  | p :: r, h => by
    have h1 := (h p (by simp)).2.2
    have h2 := lenSum_40 r (fun q hq => h q (by simp [hq]))
    simp only [lenSum, List.map_cons, List.sum_cons, List.length_cons] at *
    omega
theorem i64_of {n : Int} (h : In40 n) : I64 n := ⟨by have := h.1; omega, by have := h.2; omega⟩
theorem refO_ok (ws : List (List UInt8)) (o : OpD) (h : refO ws = some o) (hk : o.k ≠ 0) (hl : ws.length ≤ 3001) : I64 o.h ∧ I64 o.lba ∧ I64 o.len ∧ PutsOk o.l ∧ o.l.length + lenSum o.l ≤ 200000 := by
  have hc := refO_C ws o h hk
  have hlen : o.l.length ≤ 3001 := by
    match ws, h with
    | [], h => cases h
    | x :: r, h =>
      unfold refO at h
      dsimp only at h
      split at h
      · cases hp : puR (kindOf x) r with
        | none => rw [hp] at h; cases h
        | some l =>
          rw [hp] at h
          injection h with h; subst h
          unfold puR at hp
          split at hp
          · have := rdR_len _ _ hp
            rw [List.length_tail] at this
            rw [List.length_cons] at hl
            dsimp only; omega
          · injection hp with hp; subst hp; simp
      · cases h
  have z : I64 0 := i64_of in40_zero
  have n : PutsOk [] := fun p hp => by cases hp
  cases hc with
  | begin => exact ⟨z, z, z, n, by simp [lenSum]⟩
  | read a b c h1 h2 h3 => exact ⟨i64_of h1, i64_of h2, i64_of h3, n, by simp [lenSum]⟩
  | write a l h1 hp => exact ⟨i64_of h1, z, z, fun p hq => ⟨i64_of (hp p hq).1, (hp p hq).2.1⟩, by rw [lenSum_40 l hp]; dsimp only at hlen ⊢; omega⟩
  | commit a h1 => exact ⟨i64_of h1, z, z, n, by simp [lenSum]⟩
  | abort a h1 => exact ⟨i64_of h1, z, z, n, by simp [lenSum]⟩
/-- The row of puts that the reference makes. -/
abbrev PutsB (B : Nat) (W : World) (v : Value) (l : List S42) : Prop := Kd.R k42 42 W (B + 1) (fun k => B < k) v l
/-- Is there a handle? -/
def hasH (K : Nat) (r : List (List UInt8)) : Bool := !(K == 1) && !r.isEmpty
theorem hasH_no {K : Nat} {r : List (List UInt8)} (h : hasH K r = false) : hR K r = (0, true) := by
  unfold hR
  by_cases h1 : K = 1
  · rw [if_pos h1]
  · rw [if_neg h1]
    cases r with
    | nil => rfl
    | cons a t => simp [hasH, h1] at h
theorem hasH_yes {K : Nat} {r : List (List UInt8)} (h : hasH K r = true) : ∃ a t, r = a :: t ∧ K ≠ 1 := by
  cases r with
  | nil => simp [hasH] at h
  | cons a t => exact ⟨a, t, rfl, by rintro rfl; simp [hasH] at h⟩
theorem hR_cons (K : Nat) (a : List UInt8) (t : List (List UInt8)) (h : K ≠ 1) : hR K (a :: t) = numR a := by unfold hR; rw [if_neg h]
theorem bad_of {ro : OpD} {rc : Int} {s : List UInt8} {ws : List (List UInt8)} (h : (ro, rc) = match refO ws with | none => (⟨0, 0, 0, 0, []⟩, 13) | some o => if o.k ≠ 0 ∧ textO o = s then (o, 0) else (⟨0, 0, 0, 0, []⟩, 13)) (hn : refO ws = none) : ro = ⟨0, 0, 0, 0, []⟩ ∧ rc = 13 := by
  rw [hn] at h
  exact ⟨congrArg Prod.fst h, congrArg Prod.snd h⟩
/-- The world in which the words are looked at. -/
theorem rp_init (w w1 : World) (b1 : Below (w.alloc (.cells #[.int .i64 0, .int .i64 0, .int .i64 0, .int .i64 0, .slice none 0 0] 24)).heap.size (w.alloc (.cells #[.int .i64 0, .int .i64 0, .int .i64 0, .int .i64 0, .slice none 0 0] 24)) w1)
    (g : Nat) (ws : List (List UInt8)) (hg : (w.alloc (.cells #[.int .i64 0, .int .i64 0, .int .i64 0, .int .i64 0, .slice none 0 0] 24)).heap.size ≤ g) (hg1 : g < w1.heap.size) (hw : ∀ (j : Nat) (x : List UInt8), ws[j]? = some x → w1.cell? ⟨g, j, none⟩ = some (.string (ba x))) :
    RP w (w1.alloc (.cells #[.int .i64 0, .int .i64 0, .int .i64 0, .int .i64 0, .slice none 0 0] 24)) w1.heap.size g ws 0 0 0 0 (.slice none 0 0) := by
  have c1 : (w.alloc (.cells #[.int .i64 0, .int .i64 0, .int .i64 0, .int .i64 0, .slice none 0 0] 24)).heap[w.heap.size]? = some (.cells #[.int .i64 0, .int .i64 0, .int .i64 0, .int .i64 0, .slice none 0 0] 24 (0, 0)) := heap_alloc_new w _
  have e01 : Below w.heap.size w (w.alloc (.cells #[.int .i64 0, .int .i64 0, .int .i64 0, .int .i64 0, .slice none 0 0] 24)) := (Below.refl _ _).alloc (Nat.le_refl _) _
  have s1 : (w.alloc (.cells #[.int .i64 0, .int .i64 0, .int .i64 0, .int .i64 0, .slice none 0 0] 24)).heap.size = w.heap.size + 1 := by simp
  generalize w.alloc (.cells #[.int .i64 0, .int .i64 0, .int .i64 0, .int .i64 0, .slice none 0 0] 24) = wa at *
  have c2 : (w1.alloc (.cells #[.int .i64 0, .int .i64 0, .int .i64 0, .int .i64 0, .slice none 0 0] 24)).heap[w1.heap.size]? = some (.cells #[.int .i64 0, .int .i64 0, .int .i64 0, .int .i64 0, .slice none 0 0] 24 (0, 0)) := heap_alloc_new w1 _
  have e12 : Below w1.heap.size w1 (w1.alloc (.cells #[.int .i64 0, .int .i64 0, .int .i64 0, .int .i64 0, .slice none 0 0] 24)) := (Below.refl _ _).alloc (Nat.le_refl _) _
  have hs := b1.size
  refine ⟨(e12.block _ (by omega)).trans ((b1.block _ (by omega)).trans c1), fun j x hj => ?_, c2, (e01.trans (b1.mono (by omega))).trans (e12.mono (by omega)), by omega, hg1⟩
  rw [← hw j x hj]
  exact World.cell?_of_block (e12.block _ hg1)

/-- The reference's loop over the puts. -/
def RI (K : Nat) (r : List (List UInt8)) (m : Nat) (l : List S42) : Prop :=
  (K = 3 → rdR r.tail = (rdR (r.drop (1 + 2 * m))).map (l ++ ·)) ∧ (K ≠ 3 → l = []) ∧ l.length = m
theorem ri_0 (K : Nat) (r : List (List UInt8)) : RI K r 0 [] := by
  refine ⟨fun _ => ?_, fun _ => rfl, rfl⟩
  rw [show r.drop (1 + 2 * 0) = r.tail by simp]
  cases rdR r.tail <;> rfl
theorem drop_two {r : List (List UInt8)} {n : Nat} (h : n + 2 ≤ r.length) : ∃ a d, r[n]? = some a ∧ r[n + 1]? = some d ∧ r.drop n = a :: d :: r.drop (n + 2) := by
  refine ⟨r[n], r[n + 1], List.getElem?_eq_getElem (by omega), List.getElem?_eq_getElem (by omega), ?_⟩
  rw [List.drop_eq_getElem_cons (show n < r.length by omega), List.drop_eq_getElem_cons (show n + 1 < r.length by omega)]
theorem ri_step {r : List (List UInt8)} {m : Nat} {l : List S42} {a d : List UInt8} (h : RI 3 r m l) (hd : r.drop (1 + 2 * m) = a :: d :: r.drop (1 + 2 * m + 2)) {n : Int} {bs : List Int} (h1 : numR a = (n, true)) (h2 : unbP d = (bs, true)) :
    RI 3 r (m + 1) (l ++ [⟨n, bs⟩]) := by
  obtain ⟨e1, _, e3⟩ := h
  refine ⟨fun _ => ?_, fun h => absurd rfl h, by rw [List.length_append, e3]; rfl⟩
  rw [e1 rfl, hd, rdR, h1, h2, if_pos ⟨rfl, rfl⟩, show 1 + 2 * m + 2 = 1 + 2 * (m + 1) by omega]
  cases rdR (r.drop (1 + 2 * (m + 1))) with
  | none => rfl
  | some q => simp
theorem ri_bad {r : List (List UInt8)} {m : Nat} {l : List S42} {a d : List UInt8} (h : RI 3 r m l) (hd : r.drop (1 + 2 * m) = a :: d :: r.drop (1 + 2 * m + 2)) (hb : ((numR a).2 && (unbP d).2) = false) : puR 3 r = none := by
  unfold puR
  rw [if_pos rfl, h.1 rfl, hd, rdR, if_neg]
  · rfl
  · rintro ⟨h1, h2⟩
    rw [h1, h2] at hb; cases hb
theorem ri_done {K : Nat} {r : List (List UInt8)} {m : Nat} {l : List S42} (h : RI K r m l) (he : K = 3 → r.length ≤ 2 + 2 * m) : puR K r = some l := by
  unfold puR
  by_cases hK : K = 3
  · rw [if_pos hK, h.1 hK]
    have h1 : (r.drop (1 + 2 * m)).length ≤ 1 := by rw [List.length_drop]; have := he hK; omega
    match hr : r.drop (1 + 2 * m), h1 with
    | [], _ => simp [rdR]
    | [_], _ => simp [rdR]
  · rw [if_neg hK, h.2.1 hK]
section
variable {ops : Array Oper} {rest : List Oper} {o : Oper} {a : Act} {Q : Exit → Act → World → Prop}
theorem list_put {W : World} {Av A2 : Option Addr} {cv c2 B B2 : Nat} {l : List S42} {m : Int} {d : List Int} (hgd : o.guard = none) (s x : Operand) (ho : o.op = .call { callee := .builtin .append, args := #[s, x], argTypes := #[22, 22] })
    (hs : a.eval s = .slice Av l.length cv) (hx : a.eval x = .slice (some ⟨W.heap.size, 0, none⟩) 1 1) (HM : k42.M W (B + 1) (fun k => B2 ≤ k) ⟨m, d⟩ [.int .i64 m, .slice A2 d.length c2])
    (hB : B + 1 ≤ B2) (hBW : B2 ≤ W.heap.size) (hown : ∀ k, (Value.slice Av l.length cv).ownBlock = some k → k < B2) (HO : PutsB B W (.slice Av l.length cv) l) (hl : l.length ≤ 100000)
    (h : ∀ A1 c1 w1, PutsB B w1 (.slice A1 (l.length + 1) c1) (l ++ [⟨m, d⟩]) → Below (B + 1) W w1 → wpList Tryd.prog ops Q rest (a.put o.dst (.slice A1 (l.length + 1) c1)) w1) :
    wpList Tryd.prog ops Q (o :: rest) a (W.alloc (.cells #[.int .i64 m, .slice A2 d.length c2] 42)) :=
  Kd.R_append (P := Tryd.prog) k42 (w0 := W) (W := W) (B + 1) hgd s x 22 42 (.agg #[(.int .i64 0), (.slice none 0 0)]) 32 ho Tryd.underlying22 info42 rfl (by decide) (by omega) (.slice Av l.length cv) l ⟨m, d⟩ [.int .i64 m, .slice A2 d.length c2] (fun k => B < k) (fun k => B2 ≤ k) hs hx HM
    (fun k hk => ⟨by omega, fun he => by have := hown k he.symm; omega⟩) (fun k hk => by omega) HO (Below.refl _ _) (by omega) (by omega) (fun v1 w1 h1 h2 _ _ => by
      obtain ⟨A1, c1, rfl⟩ := Kd.R_slice h1
      rw [List.length_append, List.length_singleton] at h1 ⊢
      exact h A1 c1 w1 h1 h2)
end

set_option maxHeartbeats 16000000 in
theorem rparse_val (s : ByteArray) (hs : s.size ≤ 3000) (w : World) (x : List UInt8) (r : List (List UInt8)) (hx : spl [] s.data.toList = x :: r) (ro : OpD) (rc : Int) (hr : (ro, rc) = refR s.data.toList) :
    Calls Tryd.prog 12 #[.string s] w fun e w' => OpIs w w' e ro rc := by
  have HS := Lib.hid (fun w => rsplit_any s (by omega) w)
  rw [hx] at HS
  have hK5 := kindOf_le5 x
  obtain ⟨K, hK⟩ : ∃ K, kindOf x = K := ⟨_, rfl⟩
  have HKW : Hid (∀ i : Nat, 1 ≤ i → i ≤ 5 → (x == wordL (i : Int)) = decide (K = i)) := Lib.hid (fun i h1 h5 => by subst hK; rw [beq_dec]; exact kindOf_dec x i h1 h5)
  rw [hK] at hK5
  have HR : Hid ((ro, rc) = match refO (x :: r) with | none => (⟨0, 0, 0, 0, []⟩, 13) | some o => if o.k ≠ 0 ∧ textO o = s.data.toList then (o, 0) else (⟨0, 0, 0, 0, []⟩, 13)) := Lib.hid (hr.trans (by rw [refR, hx]; rfl))
  have HWD : Hid (∀ y ∈ r, y.length ≤ 1000000) := Lib.hid (fun y hy => by
    have h1 := spl_mem s.data.toList [] y (by rw [hx]; exact List.mem_cons_of_mem _ hy)
    rw [datalen, List.length_nil] at h1; omega)
  have HLEN : Hid ((x :: r).length ≤ 3001) := Lib.hid (by rw [← hx]; have h1 := spl_length s.data.toList []; rw [datalen] at h1; omega)
  have HKE := Lib.hid hK
  clear hx hK hr
  go_enter Tryd.func12, Tryd.ntmps12
  go_wp2_with (go_at_call 31; refine (HS.out _).mono ?_; rintro e w1 ⟨v, rfl, hv, b1⟩; obtain ⟨g, c, rfl, hg0, hg1, hgc, hwd⟩ := words_of hv (Nat.succ_pos _); have P0 := Lib.hid (rp_init w w1 b1 g (x :: r) hg0 hg1 hwd); clear hv b1 hg0 hg1 hgc hwd)
  go_loopw [6] (fun vi wr => ∃ i : Nat, 1 ≤ i ∧ i ≤ 6 ∧ vi = .int .i64 (i : Int) ∧ Hid (RP w wr w1.heap.size g (x :: r) (kUp K i : Nat) 0 0 0 (.slice none 0 0))) (fun vi _ => 6 - (intOf vi).toNat)
  case atStart => exact ⟨1, by omega, by omega, rfl, by have : kUp K 1 = 0 := (by unfold kUp; split <;> omega); rw [this]; exact P0⟩
  case round =>
    obtain ⟨i, hi1, hi6, rfl, P⟩ := hrel
    rename World => W
    by_cases hlt : i ≤ 5
    · have hev := HKW.out i hi1 hlt
      have kc := P.out.wd 0 x rfl
      have PD := Lib.hid (P.out.belowN ((Below.refl _ _).drew))
      have HRW := Lib.hid (fun w => rword_any (i : Int) w)
      have g1 : (i : Int) ≤ 5 := by omega
      generalize wordL (i : Int) = wi at hev HRW
      obtain ⟨ev, hevd⟩ : ∃ ev, decide (K = i) = ev := ⟨_, rfl⟩
      rw [hevd] at hev
      have HEV := Lib.hid hevd
      clear hevd
      obtain ⟨⟨q0, -, -, -, -⟩, ⟨qf0, -, -, -, -⟩⟩ := five P.out.op
      go_wp2_with fail
      go_region_held3 (fun w' => w'.cell? ⟨g, 0, none⟩ = some (.string (ba x))) (go_keep)
        (first
          | (go_at_call 32; refine (HRW.out _).mono ?_; rintro e w2 ⟨rfl, b2⟩; have P2 := Lib.hid (PD.out.belowN b2); have k2 := P2.out.wd 0 x rfl; obtain ⟨⟨z0, -, -, -, -⟩, ⟨zf0, -, -, -, -⟩⟩ := five P2.out.op; clear b2))
      all_goals
        cases ev
        · go_wp2_with fail
          go_roundw
          case rel => exact ⟨i + 1, by omega, by omega, by go_num, by rw [kUp_no (of_decide_eq_false HEV.out)]; exact P2⟩
          case measure => simp [intOf]; omega
        · go_wp2_with fail
          go_roundw
          case rel => exact ⟨i + 1, by omega, by omega, by go_num, by rw [kUp_hit (of_decide_eq_true HEV.out)]; exact Lib.hid (P2.out.setOp 0 _ rfl)⟩
          case measure => simp [intOf]; omega
    · obtain rfl : i = 6 := by omega
      have PK : Hid (RP w W w1.heap.size g (x :: r) (K : Int) 0 0 0 (.slice none 0 0)) := Lib.hid (by have := P.out; rw [show kUp K 6 = K from by unfold kUp; split <;> omega] at this; exact this)
      clear P P0 HS HKW
      go_upto_region 8 with fail
      generalize ((6 : Nat) : Int) = z6
      go_cut [39] (fun s39 wx => s39 = .bool (hasH K r) ∧ Hid (RP w wx w1.heap.size g (x :: r) (K : Int) 0 0 0 (.slice none 0 0)))
      case first => as_aux_lemma =>
        obtain ⟨⟨q0, -, -, -, -⟩, ⟨qf0, -, -, -, -⟩⟩ := five PK.out.op
        obtain rfl | rfl | rfl | rfl | rfl | rfl : K = 0 ∨ K = 1 ∨ K = 2 ∨ K = 3 ∨ K = 4 ∨ K = 5 := by omega
        all_goals
          cases r
          all_goals
            go_wp2_with fail
            go_meet
            first
              | exact ⟨rfl, PK⟩
              | exact ⟨congrArg Value.bool (decide_eq_true (by omega)), PK⟩
      case rest => as_aux_lemma =>
        obtain ⟨rfl, PK2⟩ := hcut
        go_upto_if 39 with fail
        go_cut [3] (fun s3 wx => s3 = .int .i64 0 ∧ Hid ((hR K r).2 = true ∧ RP w wx w1.heap.size g (x :: r) (K : Int) (hR K r).1 0 0 (.slice none 0 0)))
        case first => as_aux_lemma =>
          obtain ⟨hv, hve⟩ : ∃ b, hasH K r = b := ⟨_, rfl⟩
          rw [hve]
          have HH := Lib.hid hve
          clear hve
          cases hv
          · go_wp2_with fail
            go_meet
            have e := hasH_no HH.out
            refine ⟨rfl, Lib.hid ⟨by rw [e], ?_⟩⟩
            rw [e]
            exact PK2.out
          · obtain ⟨a, t, rfl, hK1⟩ := hasH_yes HH.out
            have e := hR_cons K a t hK1
            have HN := Lib.hid (fun w => rnum_any (ba a) (HWD.out a (by simp)) w)
            rw [show (ba a).data.toList = a from rfl] at HN
            have HNO : Hid ((numR a).2 = false → ro = ⟨0, 0, 0, 0, []⟩ ∧ rc = 13) := Lib.hid (fun h => bad_of HR.out (by rw [refO, if_neg]; rintro ⟨h1, _⟩; rw [HKE.out, e, h] at h1; cases h1))
            clear HH
            have kc := PK2.out.wd 1 a rfl
            obtain ⟨n, hn⟩ : ∃ n, (numR a).1 = n := ⟨_, rfl⟩
            obtain ⟨b, hb⟩ : ∃ b, (numR a).2 = b := ⟨_, rfl⟩
            rw [hn, hb] at HN
            rw [hb] at HNO
            have HE : Hid (hR K (a :: t) = (n, b)) := Lib.hid (e.trans (Prod.ext hn hb))
            clear hn hb e
            cases b
            · go_wp2_with (go_at_call 33; refine (HN.out _).mono ?_; rintro e w2 ⟨rfl, b2⟩; have P2 := Lib.hid (PK2.out.belowN b2); obtain ⟨⟨r0, r1, r2, r3, r4⟩, ⟨rf0, rf1, rf2, rf3, rf4⟩⟩ := five P2.out.res; clear b2)
              exact ret12_bad P2.out _ ro rc (by first | exact HNO.out rfl | exact HNO.out trivial) rfl rfl
            · go_wp2_with (go_at_call 33; refine (HN.out _).mono ?_; rintro e w2 ⟨rfl, b2⟩; have P2 := Lib.hid (PK2.out.belowN b2); obtain ⟨⟨q0, q1, q2, q3, q4⟩, ⟨qf0, qf1, qf2, qf3, qf4⟩⟩ := five P2.out.op; clear b2)
              go_meet
              refine ⟨rfl, Lib.hid ?_⟩
              rw [HE.out]
              exact ⟨rfl, P2.out.setOp 1 _ rfl⟩
        case rest => as_aux_lemma =>
          obtain ⟨rfl, HP3⟩ := hcut
          have HhT := Lib.hid HP3.out.1
          have P3 := Lib.hid HP3.out.2
          clear HP3 PK PK2
          obtain ⟨hh, hhe⟩ : ∃ n, (hR K r).1 = n := ⟨_, rfl⟩
          rw [hhe] at P3
          have HHE := Lib.hid hhe
          clear hhe
          go_upto_region 13 with fail
          go_cut [59] (fun s59 wx => s59 = .bool (hasL K r) ∧ Hid (RP w wx w1.heap.size g (x :: r) (K : Int) hh 0 0 (.slice none 0 0)))
          case first => as_aux_lemma =>
            obtain ⟨⟨q0, -, -, -, -⟩, ⟨qf0, -, -, -, -⟩⟩ := five P3.out.op
            obtain rfl | rfl | rfl | rfl | rfl | rfl : K = 0 ∨ K = 1 ∨ K = 2 ∨ K = 3 ∨ K = 4 ∨ K = 5 := by omega
            case inr.inr.inl =>
              obtain ⟨b, hb⟩ : ∃ b, hasL 2 r = b := ⟨_, rfl⟩
              have hb2 : ((r.length : Int) + 1 == 4) = b := by
                rw [← hb]; unfold hasL
                by_cases h : r.length = 3
                · rw [h]; rfl
                · have h1 : (r.length == 3) = false := by rw [beq_eq_false_iff_ne]; exact h
                  rw [h1, Bool.and_false, beq_eq_false_iff_ne]; omega
              have HB := Lib.hid hb
              clear hb
              go_wp2_with fail
              go_meet
              exact ⟨congrArg Value.bool HB.out.symm, P3⟩
            all_goals
              go_wp2_with fail
              go_meet
              exact ⟨rfl, P3⟩
          case rest => as_aux_lemma =>
            obtain ⟨rfl, P4⟩ := hcut
            clear P3
            go_upto_if 59 with fail
            go_cut [3] (fun s3 wx => s3 = .int .i64 0 ∧ Hid ((laR K r).2 = true ∧ RP w wx w1.heap.size g (x :: r) (K : Int) hh (laR K r).1.1 (laR K r).1.2 (.slice none 0 0)))
            case first => as_aux_lemma =>
              obtain ⟨hv, hve⟩ : ∃ b, hasL K r = b := ⟨_, rfl⟩
              rw [hve]
              have HH := Lib.hid hve
              clear hve
              cases hv
              · go_wp2_with fail
                go_meet
                refine ⟨rfl, Lib.hid ?_⟩
                rw [hasL_no HH.out]
                exact ⟨rfl, P4.out⟩
              · obtain ⟨rfl, a, b, c, rfl⟩ := hasL_yes HH.out
                have HN2 := Lib.hid (fun w => rnum_any (ba b) (HWD.out b (by simp)) w)
                have HN3 := Lib.hid (fun w => rnum_any (ba c) (HWD.out c (by simp)) w)
                rw [show (ba b).data.toList = b from rfl] at HN2
                rw [show (ba c).data.toList = c from rfl] at HN3
                have HNO : Hid (((numR b).2 && (numR c).2) = false → ro = ⟨0, 0, 0, 0, []⟩ ∧ rc = 13) := Lib.hid (fun h => bad_of HR.out (by rw [refO, if_neg]; rintro ⟨_, h2⟩; rw [HKE.out] at h2; rw [show (laR 2 [a, b, c]).2 = ((numR b).2 && (numR c).2) from rfl, h] at h2; cases h2))
                have HE : Hid (laR 2 [a, b, c] = (((numR b).1, (numR c).1), (numR b).2 && (numR c).2)) := Lib.hid rfl
                clear HH
                have kc2 := P4.out.wd 2 b rfl
                have K3 := Lib.hid (fun (W' : World) (hb : Below wc.heap.size wc W') => (P4.out.belowN hb).wd 3 c rfl)
                obtain ⟨n2, hn2⟩ : ∃ n, (numR b).1 = n := ⟨_, rfl⟩
                obtain ⟨b2, hb2⟩ : ∃ n, (numR b).2 = n := ⟨_, rfl⟩
                obtain ⟨n3, hn3⟩ : ∃ n, (numR c).1 = n := ⟨_, rfl⟩
                obtain ⟨b3, hb3⟩ : ∃ n, (numR c).2 = n := ⟨_, rfl⟩
                rw [hn2, hb2] at HN2
                rw [hn3, hb3] at HN3
                rw [hb2, hb3] at HNO
                rw [hn2, hb2, hn3, hb3] at HE
                clear hn2 hb2 hn3 hb3
                cases b2 <;> cases b3
                case true.true =>
                  go_wp2_with (go_at_call 33; first
                    | (have _h5 := P5.out.bel; clear _h5; refine (HN3.out _).mono ?_; rintro e w3 ⟨rfl, b3⟩; have P6 := Lib.hid (P5.out.belowN b3); obtain ⟨⟨q0, q1, q2, q3, q4⟩, ⟨qf0, qf1, qf2, qf3, qf4⟩⟩ := five P6.out.op; clear b3)
                    | (refine (HN2.out _).mono ?_; rintro e w2 ⟨rfl, b2⟩; have kc3 := K3.out _ b2; have P5 := Lib.hid (P4.out.belowN b2); clear b2))
                  go_meet
                  refine ⟨rfl, Lib.hid ?_⟩
                  rw [HE.out]
                  exact ⟨rfl, (P6.out.setOp 2 _ rfl).setOp 3 _ rfl⟩
                all_goals
                  go_wp2_with (go_at_call 33; first
                    | (have _h5 := P5.out.bel; clear _h5; refine (HN3.out _).mono ?_; rintro e w3 ⟨rfl, b3⟩; have P6 := Lib.hid (P5.out.belowN b3); obtain ⟨⟨r0, r1, r2, r3, r4⟩, ⟨rf0, rf1, rf2, rf3, rf4⟩⟩ := five P6.out.res; clear b3)
                    | (refine (HN2.out _).mono ?_; rintro e w2 ⟨rfl, b2⟩; have kc3 := K3.out _ b2; have P5 := Lib.hid (P4.out.belowN b2); clear b2))
                  exact ret12_bad P6.out _ ro rc (by first | exact HNO.out rfl | exact HNO.out trivial) rfl rfl
            case rest => as_aux_lemma =>
              obtain ⟨rfl, HP5⟩ := hcut
              have HlT := Lib.hid HP5.out.1
              have P5 := Lib.hid HP5.out.2
              clear HP5 P4
              obtain ⟨la, hla⟩ : ∃ n, (laR K r).1.1 = n := ⟨_, rfl⟩
              obtain ⟨ln, hln⟩ : ∃ n, (laR K r).1.2 = n := ⟨_, rfl⟩
              rw [hla, hln] at P5
              have HLE := Lib.hid (show (laR K r).1 = (la, ln) from Prod.ext hla hln)
              clear hla hln
              go_upto_block 2 with fail
              go_cut [3] (fun s3 wx => s3 = .int .i64 0 ∧ Hid (∃ (v : Value) (l : List S42), puR K r = some l ∧ RP w wx w1.heap.size g (x :: r) (K : Int) hh la ln v ∧ PutsB w1.heap.size wx v l))
              case first => as_aux_lemma =>
                have R0 : Hid (PutsB w1.heap.size wc (.slice none 0 0) []) := Lib.hid (Kd.R_nil _ _ _ _ _)
                have HBAD : Hid (puR K r = none → ro = ⟨0, 0, 0, 0, []⟩ ∧ rc = 13) := Lib.hid (fun h => bad_of HR.out (by rw [refO, HKE.out, if_pos ⟨HhT.out, HlT.out⟩, h]; rfl))
                have hrl : r.length ≤ 3000 := by have := HLEN.out; rw [List.length_cons] at this; omega
                go_wp2_with fail
                go_loopw [3, 13] (fun v3 vi wr => ∃ (i m : Nat) (l : List S42) (v : Value), v3 = .int .i64 0 ∧ vi = .int .i64 (i : Int) ∧ i ≤ r.length + 2 ∧ Hid (i = 2 + 2 * m) ∧ Hid (RP w wr w1.heap.size g (x :: r) (K : Int) hh la ln v) ∧ Hid (PutsB w1.heap.size wr v l) ∧ Hid (RI K r m l)) (fun _ vi _ => r.length + 4 - (intOf vi).toNat)
                case atStart => exact ⟨2, 0, [], _, rfl, rfl, by omega, Lib.hid rfl, P5, R0, Lib.hid (ri_0 K r)⟩
                case round =>
                  obtain ⟨i, m, l, v, rfl, rfl, hir, HIM, P, RB, HI⟩ := hrel
                  rename World => W2
                  clear P5 R0
                  obtain ⟨⟨q0, -, -, -, q4⟩, ⟨qf0, -, -, -, qf4⟩⟩ := five P.out.op
                  by_cases hK3 : K = 3
                  · subst hK3
                    by_cases hlt : (i : Int) + 1 < (r.length : Int) + 1
                    · obtain ⟨a, d, ha, hd, hdr⟩ := drop_two (r := r) (n := 1 + 2 * m) (by have := HIM.out; omega)
                      have HDR := Lib.hid hdr
                      have kc : W2.cell? ⟨g, i, none⟩ = some (.string (ba a)) := P.out.wd i a (by rw [HIM.out, show 2 + 2 * m = (1 + 2 * m) + 1 by omega]; exact ha)
                      have KD := Lib.hid (fun (W' : World) (hb : Below W2.heap.size W2 W') => (P.out.belowN hb).wd (i + 1) d (by rw [HIM.out, show 2 + 2 * m + 1 = (1 + 2 * m + 1) + 1 by omega]; exact hd))
                      have HN := Lib.hid (fun w => rnum_any (ba a) (HWD.out a (List.mem_of_getElem? ha)) w)
                      rw [show (ba a).data.toList = a from rfl] at HN
                      have HU := Lib.hid (fun w => runb_any (ba d) w)
                      rw [show (ba d).data.toList = d from rfl] at HU
                      have HRB := Lib.hid (fun h => HBAD.out (ri_bad HI.out HDR.out h))
                      have HRS := Lib.hid (fun n bs h1 h2 => ri_step (n := n) (bs := bs) HI.out HDR.out h1 h2)
                      obtain ⟨Av, cv, rfl⟩ := Kd.R_slice RB.out
                      have HML : Hid (l.length ≤ 100000) := Lib.hid (by have := HI.out.2.2; have := HIM.out; omega)
                      have HIM2 : Hid (i + 2 = 2 + 2 * (m + 1)) := Lib.hid (by have := HIM.out; omega)
                      clear ha hd hdr HDR HI HIM HBAD
                      obtain ⟨nb, hnb⟩ : ∃ p, numR a = p := ⟨_, rfl⟩
                      obtain ⟨n, b1⟩ := nb
                      obtain ⟨ub, hub⟩ : ∃ p, unbP d = p := ⟨_, rfl⟩
                      obtain ⟨bs, b2⟩ := ub
                      rw [hnb] at HN HRB
                      rw [hub] at HU HRB
                      have HNB := Lib.hid hnb
                      have HUB := Lib.hid hub
                      clear hnb hub
                      dsimp only at HN HU HRB
                      cases b1 <;> cases b2
                      case true.true =>
                        have HRS2 := Lib.hid (HRS.out n bs HNB.out HUB.out)
                        clear HRS HRB HNB HUB
                        go_wp2_with (first
                          | (go_at_call 33; refine (HN.out _).mono ?_; rintro e w3 ⟨rfl, b3⟩; have P6 := Lib.hid (P.out.belowN b3); have R6 := Lib.hid (Kd.R_below RB.out b3); have kd3 := KD.out _ b3; clear b3)
                          | (go_at_call 17; refine (HU.out _).mono ?_; rintro e w4 ⟨v2, rfl, hm, b4⟩; obtain ⟨A2, c2, rfl⟩ := Kd.R_slice hm; have P7 := Lib.hid (P6.out.belowN b4); have R7 := Lib.hid (Kd.R_below R6.out b4); have K7 := Lib.hid b4.size; have HM := Lib.hid (putM n (made_of hm) (show w1.heap.size + 1 ≤ w3.heap.size from P6.out.lt)); obtain ⟨⟨z0, z1, z2, z3, z4⟩, ⟨zf0, zf1, zf2, zf3, zf4⟩⟩ := five P7.out.op; clear b4 hm)
                          | (at_builtin; refine list_put (by rfl) _ _ (by rfl) (by rfl) (by rfl) HM.out (show w1.heap.size + 1 ≤ w3.heap.size from P6.out.lt) K7.out (fun k hk => ((Kd.R_bound R6.out).1 k hk).2.2.1) R7.out HML.out ?_; intro A1 c1 w7 h1 h2; have R8 := Lib.hid h1; have P8 := Lib.hid (P7.out.below h2); obtain ⟨⟨-, -, -, -, y4⟩, ⟨-, -, -, -, yf4⟩⟩ := five P8.out.op; clear h1 h2))
                        go_roundw
                        case rel => exact ⟨i + 2, m + 1, _, _, rfl, by go_num, by omega, HIM2, Lib.hid (P8.out.setOp 4 _ rfl), Lib.hid (Kd.R_far R8.out (fun k hk e => by dsimp only at e; omega) _), HRS2⟩
                        case measure => simp [intOf]; omega
                      all_goals
                        go_wp2_with (first
                          | (go_at_call 33; refine (HN.out _).mono ?_; rintro e w3 ⟨rfl, b3⟩; have P6 := Lib.hid (P.out.belowN b3); have kd3 := KD.out _ b3; clear b3)
                          | (go_at_call 17; refine (HU.out _).mono ?_; rintro e w4 ⟨v2, rfl, hm, b4⟩; have P7 := Lib.hid (P6.out.belowN b4); obtain ⟨⟨r0, r1, r2, r3, r4⟩, ⟨rf0, rf1, rf2, rf3, rf4⟩⟩ := five P7.out.res; clear b4 hm))
                        exact ret12_bad P7.out _ ro rc (by first | exact HRB.out rfl | exact HRB.out trivial) rfl rfl
                    · have HD : Hid (puR 3 r = some l) := Lib.hid (ri_done HI.out (fun _ => by have := HIM.out; omega))
                      go_wp2_with fail
                      go_meet
                      exact ⟨rfl, Lib.hid ⟨_, _, HD.out, P.out, RB.out⟩⟩
                  · have HD : Hid (puR K r = some l) := Lib.hid (ri_done HI.out (fun h => absurd h hK3))
                    have hK3' : ((K : Int) == 3) = false := by rw [beq_eq_false_iff_ne]; omega
                    clear hK3
                    by_cases hlt : (i : Int) + 1 < (r.length : Int) + 1
                    all_goals
                      go_wp2_with fail
                      go_meet
                      exact ⟨rfl, Lib.hid ⟨_, _, HD.out, P.out, RB.out⟩⟩
              case rest => as_aux_lemma =>
                obtain ⟨rfl, HL⟩ := hcut
                obtain ⟨v, l, hpu, p6, rb⟩ := HL.out
                have HO : refO (x :: r) = some ⟨(K : Int), hh, la, ln, l⟩ := by rw [refO, HKE.out, if_pos ⟨HhT.out, HlT.out⟩, hpu, HHE.out, HLE.out]; rfl
                have P6 := Lib.hid p6
                have RB := Lib.hid rb
                have HR2 : Hid ((ro, rc) = if ((K : Int) ≠ 0 ∧ textP K hh la ln l = s.data.toList) then (⟨K, hh, la, ln, l⟩, 0) else (⟨0, 0, 0, 0, []⟩, 13)) := Lib.hid (by have e := HR.out; rw [HO] at e; exact e)
                clear HL p6 rb P5 hpu
                by_cases hk0 : K = 0
                · subst hk0
                  have HN : Hid (ro = ⟨0, 0, 0, 0, []⟩ ∧ rc = 13) := Lib.hid (by have e := HR2.out; rw [if_neg (fun h => h.1 rfl)] at e; exact ⟨congrArg Prod.fst e, congrArg Prod.snd e⟩)
                  obtain ⟨⟨q0, -, -, -, -⟩, ⟨qf0, -, -, -, -⟩⟩ := five P6.out.op
                  obtain ⟨⟨r0, r1, r2, r3, r4⟩, ⟨rf0, rf1, rf2, rf3, rf4⟩⟩ := five P6.out.res
                  clear HO
                  go_wp2_with fail
                  exact ret12_bad P6.out _ ro rc HN.out rfl rfl
                · obtain ⟨A, cap, rfl⟩ := Kd.R_slice RB.out
                  obtain ⟨hh1, hlb, hln, hok, hsm⟩ := refO_ok _ _ HO (by dsimp only; omega) (by have := HLEN.out; omega)
                  obtain ⟨A', c', e, hcap, hC⟩ := Kd.R_reads RB.out
                  injection e with e1 e2 e3
                  subst e1 e3
                  have HT := Lib.hid (rtext_any (K : Int) hh la ln l A cap wc hh1 hlb hln hC hok hsm)
                  have HTB := Lib.hid (beq_dec (textP K hh la ln l) s.toList)
                  have hk0' : ((K : Int) == 0) = false := by rw [beq_eq_false_iff_ne]; omega
                  have HPO : Hid ((ro, rc) = if textP K hh la ln l = s.data.toList then (⟨K, hh, la, ln, l⟩, 0) else (⟨0, 0, 0, 0, []⟩, 13)) := Lib.hid (by have e := HR2.out; rw [e]; by_cases h : textP K hh la ln l = s.data.toList <;> simp [h, hk0])
                  clear HO hh1 hlb hln hok hsm hC HR2
                  generalize textP (K : Int) hh la ln l = tx at HT HTB HPO
                  obtain ⟨ev, hev⟩ : ∃ ev, decide (tx = s.data.toList) = ev := ⟨_, rfl⟩
                  have e1 : (tx == s.toList) = ev := by rw [HTB.out, ByteArray.toList_eq, hev]
                  have e2 : (tx != s.toList) = !ev := by rw [bne, e1]
                  have HEV := Lib.hid hev
                  clear hev
                  obtain ⟨⟨p0, p1, p2, p3, p4⟩, ⟨pf0, pf1, pf2, pf3, pf4⟩⟩ := five P6.out.op
                  cases ev
                  · have HN : Hid (ro = ⟨0, 0, 0, 0, []⟩ ∧ rc = 13) := Lib.hid (by have e := HPO.out; rw [if_neg (of_decide_eq_false HEV.out)] at e; exact ⟨congrArg Prod.fst e, congrArg Prod.snd e⟩)
                    go_wp2_with (go_at_call 14; refine HT.out.mono ?_; rintro e w3 ⟨rfl, b3⟩; have P7 := Lib.hid (P6.out.belowN b3); obtain ⟨⟨r0, r1, r2, r3, r4⟩, ⟨rf0, rf1, rf2, rf3, rf4⟩⟩ := five P7.out.res; clear b3)
                    exact ret12_bad P7.out _ ro rc HN.out rfl rfl
                  · have HN : Hid (ro = ⟨K, hh, la, ln, l⟩ ∧ rc = 0) := Lib.hid (by have e := HPO.out; rw [if_pos (of_decide_eq_true HEV.out)] at e; exact ⟨congrArg Prod.fst e, congrArg Prod.snd e⟩)
                    go_wp2_with (go_at_call 14; refine HT.out.mono ?_; rintro e w3 ⟨rfl, b3⟩; have P7 := Lib.hid (P6.out.belowN b3); have R7 := Lib.hid (Kd.R_below RB.out b3); obtain ⟨⟨r0, r1, r2, r3, r4⟩, ⟨rf0, rf1, rf2, rf3, rf4⟩⟩ := five P7.out.res; obtain ⟨⟨q0, q1, q2, q3, q4⟩, ⟨qf0, qf1, qf2, qf3, qf4⟩⟩ := five P7.out.op; clear b3)
                    refine ret12 w _ _ _ ⟨K, hh, la, ln, l⟩ A cap 0 ro rc HN.out.1 HN.out.2 (store5 P7.out.res _ _ _ _ _) rfl rfl ?_ ?_ hcap
                    · repeat (refine Below.setCell ?_ (by dsimp only; omega) _)
                      exact P7.out.bel
                    · have hB : w.heap.size ≤ w1.heap.size := by have := P7.out.g0; have := P7.out.gB; omega
                      have hR : PutsB w1.heap.size (((((w3.setCell ⟨w.heap.size, 0, none⟩ (.int .i64 K)).setCell ⟨w.heap.size, 1, none⟩ (.int .i64 hh)).setCell ⟨w.heap.size, 2, none⟩ (.int .i64 la)).setCell ⟨w.heap.size, 3, none⟩ (.int .i64 ln)).setCell ⟨w.heap.size, 4, none⟩ (.slice A l.length cap)) (.slice A l.length cap) l := by
                        repeat (refine Kd.R_far ?_ (fun k hk e => by dsimp only at e; omega) _)
                        exact R7.out
                      obtain ⟨A', c', e, _, hC⟩ := Kd.R_reads hR
                      injection e with e1 e2 e3
                      subst e1
                      exact hC
/-- The reference's Parse reads what script.Parse reads. -/
theorem rparse_any (s : ByteArray) (hs : s.size ≤ 3000) (w : World) : Calls Tryd.prog 12 #[.string s] w fun e w' => OpIs w w' e (parseR s.data.toList).1 (parseR s.data.toList).2 := by
  obtain ⟨x, r, hx⟩ : ∃ x r, spl [] s.data.toList = x :: r := by
    cases h : spl [] s.data.toList with
    | nil => exact absurd h (spl_ne _ _)
    | cons x r => exact ⟨x, r, rfl⟩
  rw [← refR_eq]
  exact rparse_val s hs w x r hx _ _ rfl
end Go.Proofs.YtjjpnmeldgnfeaaDoor
