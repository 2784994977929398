/-
  The reader of words: next, num, data.
-/
import Derived.Test.YtjjpnmeldgnfeaaDoorUn
import Derived.Lib.AtoiErrMem
namespace Go.Proofs.YtjjpnmeldgnfeaaDoor
open Go Go.RowKit Go.Proofs.YtjjpnmeldgnfeaaDoor.PScriptTexts Go.Proofs.YtjjpnmeldgnfeaaDoorW.PrintWords
set_option maxRecDepth 100000

/-- All blocks but g are as they were. -/
structure Keep (w w' : World) (g : Nat) : Prop where
  os : w'.os = w.os
  tape : w'.tape = w.tape
  output : w'.output = w.output
  size : w.heap.size ≤ w'.heap.size
  block : ∀ k, k < w.heap.size → k ≠ g → w'.heap[k]? = w.heap[k]?
theorem Keep.refl (w : World) (g : Nat) : Keep w w g := ⟨rfl, rfl, rfl, Nat.le_refl _, fun _ _ _ => rfl⟩
theorem Keep.trans {w a b : World} {g : Nat} (h : Keep w a g) (k : Keep a b g) : Keep w b g :=
  ⟨k.os.trans h.os, k.tape.trans h.tape, k.output.trans h.output, Nat.le_trans h.size k.size, fun i hi hg => (k.block i (Nat.lt_of_lt_of_le hi h.size) hg).trans (h.block i hi hg)⟩
theorem Keep.ofBelow {w w' : World} {g : Nat} (h : Below w.heap.size w w') : Keep w w' g := ⟨h.os, h.tape, h.output, h.size, fun k hk _ => h.block k hk⟩
theorem Keep.toBelow {w w' : World} {g B : Nat} (h : Keep w w' g) (h1 : B ≤ g) (h2 : B ≤ w.heap.size) : Below B w w' := ⟨h.os, h.tape, h.output, h.size, fun k hk => h.block k (by omega) (by omega)⟩
theorem Keep.set (w : World) (g i : Nat) (v : Value) : Keep w (w.setCell ⟨g, i, none⟩ v) g :=
  ⟨rfl, rfl, rfl, by simp [World.setCell], fun k _ hk => Below.heap_setCell w ⟨g, i, none⟩ v k hk⟩
/-- A reader at block g: its words lie in block bw. -/
structure Rd (w : World) (g bw : Nat) (A : Option Addr) (c : Nat) (ws : List (List UInt8)) (bad : Bool) : Prop where
  blk : w.heap[g]? = some (.cells #[.slice A ws.length c, .bool bad] 54 (0, 0))
  cap : ws.length ≤ c
  ne : bw ≠ g
  at_ : 0 < ws.length → ∃ o, A = some ⟨bw, o, none⟩ ∧ ∀ (j : Nat) (x : List UInt8), ws[j]? = some x → w.cell? ⟨bw, o + j, none⟩ = some (.string (ba x))
theorem Rd.keep {w w' : World} {g bw : Nat} {A : Option Addr} {c : Nat} {ws : List (List UInt8)} {bad : Bool} (h : Rd w g bw A c ws bad) (k : Keep w w' g) (A' : Option Addr) (c' : Nat) (ws' : List (List UInt8)) (bad' : Bool)
    (hb : w'.heap[g]? = some (.cells #[.slice A' ws'.length c', .bool bad'] 54 (0, 0))) (hc : ws'.length ≤ c') (ha : 0 < ws'.length → ∃ o, A' = some ⟨bw, o, none⟩ ∧ ∀ (j : Nat) (x : List UInt8), ws'[j]? = some x → w.cell? ⟨bw, o + j, none⟩ = some (.string (ba x))) : Rd w' g bw A' c' ws' bad' :=
  ⟨hb, hc, h.ne, fun h0 => by
    obtain ⟨o, e, hx⟩ := ha h0
    refine ⟨o, e, fun j x hj => ?_⟩
    have := hx j x hj
    rw [← this]
    exact World.cell?_of_block (k.block bw (Lib.lt_of_cell this) h.ne)⟩
theorem Rd.below {w w' : World} {g bw : Nat} {A : Option Addr} {c : Nat} {ws : List (List UInt8)} {bad : Bool} (h : Rd w g bw A c ws bad) (k : Below w.heap.size w w') : Rd w' g bw A c ws bad :=
  h.keep (Keep.ofBelow k) A c ws bad ((k.block g (blk_lt h.blk)).trans h.blk) h.cap h.at_

/-- A word is read. -/
def nextS : List (List UInt8) → Bool → List UInt8 × List (List UInt8) × Bool
  | [], _ => ([], [], true)
  | x :: r, true => ([], x :: r, true)
  | x :: r, false => (x, r, false)
/-- What a reader has become. -/
def RdTo (w w' : World) (g bw : Nat) (ws : List (List UInt8)) (bad : Bool) : Prop := ∃ A c, Rd w' g bw A c ws bad ∧ Keep w w' g

set_option maxHeartbeats 2000000 in
theorem next_none (w : World) (g bw : Nat) (A : Option Addr) (c : Nat) (bad : Bool) (h : Rd w g bw A c [] bad) :
    Calls Tryd.prog 25 #[.pointer (some ⟨g, 0, none⟩)] w fun e w' => e = .returned (.string (ba [])) ∧ RdTo w w' g bw [] true := by
  have k0 : w.cell? ⟨g, 0, none⟩ = some (.slice A 0 c) := by rw [blk_cell h.blk]; rfl
  have k1 : w.cell? ⟨g, 1, none⟩ = some (.bool bad) := by rw [blk_cell h.blk]; rfl
  have f1 : w.frozen? ⟨g, 1, none⟩ = false := blk_frozen h.blk 1
  have H := Lib.hid h
  clear h
  cases bad
  all_goals
    go_enter Tryd.func25, Tryd.ntmps25
    go_wp2_with fail
    go_ret
    refine ⟨rfl, A, c, H.out.keep (Keep.set w g 1 (.bool true)) A c [] true ?_ (Nat.zero_le _) (fun h0 => absurd h0 (by decide)), Keep.set w g 1 (.bool true)⟩
    exact blk_set H.out.blk 1 (.bool true)
set_option maxHeartbeats 2000000 in
theorem next_bad (w : World) (g bw : Nat) (A : Option Addr) (c : Nat) (x : List UInt8) (r : List (List UInt8)) (h : Rd w g bw A c (x :: r) true) :
    Calls Tryd.prog 25 #[.pointer (some ⟨g, 0, none⟩)] w fun e w' => e = .returned (.string (ba [])) ∧ RdTo w w' g bw (x :: r) true := by
  have k0 : w.cell? ⟨g, 0, none⟩ = some (.slice A (r.length + 1) c) := by rw [blk_cell h.blk]; rfl
  have k1 : w.cell? ⟨g, 1, none⟩ = some (.bool true) := by rw [blk_cell h.blk]; rfl
  have f1 : w.frozen? ⟨g, 1, none⟩ = false := blk_frozen h.blk 1
  have H := Lib.hid h
  clear h
  go_enter Tryd.func25, Tryd.ntmps25
  go_wp2_with fail
  go_ret
  refine ⟨rfl, A, c, H.out.keep (Keep.set w g 1 (.bool true)) A c (x :: r) true ?_ H.out.cap H.out.at_, Keep.set w g 1 (.bool true)⟩
  exact blk_set H.out.blk 1 (.bool true)
theorem slice1 (A : Option Addr) (n c : Nat) (W : World) : (Instr.slice 44 (.slice A (n + 1) c) (some (.int .i64 1)) none none).run Tryd.prog W = .ok (.slice (if c = 1 then A else A.map (·.add 1)) n (c - 1)) W := by
  obtain ⟨i0, hi, hz0, hz1, hz2⟩ := info_parts info9'
  have hel : Tryd.prog.elem 44 = 9 := by simp [Program.elem, Tryd.underlying44]
  have hu : Tryd.prog.underlying 44 = some (.slice (Tryd.prog.elem 44)) := by rw [hel]; exact Tryd.underlying44
  rw [run_slice_l W 44 A (n + 1) c hu .i64 1 (by omega) (by omega), hel]
  simp [sizeOf, typeInfo, hi, hz1, sliced, Result.andThen]
theorem rd_next {w : World} {g bw o c : Nat} {x : List UInt8} {r : List (List UInt8)} (H : Rd w g bw (some ⟨bw, o, none⟩) c (x :: r) false)
    (HX : ∀ (j : Nat) (y : List UInt8), (x :: r)[j]? = some y → w.cell? ⟨bw, o + j, none⟩ = some (.string (ba y))) (A' : Option Addr) (hA : A' = some ⟨bw, o + 1, none⟩ ∨ c = 1) :
    RdTo w ((w.setCell ⟨g, 1, none⟩ (.bool false)).setCell ⟨g, 0, none⟩ (.slice A' r.length (c - 1))) g bw r false := by
  have hk : Keep w ((w.setCell ⟨g, 1, none⟩ (.bool false)).setCell ⟨g, 0, none⟩ (.slice A' r.length (c - 1))) g := (Keep.set w g 1 _).trans (Keep.set _ g 0 _)
  have hc := H.cap
  rw [List.length_cons] at hc
  refine ⟨A', c - 1, H.keep hk A' (c - 1) r false (blk_set (blk_set H.blk 1 (.bool false)) 0 (.slice A' r.length (c - 1))) (by omega) (fun h0 => ?_), hk⟩
  rcases hA with hA | hA
  · refine ⟨o + 1, hA, fun j y hj => ?_⟩
    have := HX (j + 1) y hj
    rwa [show o + 1 + j = o + (j + 1) by omega]
  · omega
set_option maxHeartbeats 2000000 in
theorem next_some (w : World) (g bw : Nat) (A : Option Addr) (c : Nat) (x : List UInt8) (r : List (List UInt8)) (h : Rd w g bw A c (x :: r) false) :
    Calls Tryd.prog 25 #[.pointer (some ⟨g, 0, none⟩)] w fun e w' => e = .returned (.string (ba x)) ∧ RdTo w w' g bw r false := by
  obtain ⟨o, hA, hx⟩ := h.at_ (by simp)
  subst hA
  have k0 : w.cell? ⟨g, 0, none⟩ = some (.slice (some ⟨bw, o, none⟩) (r.length + 1) c) := by rw [blk_cell h.blk]; rfl
  have k1 : w.cell? ⟨g, 1, none⟩ = some (.bool false) := by rw [blk_cell h.blk]; rfl
  have f0 : w.frozen? ⟨g, 0, none⟩ = false := blk_frozen h.blk 0
  have f1 : w.frozen? ⟨g, 1, none⟩ = false := blk_frozen h.blk 1
  have k2 : w.cell? ⟨bw, o, none⟩ = some (.string (ba x)) := hx 0 x rfl
  have hne : bw ≠ g := h.ne
  have hsl := slice1 (some ⟨bw, o, none⟩) r.length c
  have H := Lib.hid h
  have HX := Lib.hid hx
  clear h hx
  go_enter Tryd.func25, Tryd.ntmps25
  go_wp2_with fail
  all_goals
    go_ret
    first
      | exact ⟨rfl, rd_next H.out HX.out _ (.inl rfl)⟩
      | (have h1 : c = 1 := by assumption
         subst h1
         exact ⟨rfl, rd_next H.out HX.out _ (.inr rfl)⟩)
/-- next, whatever the reader holds. -/
theorem next_any (w : World) (g bw : Nat) (A : Option Addr) (c : Nat) (ws : List (List UInt8)) (bad : Bool) (h : Rd w g bw A c ws bad) :
    Calls Tryd.prog 25 #[.pointer (some ⟨g, 0, none⟩)] w fun e w' => e = .returned (.string (ba (nextS ws bad).1)) ∧ RdTo w w' g bw (nextS ws bad).2.1 (nextS ws bad).2.2 := by
  match ws, bad, h with
  | [], bad, h => exact next_none w g bw A c bad h
  | x :: r, true, h => exact next_bad w g bw A c x r h
  | x :: r, false, h => exact next_some w g bw A c x r h
theorem RdTo.lt {w w' : World} {g bw : Nat} {ws : List (List UInt8)} {bad : Bool} (h : RdTo w w' g bw ws bad) : g < w'.heap.size := by
  obtain ⟨A, c, h, _⟩ := h
  exact blk_lt h.blk
theorem RdTo.trans {w a b : World} {g bw : Nat} {ws ws' : List (List UInt8)} {bad bad' : Bool} (h : RdTo w a g bw ws bad) (k : RdTo a b g bw ws' bad') : RdTo w b g bw ws' bad' := by
  obtain ⟨_, _, _, h2⟩ := h
  obtain ⟨A, c, k1, k2⟩ := k
  exact ⟨A, c, k1, h2.trans k2⟩
theorem RdTo.below {w a b : World} {g bw : Nat} {ws : List (List UInt8)} {bad : Bool} (h : RdTo w a g bw ws bad) (k : Below a.heap.size a b) : RdTo w b g bw ws bad := by
  obtain ⟨A, c, h1, h2⟩ := h
  exact ⟨A, c, h1.below k, h2.trans (Keep.ofBelow k)⟩

/-! ### num -/
theorem atoi_any (x : List UInt8) (hx : x.length ≤ 1000000) (w : World) (E : Env w) :
    Calls Tryd.prog 41 #[.string (ba x)] w fun e w' => (∃ n err, e = .returned (.tuple #[.int .i64 n, err]) ∧ (Lib.atoiAll x = .ok n ∧ err = .nilIface ∨ (∀ v, Lib.atoiAll x ≠ .ok v) ∧ ∃ N, err = .iface 91 (.pointer (some ⟨N, 0, none⟩)))) ∧ Below w.heap.size w w' := by
  rcases hc : Lib.atoiAll x with v | _ | _
  · refine (Tryd.strconv_Atoi_ok (ba x) (by rw [ba_size]; omega) v hc w).mono fun e w' ⟨he, hw⟩ => ⟨⟨v, _, he, .inl ⟨rfl, rfl⟩⟩, ?_⟩
    rcases hw with rfl | ⟨t, rfl⟩
    · exact Below.refl _ _
    · exact Lib.bytesWorld_below _ _ _
  · obtain ⟨te, pe, e1⟩ := E.syn
    exact (Tryd.strconv_Atoi_none (ba x) (by rw [ba_size]; omega) hc _ w e1 (.inr ⟨te, pe, rfl⟩)).mono fun e w' ⟨N, h1, _, _, h4⟩ => ⟨⟨0, _, h1, .inr ⟨(fun v h => by cases h), N, rfl⟩⟩, h4⟩
  · obtain ⟨te, pe, e1⟩ := E.rng
    exact (Tryd.strconv_Atoi_range (ba x) (by rw [ba_size]; omega) hc _ w e1 (.inr ⟨te, pe, rfl⟩)).mono fun e w' ⟨N, h1, _, _, h4⟩ => ⟨⟨_, _, h1, .inr ⟨(fun v h => by cases h), N, rfl⟩⟩, h4⟩
/-- What num reads of a word: the number, and whether it is bad. -/
def numOf (x : List UInt8) (n : Int) (b : Bool) : Prop := (Lib.atoiAll x = .ok n ∧ b = (decide (n < -1099511627776) || decide (1099511627776 < n))) ∨ ((∀ v, Lib.atoiAll x ≠ .ok v) ∧ b = true)

theorem RdTo.setBad {w w1 : World} {g bw : Nat} {ws : List (List UInt8)} {bad : Bool} (h : RdTo w w1 g bw ws bad) (b : Bool) : RdTo w (w1.setCell ⟨g, 1, none⟩ (.bool b)) g bw ws b := by
  obtain ⟨A, c, h1, h2⟩ := h
  exact ⟨A, c, h1.keep (Keep.set w1 g 1 (.bool b)) A c ws b (blk_set h1.blk 1 (.bool b)) h1.cap h1.at_, h2.trans (Keep.set w1 g 1 (.bool b))⟩
theorem RdTo.cells {w w1 : World} {g bw : Nat} {ws : List (List UInt8)} {bad : Bool} (h : RdTo w w1 g bw ws bad) : w1.cell? ⟨g, 1, none⟩ = some (.bool bad) ∧ w1.frozen? ⟨g, 1, none⟩ = false := by
  obtain ⟨A, c, h1, _⟩ := h
  exact ⟨by rw [blk_cell h1.blk]; rfl, blk_frozen h1.blk 1⟩
theorem RdTo.env {w0 w w1 : World} {g bw : Nat} {ws : List (List UInt8)} {bad : Bool} (h : RdTo w w1 g bw ws bad) (E : Env w0) (b0 : Below w0.heap.size w0 w) (hg : w0.heap.size ≤ g) : Env w1 := by
  obtain ⟨A, c, _, h2⟩ := h
  exact E.below (b0.trans (h2.toBelow hg b0.size))
theorem nextS_len (ws : List (List UInt8)) (bad : Bool) (hw : ∀ x ∈ ws, x.length ≤ 1000000) : (nextS ws bad).1.length ≤ 1000000 := by
  match ws, bad with
  | [], _ => simp [nextS]
  | x :: r, true => simp [nextS]
  | x :: r, false => exact hw x (by simp)

set_option maxHeartbeats 4000000 in
theorem num_any (w0 w : World) (E : Env w0) (b0 : Below w0.heap.size w0 w) (g bw : Nat) (hg : w0.heap.size ≤ g) (A : Option Addr) (c : Nat) (ws : List (List UInt8)) (bad : Bool) (h : Rd w g bw A c ws bad) (hw : ∀ x ∈ ws, x.length ≤ 1000000) :
    Calls Tryd.prog 29 #[.pointer (some ⟨g, 0, none⟩)] w fun e w' => ∃ n b, e = .returned (.int .i64 n) ∧ numOf (nextS ws bad).1 n b ∧ RdTo w w' g bw (nextS ws bad).2.1 ((nextS ws bad).2.2 || b) := by
  have HN := Lib.hid (next_any w g bw A c ws bad h)
  have hx := nextS_len ws bad hw
  generalize (nextS ws bad).1 = x at HN hx
  generalize (nextS ws bad).2.1 = ws1 at HN
  generalize (nextS ws bad).2.2 = bad1 at HN
  have HA := Lib.hid (fun w E => atoi_any x hx w E)
  clear h hw hx
  have HB0 := Lib.hid b0
  clear b0
  go_enter Tryd.func29, Tryd.ntmps29
  go_wp2_with (go_at_call 25; refine HN.out.mono ?_)
  rintro e w1 ⟨rfl, r1⟩
  have R1 := Lib.hid r1
  clear r1
  go_wp2_with (go_at_call 41; refine (HA.out _ (R1.out.env E HB0.out hg)).mono ?_)
  rintro e w2 ⟨⟨n, err, rfl, hn⟩, b2⟩
  have R2 := Lib.hid (R1.out.below b2)
  clear b2 R1
  obtain ⟨k1, f1⟩ := R2.out.cells
  rcases hn with ⟨hok, rfl⟩ | ⟨hno, N, rfl⟩
  · obtain ⟨p1, q1⟩ : ∃ p, decide (n < -1099511627776) = p := ⟨_, rfl⟩
    obtain ⟨p2, q2⟩ : ∃ p, decide (1099511627776 < n) = p := ⟨_, rfl⟩
    have HOK := Lib.hid (show numOf x n (p1 || p2) from .inl ⟨hok, by rw [q1, q2]⟩)
    clear hok
    cases bad1 <;> cases p1 <;> cases p2
    all_goals
      go_wp2_with fail
      go_ret
      exact ⟨n, _, rfl, HOK.out, R2.out.setBad _⟩
  · have HOK := Lib.hid (show numOf x n true from .inr ⟨hno, rfl⟩)
    clear hno
    cases bad1
    all_goals
      go_wp2_with fail
      go_ret
      exact ⟨n, _, rfl, HOK.out, R2.out.setBad _⟩
/-! ### data -/
/-- A row of bytes that was made: none of its blocks is older than b. -/
abbrev MadeB (w : World) (b : Nat) (v : Value) (l : List Int) : Prop := Kd.R (Kd.int .u8) 5 w b (fun k => b ≤ k) v l
theorem made_of {w : World} {b : Nat} {v : Value} {l : List Int} (h : Kd.R (Kd.int .u8) 5 w b (fun _ => True) v l) : MadeB w b v l := Kd.R_mono (Kd.R_bound h) (fun _ hk => hk.2.1)

set_option maxHeartbeats 4000000 in
theorem data_any (w : World) (g bw : Nat) (A : Option Addr) (c : Nat) (ws : List (List UInt8)) (bad : Bool) (h : Rd w g bw A c ws bad) :
    Calls Tryd.prog 30 #[.pointer (some ⟨g, 0, none⟩)] w fun e w' => ∃ v, e = .returned v ∧ MadeB w' w.heap.size v (unbP (nextS ws bad).1).1 ∧ RdTo w w' g bw (nextS ws bad).2.1 ((nextS ws bad).2.2 || !(unbP (nextS ws bad).1).2) := by
  have HN := Lib.hid (next_any w g bw A c ws bad h)
  have hg : g < w.heap.size := blk_lt h.blk
  generalize (nextS ws bad).1 = x at HN
  generalize (nextS ws bad).2.1 = ws1 at HN
  generalize (nextS ws bad).2.2 = bad1 at HN
  have HA := Lib.hid (fun w => sunb_any (ba x) w)
  have HG := Lib.hid hg
  clear h hg
  have hx : (ba x).data.toList = x := rfl
  rw [hx] at HA
  generalize (unbP x).1 = l at HA
  generalize (unbP x).2 = ok at HA
  clear hx
  go_enter Tryd.func30, Tryd.ntmps30
  go_wp2_with (go_at_call 25; refine HN.out.mono ?_)
  rintro e w1 ⟨rfl, r1⟩
  have R1 := Lib.hid r1
  clear r1
  go_wp2_with (go_at_call 16; refine (HA.out _).mono ?_)
  rintro e w2 ⟨v, rfl, hv, b2⟩
  have R2 := Lib.hid (R1.out.below b2)
  have HV : Hid (∀ b, MadeB (w2.setCell ⟨g, 1, none⟩ (.bool b)) w.heap.size v l) := Lib.hid (fun b => by
    have hle : w.heap.size ≤ w1.heap.size := by obtain ⟨_, _, _, k⟩ := R1.out; exact k.size
    have h1 : Kd.R (Kd.int .u8) 5 w2 w.heap.size (fun k => w.heap.size ≤ k) v l := Kd.R_lower (Kd.R_mono (made_of hv) (fun k hk => by omega)) hle
    exact Kd.R_far h1 (fun k hk e => by have := HG.out; simp only at e; omega) _)
  clear b2 R1 hv
  obtain ⟨k1, f1⟩ := R2.out.cells
  cases bad1 <;> cases ok
  all_goals
    go_wp2_with fail
    go_ret
    exact ⟨v, rfl, HV.out _, R2.out.setBad _⟩
end Go.Proofs.YtjjpnmeldgnfeaaDoor
