/-
  The walk of script.Parse, kind by kind.
-/
import Derived.Test.YtjjpnmeldgnfeaaDoorPp
namespace Go.Proofs.YtjjpnmeldgnfeaaDoor
open Go Go.RowKit Go.Proofs.YtjjpnmeldgnfeaaDoor.PScriptTexts Go.Proofs.YtjjpnmeldgnfeaaDoorW.PrintWords
set_option maxRecDepth 100000

/-- What a Parse hands back. -/
def OpIs (w w' : World) (e : Ending) (o : OpD) (c : Int) : Prop :=
  ∃ A cap, e = .returned (.tuple #[.agg #[.int .i64 o.k, .int .i64 o.h, .int .i64 o.lba, .int .i64 o.len, .slice A o.l.length cap], .int .i64 c]) ∧ Kd.C k42 w' A o.l.length o.l ∧ o.l.length ≤ cap ∧ Below w.heap.size w w'
/-- The blocks of Parse: the result's, the words', the reader's, the op's. -/
structure PS (w W : World) (ws : List (List UInt8)) (bad : Bool) (k h lba len : Int) (v : Value) : Prop where
  res : W.heap[w.heap.size]? = some (.cells #[.int .i64 0, .int .i64 0, .int .i64 0, .int .i64 0, .slice none 0 0] 24 (0, 0))
  rd : ∃ A c, Rd W (w.heap.size + 1 + 1) (w.heap.size + 1) A c ws bad
  op : W.heap[w.heap.size + 1 + 1 + 1]? = some (.cells #[.int .i64 k, .int .i64 h, .int .i64 lba, .int .i64 len, v] 24 (0, 0))
  bel : Below w.heap.size w W
theorem five {W : World} {b : Nat} {v0 v1 v2 v3 v4 : Value} (h : W.heap[b]? = some (.cells #[v0, v1, v2, v3, v4] 24 (0, 0))) :
    (W.cell? ⟨b, 0, none⟩ = some v0 ∧ W.cell? ⟨b, 1, none⟩ = some v1 ∧ W.cell? ⟨b, 2, none⟩ = some v2 ∧ W.cell? ⟨b, 3, none⟩ = some v3 ∧ W.cell? ⟨b, 4, none⟩ = some v4) ∧
    (W.frozen? ⟨b, 0, none⟩ = false ∧ W.frozen? ⟨b, 1, none⟩ = false ∧ W.frozen? ⟨b, 2, none⟩ = false ∧ W.frozen? ⟨b, 3, none⟩ = false ∧ W.frozen? ⟨b, 4, none⟩ = false) :=
  ⟨⟨by rw [blk_cell h]; rfl, by rw [blk_cell h]; rfl, by rw [blk_cell h]; rfl, by rw [blk_cell h]; rfl, by rw [blk_cell h]; rfl⟩, blk_frozen h 0, blk_frozen h 1, blk_frozen h 2, blk_frozen h 3, blk_frozen h 4⟩
/-- The world in which the first word is read. -/
def PW (w : World) (x : List UInt8) (r : List (List UInt8)) : World :=
  (((w.alloc (.cells #[.int .i64 0, .int .i64 0, .int .i64 0, .int .i64 0, .slice none 0 0] 24)).alloc (.cells (strsV (x :: r)).toArray 9)).alloc
    (.cells #[.slice (some ⟨w.heap.size + 1, 0, none⟩) (r.length + 1) (r.length + 1), .bool false] 54)).alloc (.cells #[.int .i64 0, .int .i64 0, .int .i64 0, .int .i64 0, .slice none 0 0] 24)
theorem ps_init (w : World) (x : List UInt8) (r : List (List UInt8)) : PS w (PW w x r) (x :: r) false 0 0 0 0 (.slice none 0 0) ∧ Rd (PW w x r) (w.heap.size + 1 + 1) (w.heap.size + 1) (some ⟨w.heap.size + 1, 0, none⟩) (r.length + 1) (x :: r) false := by
  have b1 : (w.alloc (.cells #[.int .i64 0, .int .i64 0, .int .i64 0, .int .i64 0, .slice none 0 0] 24)).heap[w.heap.size]? = some (.cells #[.int .i64 0, .int .i64 0, .int .i64 0, .int .i64 0, .slice none 0 0] 24 (0, 0)) := heap_alloc_new w _
  generalize hw1 : w.alloc (.cells #[.int .i64 0, .int .i64 0, .int .i64 0, .int .i64 0, .slice none 0 0] 24) = w1 at b1
  have s1 : w1.heap.size = w.heap.size + 1 := by rw [← hw1]; simp
  have b2 : (w1.alloc (.cells (strsV (x :: r)).toArray 9)).heap[w1.heap.size]? = some (.cells (strsV (x :: r)).toArray 9 (0, 0)) := heap_alloc_new w1 _
  generalize hw2 : w1.alloc (.cells (strsV (x :: r)).toArray 9) = w2 at b2
  have s2 : w2.heap.size = w.heap.size + 1 + 1 := by rw [← hw2]; simp [s1]
  have b3 : (w2.alloc (.cells #[.slice (some ⟨w.heap.size + 1, 0, none⟩) (r.length + 1) (r.length + 1), .bool false] 54)).heap[w2.heap.size]? = some (.cells #[.slice (some ⟨w.heap.size + 1, 0, none⟩) (r.length + 1) (r.length + 1), .bool false] 54 (0, 0)) := heap_alloc_new w2 _
  generalize hw3 : w2.alloc (.cells #[.slice (some ⟨w.heap.size + 1, 0, none⟩) (r.length + 1) (r.length + 1), .bool false] 54) = w3 at b3
  have s3 : w3.heap.size = w.heap.size + 1 + 1 + 1 := by rw [← hw3]; simp [s2]
  have b4 : (w3.alloc (.cells #[.int .i64 0, .int .i64 0, .int .i64 0, .int .i64 0, .slice none 0 0] 24)).heap[w3.heap.size]? = some (.cells #[.int .i64 0, .int .i64 0, .int .i64 0, .int .i64 0, .slice none 0 0] 24 (0, 0)) := heap_alloc_new w3 _
  have hpw : PW w x r = w3.alloc (.cells #[.int .i64 0, .int .i64 0, .int .i64 0, .int .i64 0, .slice none 0 0] 24) := by unfold PW; rw [hw1, hw2, hw3]
  rw [hpw]
  have e12 : Below w1.heap.size w1 w2 := by rw [← hw2]; exact (Below.refl _ _).alloc (Nat.le_refl _) _
  have e23 : Below w2.heap.size w2 w3 := by rw [← hw3]; exact (Below.refl _ _).alloc (Nat.le_refl _) _
  have e34 : Below w3.heap.size w3 (w3.alloc (.cells #[.int .i64 0, .int .i64 0, .int .i64 0, .int .i64 0, .slice none 0 0] 24)) := (Below.refl _ _).alloc (Nat.le_refl _) _
  have e01 : Below w.heap.size w w1 := by rw [← hw1]; exact (Below.refl _ _).alloc (Nat.le_refl _) _
  generalize w3.alloc (.cells #[.int .i64 0, .int .i64 0, .int .i64 0, .int .i64 0, .slice none 0 0] 24) = w4 at *
  have c1 := (e34.block _ (by omega)).trans ((e23.block _ (by omega)).trans ((e12.block _ (by omega)).trans b1))
  rw [s1] at b2
  rw [s2] at b3
  rw [s3] at b4
  have c2 := (e34.block _ (by omega)).trans ((e23.block _ (by omega)).trans b2)
  have c3 := (e34.block _ (by omega)).trans b3
  have hrd : Rd w4 (w.heap.size + 1 + 1) (w.heap.size + 1) (some ⟨w.heap.size + 1, 0, none⟩) (r.length + 1) (x :: r) false :=
    ⟨c3, Nat.le_refl _, by omega, fun _ => ⟨0, rfl, fun j y hj => by
      rw [Nat.zero_add, blk_cell c2 j, List.getElem?_toArray]
      simp only [strsV, List.getElem?_map, hj]; rfl⟩⟩
  exact ⟨⟨c1, ⟨_, _, hrd⟩, b4, ((e01.trans (e12.mono (by omega))).trans (e23.mono (by omega))).trans (e34.mono (by omega))⟩, hrd⟩
theorem PS.lt {w W : World} {ws : List (List UInt8)} {bad : Bool} {k h lba len : Int} {v : Value} (p : PS w W ws bad k h lba len v) : w.heap.size + 1 + 1 + 1 < W.heap.size := blk_lt p.op
/-- A call of the reader's. -/
theorem PS.keep {w W W' : World} {ws ws' : List (List UInt8)} {bad bad' : Bool} {k h lba len : Int} {v : Value} (p : PS w W ws bad k h lba len v) (r : RdTo W W' (w.heap.size + 1 + 1) (w.heap.size + 1) ws' bad') : PS w W' ws' bad' k h lba len v := by
  obtain ⟨A, c, r1, r2⟩ := r
  have hl := p.lt
  exact ⟨(r2.block _ (by omega) (by omega)).trans p.res, ⟨A, c, r1⟩, (r2.block _ (by omega) (by omega)).trans p.op, p.bel.trans (r2.toBelow (by omega) p.bel.size)⟩
theorem PS.below {w W W' : World} {ws : List (List UInt8)} {bad : Bool} {k h lba len : Int} {v : Value} (p : PS w W ws bad k h lba len v) (b : Below W.heap.size W W') : PS w W' ws bad k h lba len v := by
  obtain ⟨A, c, r1⟩ := p.rd
  have hl := p.lt
  exact ⟨(b.block _ (by omega)).trans p.res, ⟨A, c, r1.below b⟩, (b.block _ (by omega)).trans p.op, below_trans p.bel b⟩
theorem kind_at (w1 : World) (x : List UInt8) (k : Int) (hk : (kindOf x : Int) - 1 = k) :
    Calls Tryd.prog 26 #[.slice (some ⟨w1.heap.size + 1, 0, none⟩) 5 5, .func (.func 27) #[] #[.pointer (some ⟨w1.heap.size, 0, none⟩)]] ((w1.alloc (.cells #[.string (ba x)] 9)).alloc (.cells #[.int .i64 1, .int .i64 2, .int .i64 3, .int .i64 4, .int .i64 5] 3))
      fun e w' => e = .returned (.int .i64 k) ∧ Below w1.heap.size w1 w' := by
  have b1 : (w1.alloc (.cells #[.string (ba x)] 9)).heap[w1.heap.size]? = some (.cells #[.string (ba x)] 9 (0, 0)) := heap_alloc_new w1 _
  have e01 : Below w1.heap.size w1 (w1.alloc (.cells #[.string (ba x)] 9)) := (Below.refl _ _).alloc (Nat.le_refl _) _
  have s1 : (w1.alloc (.cells #[.string (ba x)] 9)).heap.size = w1.heap.size + 1 := by simp
  generalize w1.alloc (.cells #[.string (ba x)] 9) = w2 at *
  have b2 : (w2.alloc (.cells #[.int .i64 1, .int .i64 2, .int .i64 3, .int .i64 4, .int .i64 5] 3)).heap[w2.heap.size]? = some (.cells #[.int .i64 1, .int .i64 2, .int .i64 3, .int .i64 4, .int .i64 5] 3 (0, 0)) := heap_alloc_new w2 _
  have e12 : Below w2.heap.size w2 (w2.alloc (.cells #[.int .i64 1, .int .i64 2, .int .i64 3, .int .i64 4, .int .i64 5] 3)) := (Below.refl _ _).alloc (Nat.le_refl _) _
  generalize w2.alloc (.cells #[.int .i64 1, .int .i64 2, .int .i64 3, .int .i64 4, .int .i64 5] 3) = w3 at *
  rw [s1] at b2
  have c1 := (e12.block _ (by omega)).trans b1
  have := kind_any x w1.heap.size (w1.heap.size + 1) w3 (by rw [blk_cell c1]; rfl) (fun j hj => by
    rw [blk_cell b2]
    match j, hj with
    | 0, _ => rfl
    | 1, _ => rfl
    | 2, _ => rfl
    | 3, _ => rfl
    | 4, _ => rfl)
  rw [hk] at this
  exact this.mono fun e w' h => ⟨h.1, (below_trans e01 e12).trans (h.2.mono (below_trans e01 e12).size)⟩
theorem PS.facts {w W : World} {ws : List (List UInt8)} {bad : Bool} {k h lba len : Int} {v : Value} (p : PS w W ws bad k h lba len v) :
    (W.cell? ⟨w.heap.size + 1 + 1, 1, none⟩ = some (.bool bad) ∧ W.frozen? ⟨w.heap.size + 1 + 1, 1, none⟩ = false) := by
  obtain ⟨A, c, r1⟩ := p.rd
  exact ⟨by rw [blk_cell r1.blk]; rfl, blk_frozen r1.blk 1⟩
theorem C_nil42 (w : World) : Kd.C k42 w none ([] : List S42).length [] := Kd.C_nil k42 w

theorem store5 {W : World} {b : Nat} {a0 a1 a2 a3 a4 : Value} (h : W.heap[b]? = some (.cells #[a0, a1, a2, a3, a4] 24 (0, 0))) (v0 v1 v2 v3 v4 : Value) :
    (((((W.setCell ⟨b, 0, none⟩ v0).setCell ⟨b, 1, none⟩ v1).setCell ⟨b, 2, none⟩ v2).setCell ⟨b, 3, none⟩ v3).setCell ⟨b, 4, none⟩ v4).heap[b]? = some (.cells #[v0, v1, v2, v3, v4] 24 (0, 0)) :=
  blk_set (blk_set (blk_set (blk_set (blk_set h 0 v0) 1 v1) 2 v2) 3 v3) 4 v4
/-- The results are read. -/
theorem ret_op (w : World) (a : Act) (W : World) (b : Nat) (o : OpD) (A : Option Addr) (cap : Nat) (c : Int) (hb : W.heap[b]? = some (.cells #[.int .i64 o.k, .int .i64 o.h, .int .i64 o.lba, .int .i64 o.len, .slice A o.l.length cap] 24 (0, 0)))
    (h2 : a.tmps[2]?.getD undef = .pointer (some ⟨b, 0, none⟩)) (h3 : a.tmps[3]?.getD undef = .int .i64 c) (hbel : Below w.heap.size w W) (hC : Kd.C k42 W A o.l.length o.l) (hcap : o.l.length ≤ cap) (hd : a.defers = [] := by rfl) :
    bodyPost Tryd.prog Tryd.f11 (fun e w' => OpIs w w' e o c) Exit.ret a W := by
  obtain ⟨⟨c0, c1, c2, c3, c4⟩, _⟩ := five hb
  refine bodyPost_ret (v := .tuple #[.agg #[.int .i64 o.k, .int .i64 o.h, .int .i64 o.lba, .int .i64 o.len, .slice A o.l.length cap], .int .i64 c]) (by simp [results, Tryd.results11, go_sem, h2, h3, c0, c1, c2, c3, c4]) hd ⟨A, cap, rfl, hC, hcap, hbel⟩
end Go.Proofs.YtjjpnmeldgnfeaaDoor
