/-
  FtextForms: the walk of the law: it returns true at every word and every form, in a world where the start-up code's tables lie.
-/
import Derived.Test.YtjepjheklnaidaaDoorBack
import Derived.Deep.RegionWith
namespace Go.Proofs.YtjepjheklnaidaaDoor
open Go Go.RowKit F64
set_option maxRecDepth 100000

theorem alloc_cell (w : World) (cs : Array Value) (t : TypeId) (w2 : World) (i : Nat) (v : Value) (h : cs[i]? = some v) (b : Below (w.alloc (.cells cs t)).heap.size (w.alloc (.cells cs t)) w2) : w2.cell? ⟨w.heap.size, i, none⟩ = some v := by
  rw [b.cell (show w.heap.size < (w.alloc (.cells cs t)).heap.size by show w.heap.size < (w.heap.push _).size; rw [Array.size_push]; omega), World.cell?_alloc_new]; exact h
theorem alloc_below (w : World) (o : Obj) : Below w.heap.size w (w.alloc o) := (Below.refl _ _).alloc (Nat.le_refl _) o
theorem same_zero : sameB 0 0 = true := sameB_true.2 rfl

theorem forms_out (v : Nat) (how : Int) (w : World) (E : Env w) (hv : v < 2 ^ 64) (o1 o2 : Bool) (q1 : decide (how < 0) = o1) (q2 : decide (8 ≤ how) = o2) (q : (o1 || o2) = true) :
    Calls Tryd.prog 6 #[.int .u64 (v : Int), .int .i64 how] w fun e w' => e = .returned (.bool true) ∧ Below w.heap.size w w' := by
  have f1 := fun w => rfrom_any v w hv
  have hlt := bitsF_lt hv
  generalize bitsF v = x at *
  have t1 := Lib.hid (fun w E => text_any x hlt w E)
  have hl := textF_len x
  have hap := ba_append
  generalize textF x = tx at *
  clear hv hlt
  cases o1 <;> cases o2
  all_goals first | (exfalso; exact absurd q (by decide)) | skip
  all_goals
    clear q
    go_enter Tryd.func6, Tryd.ntmps6
    go_wp2_with (go_at_call 16; refine (f1 _).mono ?_)
    rintro e w1 ⟨rfl, rfl⟩
    go_wp2_with (go_at_call 14; refine (t1.out _ E).mono ?_)
    rintro e w1 ⟨rfl, b1⟩
    go_wp2_with (go_at_call 8; refine (awake_any _ (by first | exact E.below b1 | exact (E.below b1).below (alloc_below _ _))).mono ?_; rintro e w5 ⟨rfl, b5⟩)
    go_ret
    first
      | exact ⟨rfl, below_trans b1 b5⟩
      | exact ⟨rfl, below_trans (below_trans b1 (alloc_below _ _)) b5⟩


set_option maxHeartbeats 1000000 in
theorem forms_hit0 (v x : Nat) (tx : List UInt8) (w : World) (E : Env w) (f1 : ∀ w, Calls Tryd.prog 16 #[.int .u64 (v : Int)] w fun e w' => e = .returned (.float .f64 x) ∧ w = w') (t1 : Hid (∀ w, Env w → Calls Tryd.prog 14 #[.float .f64 x] w fun e w' => e = .returned (.string ⟨tx.toArray⟩) ∧ Below w.heap.size w w')) (hl : tx.length ≤ 110) (y : Nat)
    (p1 : Hid (∀ w, Env w → Calls Tryd.prog 12 #[.string ⟨(43 :: tx).toArray⟩] w fun e w' => e = .returned (.tuple #[.float .f64 y, .int .i64 0]) ∧ Below w.heap.size w w')) (t2 : Hid (∀ w, Env w → Calls Tryd.prog 14 #[.float .f64 y] w fun e w' => e = .returned (.string ⟨(43 :: tx).toArray⟩) ∧ Below w.heap.size w w')) (hs : sameB x y = false) :
    Calls Tryd.prog 6 #[.int .u64 (v : Int), .int .i64 0] w fun e w' => e = .returned (.bool true) ∧ Below w.heap.size w w' := by
  have hap := ba_append
  go_enter Tryd.func6, Tryd.ntmps6
  go_wp2_with (go_at_call 16; refine (f1 _).mono ?_)
  rintro e w1 ⟨rfl, rfl⟩
  go_wp2_with (go_at_call 14; refine (t1.out _ E).mono ?_)
  rintro e w1 ⟨rfl, b1⟩
  go_wp2_with (go_at_call 12; refine (p1.out _ ((E.below b1).below (alloc_below _ _))).mono ?_)
  rintro e w2 ⟨rfl, b2⟩
  have E2 := ((E.below b1).below (alloc_below _ _)).below b2
  have hc := alloc_cell _ _ _ _ 0 (.string ⟨(43 :: tx).toArray⟩) rfl b2
  have hcd : w2.drew.cell? ⟨w1.heap.size, 0, none⟩ = some (.string ⟨(43 :: tx).toArray⟩) := hc
  have E2d : Env w2.drew := E2.below ((Below.refl _ w2).drew)
  go_wp2_with fail
  go_region_with (first
    | (go_at_call 14; refine (t2.out _ E2d).mono ?_; rintro e w3 ⟨rfl, b3⟩; have hc3 := cell_below hcd b3; have E3 := E2d.below b3)
    | (go_at_call 11; refine (rsame_any _ _ _).mono ?_; rintro e w4 ⟨rfl, rfl⟩)
    | (go_at_call 8; refine (awake_any _ E3).mono ?_; rintro e w5 ⟨rfl, b5⟩))
  all_goals
    go_wp2_with fail
    go_ret
    exact ⟨rfl, below_trans (below_trans (below_trans (below_trans b1 (alloc_below _ _)) b2) (below_trans ((Below.refl _ w2).drew) b3)) b5⟩
set_option maxHeartbeats 1000000 in
theorem forms_miss0 (v x : Nat) (tx : List UInt8) (w : World) (E : Env w) (f1 : ∀ w, Calls Tryd.prog 16 #[.int .u64 (v : Int)] w fun e w' => e = .returned (.float .f64 x) ∧ w = w') (t1 : Hid (∀ w, Env w → Calls Tryd.prog 14 #[.float .f64 x] w fun e w' => e = .returned (.string ⟨tx.toArray⟩) ∧ Below w.heap.size w w')) (hl : tx.length ≤ 110)
    (p1 : Hid (∀ w, Env w → Calls Tryd.prog 12 #[.string ⟨(43 :: tx).toArray⟩] w fun e w' => e = .returned (.tuple #[.float .f64 0, .int .i64 13]) ∧ Below w.heap.size w w')) :
    Calls Tryd.prog 6 #[.int .u64 (v : Int), .int .i64 0] w fun e w' => e = .returned (.bool true) ∧ Below w.heap.size w w' := by
  have hap := ba_append
  go_enter Tryd.func6, Tryd.ntmps6
  go_wp2_with (go_at_call 16; refine (f1 _).mono ?_)
  rintro e w1 ⟨rfl, rfl⟩
  go_wp2_with (go_at_call 14; refine (t1.out _ E).mono ?_)
  rintro e w1 ⟨rfl, b1⟩
  go_wp2_with (go_at_call 12; refine (p1.out _ ((E.below b1).below (alloc_below _ _))).mono ?_)
  rintro e w2 ⟨rfl, b2⟩
  have E2 := ((E.below b1).below (alloc_below _ _)).below b2
  have hs := same_zero
  go_wp2_with (first
    | (go_at_call 11; refine (rsame_any _ _ _).mono ?_; rintro e w3 ⟨rfl, rfl⟩)
    | (go_at_call 8; refine (awake_any _ E2).mono ?_; rintro e w5 ⟨rfl, b5⟩))
  go_ret
  exact ⟨rfl, below_trans (below_trans (below_trans b1 (alloc_below _ _)) b2) b5⟩
theorem forms_at0 (v : Nat) (hv : v < 2 ^ 64) (w : World) (E : Env w) :
    Calls Tryd.prog 6 #[.int .u64 (v : Int), .int .i64 0] w fun e w' => e = .returned (.bool true) ∧ Below w.heap.size w w' := by
  have f1 := fun w => rfrom_any v w hv
  have hx := norm_bits hv
  generalize bitsF v = x at *
  have t1 := Lib.hid (fun w E => text_any x hx.lt w E)
  have hl := textF_len x
  generalize ht : textF x = tx at *
  have sz : ∀ l : List UInt8, (⟨l.toArray⟩ : ByteArray).size = l.length := fun l => by rw [Lib.size_eq]
  have hsz : (⟨(43 :: tx).toArray⟩ : ByteArray).size ≤ 1000 := by rw [sz]; simp; omega
  by_cases h : ∃ y, Norm y ∧ textF y = 43 :: tx
  · obtain ⟨y, hy, e⟩ := h
    refine forms_hit0 v x tx w E f1 t1 (by omega) y (Lib.hid (fun w E => parse_hit _ y hy (by rw [e]) hsz w E)) (Lib.hid (fun w E => by rw [← e]; exact text_any y hy.lt w E)) ?_
    cases h : sameB x y
    · rfl
    · exfalso
      have := sameB_true.1 h
      rw [hx.nrm, hy.nrm] at this
      rw [← this, ht] at e
      have := congrArg List.length e
      simp only [List.length_cons] at this
      omega
  · exact forms_miss0 v x tx w E f1 t1 (by omega) (Lib.hid (fun w E => parse_miss _ (fun y hy e => h ⟨y, hy, e⟩) hsz w E))

set_option maxHeartbeats 1000000 in
theorem forms_hit1 (v x : Nat) (tx : List UInt8) (w : World) (E : Env w) (f1 : ∀ w, Calls Tryd.prog 16 #[.int .u64 (v : Int)] w fun e w' => e = .returned (.float .f64 x) ∧ w = w') (t1 : Hid (∀ w, Env w → Calls Tryd.prog 14 #[.float .f64 x] w fun e w' => e = .returned (.string ⟨tx.toArray⟩) ∧ Below w.heap.size w w')) (hl : tx.length ≤ 110) (y : Nat)
    (p1 : Hid (∀ w, Env w → Calls Tryd.prog 12 #[.string ⟨(32 :: tx).toArray⟩] w fun e w' => e = .returned (.tuple #[.float .f64 y, .int .i64 0]) ∧ Below w.heap.size w w')) (t2 : Hid (∀ w, Env w → Calls Tryd.prog 14 #[.float .f64 y] w fun e w' => e = .returned (.string ⟨(32 :: tx).toArray⟩) ∧ Below w.heap.size w w')) (hs : sameB x y = false) :
    Calls Tryd.prog 6 #[.int .u64 (v : Int), .int .i64 1] w fun e w' => e = .returned (.bool true) ∧ Below w.heap.size w w' := by
  have hap := ba_append
  go_enter Tryd.func6, Tryd.ntmps6
  go_wp2_with (go_at_call 16; refine (f1 _).mono ?_)
  rintro e w1 ⟨rfl, rfl⟩
  go_wp2_with (go_at_call 14; refine (t1.out _ E).mono ?_)
  rintro e w1 ⟨rfl, b1⟩
  go_wp2_with (go_at_call 12; refine (p1.out _ ((E.below b1).below (alloc_below _ _))).mono ?_)
  rintro e w2 ⟨rfl, b2⟩
  have E2 := ((E.below b1).below (alloc_below _ _)).below b2
  have hc := alloc_cell _ _ _ _ 1 (.string ⟨(32 :: tx).toArray⟩) rfl b2
  have hcd : w2.drew.cell? ⟨w1.heap.size, 1, none⟩ = some (.string ⟨(32 :: tx).toArray⟩) := hc
  have E2d : Env w2.drew := E2.below ((Below.refl _ w2).drew)
  go_wp2_with fail
  go_region_with (first
    | (go_at_call 14; refine (t2.out _ E2d).mono ?_; rintro e w3 ⟨rfl, b3⟩; have hc3 := cell_below hcd b3; have E3 := E2d.below b3)
    | (go_at_call 11; refine (rsame_any _ _ _).mono ?_; rintro e w4 ⟨rfl, rfl⟩)
    | (go_at_call 8; refine (awake_any _ E3).mono ?_; rintro e w5 ⟨rfl, b5⟩))
  all_goals
    go_wp2_with fail
    go_ret
    exact ⟨rfl, below_trans (below_trans (below_trans (below_trans b1 (alloc_below _ _)) b2) (below_trans ((Below.refl _ w2).drew) b3)) b5⟩
set_option maxHeartbeats 1000000 in
theorem forms_miss1 (v x : Nat) (tx : List UInt8) (w : World) (E : Env w) (f1 : ∀ w, Calls Tryd.prog 16 #[.int .u64 (v : Int)] w fun e w' => e = .returned (.float .f64 x) ∧ w = w') (t1 : Hid (∀ w, Env w → Calls Tryd.prog 14 #[.float .f64 x] w fun e w' => e = .returned (.string ⟨tx.toArray⟩) ∧ Below w.heap.size w w')) (hl : tx.length ≤ 110)
    (p1 : Hid (∀ w, Env w → Calls Tryd.prog 12 #[.string ⟨(32 :: tx).toArray⟩] w fun e w' => e = .returned (.tuple #[.float .f64 0, .int .i64 13]) ∧ Below w.heap.size w w')) :
    Calls Tryd.prog 6 #[.int .u64 (v : Int), .int .i64 1] w fun e w' => e = .returned (.bool true) ∧ Below w.heap.size w w' := by
  have hap := ba_append
  go_enter Tryd.func6, Tryd.ntmps6
  go_wp2_with (go_at_call 16; refine (f1 _).mono ?_)
  rintro e w1 ⟨rfl, rfl⟩
  go_wp2_with (go_at_call 14; refine (t1.out _ E).mono ?_)
  rintro e w1 ⟨rfl, b1⟩
  go_wp2_with (go_at_call 12; refine (p1.out _ ((E.below b1).below (alloc_below _ _))).mono ?_)
  rintro e w2 ⟨rfl, b2⟩
  have E2 := ((E.below b1).below (alloc_below _ _)).below b2
  have hs := same_zero
  go_wp2_with (first
    | (go_at_call 11; refine (rsame_any _ _ _).mono ?_; rintro e w3 ⟨rfl, rfl⟩)
    | (go_at_call 8; refine (awake_any _ E2).mono ?_; rintro e w5 ⟨rfl, b5⟩))
  go_ret
  exact ⟨rfl, below_trans (below_trans (below_trans b1 (alloc_below _ _)) b2) b5⟩
theorem forms_at1 (v : Nat) (hv : v < 2 ^ 64) (w : World) (E : Env w) :
    Calls Tryd.prog 6 #[.int .u64 (v : Int), .int .i64 1] w fun e w' => e = .returned (.bool true) ∧ Below w.heap.size w w' := by
  have f1 := fun w => rfrom_any v w hv
  have hx := norm_bits hv
  generalize bitsF v = x at *
  have t1 := Lib.hid (fun w E => text_any x hx.lt w E)
  have hl := textF_len x
  generalize ht : textF x = tx at *
  have sz : ∀ l : List UInt8, (⟨l.toArray⟩ : ByteArray).size = l.length := fun l => by rw [Lib.size_eq]
  have hsz : (⟨(32 :: tx).toArray⟩ : ByteArray).size ≤ 1000 := by rw [sz]; simp; omega
  by_cases h : ∃ y, Norm y ∧ textF y = 32 :: tx
  · obtain ⟨y, hy, e⟩ := h
    refine forms_hit1 v x tx w E f1 t1 (by omega) y (Lib.hid (fun w E => parse_hit _ y hy (by rw [e]) hsz w E)) (Lib.hid (fun w E => by rw [← e]; exact text_any y hy.lt w E)) ?_
    cases h : sameB x y
    · rfl
    · exfalso
      have := sameB_true.1 h
      rw [hx.nrm, hy.nrm] at this
      rw [← this, ht] at e
      have := congrArg List.length e
      simp only [List.length_cons] at this
      omega
  · exact forms_miss1 v x tx w E f1 t1 (by omega) (Lib.hid (fun w E => parse_miss _ (fun y hy e => h ⟨y, hy, e⟩) hsz w E))

set_option maxHeartbeats 1000000 in
theorem forms_hit2 (v x : Nat) (tx : List UInt8) (w : World) (E : Env w) (f1 : ∀ w, Calls Tryd.prog 16 #[.int .u64 (v : Int)] w fun e w' => e = .returned (.float .f64 x) ∧ w = w') (t1 : Hid (∀ w, Env w → Calls Tryd.prog 14 #[.float .f64 x] w fun e w' => e = .returned (.string ⟨tx.toArray⟩) ∧ Below w.heap.size w w')) (hl : tx.length ≤ 110) (y : Nat)
    (p1 : Hid (∀ w, Env w → Calls Tryd.prog 12 #[.string ⟨(tx ++ [32]).toArray⟩] w fun e w' => e = .returned (.tuple #[.float .f64 y, .int .i64 0]) ∧ Below w.heap.size w w')) (t2 : Hid (∀ w, Env w → Calls Tryd.prog 14 #[.float .f64 y] w fun e w' => e = .returned (.string ⟨(tx ++ [32]).toArray⟩) ∧ Below w.heap.size w w')) (hs : sameB x y = false) :
    Calls Tryd.prog 6 #[.int .u64 (v : Int), .int .i64 2] w fun e w' => e = .returned (.bool true) ∧ Below w.heap.size w w' := by
  have hap := ba_append
  go_enter Tryd.func6, Tryd.ntmps6
  go_wp2_with (go_at_call 16; refine (f1 _).mono ?_)
  rintro e w1 ⟨rfl, rfl⟩
  go_wp2_with (go_at_call 14; refine (t1.out _ E).mono ?_)
  rintro e w1 ⟨rfl, b1⟩
  go_wp2_with (go_at_call 12; refine (p1.out _ ((E.below b1).below (alloc_below _ _))).mono ?_)
  rintro e w2 ⟨rfl, b2⟩
  have E2 := ((E.below b1).below (alloc_below _ _)).below b2
  have hc := alloc_cell _ _ _ _ 2 (.string ⟨(tx ++ [32]).toArray⟩) rfl b2
  have hcd : w2.drew.cell? ⟨w1.heap.size, 2, none⟩ = some (.string ⟨(tx ++ [32]).toArray⟩) := hc
  have E2d : Env w2.drew := E2.below ((Below.refl _ w2).drew)
  go_wp2_with fail
  go_region_with (first
    | (go_at_call 14; refine (t2.out _ E2d).mono ?_; rintro e w3 ⟨rfl, b3⟩; have hc3 := cell_below hcd b3; have E3 := E2d.below b3)
    | (go_at_call 11; refine (rsame_any _ _ _).mono ?_; rintro e w4 ⟨rfl, rfl⟩)
    | (go_at_call 8; refine (awake_any _ E3).mono ?_; rintro e w5 ⟨rfl, b5⟩))
  all_goals
    go_wp2_with fail
    go_ret
    exact ⟨rfl, below_trans (below_trans (below_trans (below_trans b1 (alloc_below _ _)) b2) (below_trans ((Below.refl _ w2).drew) b3)) b5⟩
set_option maxHeartbeats 1000000 in
theorem forms_miss2 (v x : Nat) (tx : List UInt8) (w : World) (E : Env w) (f1 : ∀ w, Calls Tryd.prog 16 #[.int .u64 (v : Int)] w fun e w' => e = .returned (.float .f64 x) ∧ w = w') (t1 : Hid (∀ w, Env w → Calls Tryd.prog 14 #[.float .f64 x] w fun e w' => e = .returned (.string ⟨tx.toArray⟩) ∧ Below w.heap.size w w')) (hl : tx.length ≤ 110)
    (p1 : Hid (∀ w, Env w → Calls Tryd.prog 12 #[.string ⟨(tx ++ [32]).toArray⟩] w fun e w' => e = .returned (.tuple #[.float .f64 0, .int .i64 13]) ∧ Below w.heap.size w w')) :
    Calls Tryd.prog 6 #[.int .u64 (v : Int), .int .i64 2] w fun e w' => e = .returned (.bool true) ∧ Below w.heap.size w w' := by
  have hap := ba_append
  go_enter Tryd.func6, Tryd.ntmps6
  go_wp2_with (go_at_call 16; refine (f1 _).mono ?_)
  rintro e w1 ⟨rfl, rfl⟩
  go_wp2_with (go_at_call 14; refine (t1.out _ E).mono ?_)
  rintro e w1 ⟨rfl, b1⟩
  go_wp2_with (go_at_call 12; refine (p1.out _ ((E.below b1).below (alloc_below _ _))).mono ?_)
  rintro e w2 ⟨rfl, b2⟩
  have E2 := ((E.below b1).below (alloc_below _ _)).below b2
  have hs := same_zero
  go_wp2_with (first
    | (go_at_call 11; refine (rsame_any _ _ _).mono ?_; rintro e w3 ⟨rfl, rfl⟩)
    | (go_at_call 8; refine (awake_any _ E2).mono ?_; rintro e w5 ⟨rfl, b5⟩))
  go_ret
  exact ⟨rfl, below_trans (below_trans (below_trans b1 (alloc_below _ _)) b2) b5⟩
theorem forms_at2 (v : Nat) (hv : v < 2 ^ 64) (w : World) (E : Env w) :
    Calls Tryd.prog 6 #[.int .u64 (v : Int), .int .i64 2] w fun e w' => e = .returned (.bool true) ∧ Below w.heap.size w w' := by
  have f1 := fun w => rfrom_any v w hv
  have hx := norm_bits hv
  generalize bitsF v = x at *
  have t1 := Lib.hid (fun w E => text_any x hx.lt w E)
  have hl := textF_len x
  generalize ht : textF x = tx at *
  have sz : ∀ l : List UInt8, (⟨l.toArray⟩ : ByteArray).size = l.length := fun l => by rw [Lib.size_eq]
  have hsz : (⟨(tx ++ [32]).toArray⟩ : ByteArray).size ≤ 1000 := by rw [sz]; simp; omega
  by_cases h : ∃ y, Norm y ∧ textF y = tx ++ [32]
  · obtain ⟨y, hy, e⟩ := h
    refine forms_hit2 v x tx w E f1 t1 (by omega) y (Lib.hid (fun w E => parse_hit _ y hy (by rw [e]) hsz w E)) (Lib.hid (fun w E => by rw [← e]; exact text_any y hy.lt w E)) ?_
    cases h : sameB x y
    · rfl
    · exfalso
      have := sameB_true.1 h
      rw [hx.nrm, hy.nrm] at this
      rw [← this, ht] at e
      have := congrArg List.length e
      simp only [List.length_append, List.length_cons, List.length_nil] at this
      omega
  · exact forms_miss2 v x tx w E f1 t1 (by omega) (Lib.hid (fun w E => parse_miss _ (fun y hy e => h ⟨y, hy, e⟩) hsz w E))

set_option maxHeartbeats 1000000 in
theorem forms_hit3 (v x : Nat) (tx : List UInt8) (w : World) (E : Env w) (f1 : ∀ w, Calls Tryd.prog 16 #[.int .u64 (v : Int)] w fun e w' => e = .returned (.float .f64 x) ∧ w = w') (t1 : Hid (∀ w, Env w → Calls Tryd.prog 14 #[.float .f64 x] w fun e w' => e = .returned (.string ⟨tx.toArray⟩) ∧ Below w.heap.size w w')) (hl : tx.length ≤ 110) (y : Nat)
    (p1 : Hid (∀ w, Env w → Calls Tryd.prog 12 #[.string ⟨(tx ++ [48]).toArray⟩] w fun e w' => e = .returned (.tuple #[.float .f64 y, .int .i64 0]) ∧ Below w.heap.size w w')) (t2 : Hid (∀ w, Env w → Calls Tryd.prog 14 #[.float .f64 y] w fun e w' => e = .returned (.string ⟨(tx ++ [48]).toArray⟩) ∧ Below w.heap.size w w')) (hs : sameB x y = false) :
    Calls Tryd.prog 6 #[.int .u64 (v : Int), .int .i64 3] w fun e w' => e = .returned (.bool true) ∧ Below w.heap.size w w' := by
  have hap := ba_append
  go_enter Tryd.func6, Tryd.ntmps6
  go_wp2_with (go_at_call 16; refine (f1 _).mono ?_)
  rintro e w1 ⟨rfl, rfl⟩
  go_wp2_with (go_at_call 14; refine (t1.out _ E).mono ?_)
  rintro e w1 ⟨rfl, b1⟩
  go_wp2_with (go_at_call 12; refine (p1.out _ ((E.below b1).below (alloc_below _ _))).mono ?_)
  rintro e w2 ⟨rfl, b2⟩
  have E2 := ((E.below b1).below (alloc_below _ _)).below b2
  have hc := alloc_cell _ _ _ _ 3 (.string ⟨(tx ++ [48]).toArray⟩) rfl b2
  have hcd : w2.drew.cell? ⟨w1.heap.size, 3, none⟩ = some (.string ⟨(tx ++ [48]).toArray⟩) := hc
  have E2d : Env w2.drew := E2.below ((Below.refl _ w2).drew)
  go_wp2_with fail
  go_region_with (first
    | (go_at_call 14; refine (t2.out _ E2d).mono ?_; rintro e w3 ⟨rfl, b3⟩; have hc3 := cell_below hcd b3; have E3 := E2d.below b3)
    | (go_at_call 11; refine (rsame_any _ _ _).mono ?_; rintro e w4 ⟨rfl, rfl⟩)
    | (go_at_call 8; refine (awake_any _ E3).mono ?_; rintro e w5 ⟨rfl, b5⟩))
  all_goals
    go_wp2_with fail
    go_ret
    exact ⟨rfl, below_trans (below_trans (below_trans (below_trans b1 (alloc_below _ _)) b2) (below_trans ((Below.refl _ w2).drew) b3)) b5⟩
set_option maxHeartbeats 1000000 in
theorem forms_miss3 (v x : Nat) (tx : List UInt8) (w : World) (E : Env w) (f1 : ∀ w, Calls Tryd.prog 16 #[.int .u64 (v : Int)] w fun e w' => e = .returned (.float .f64 x) ∧ w = w') (t1 : Hid (∀ w, Env w → Calls Tryd.prog 14 #[.float .f64 x] w fun e w' => e = .returned (.string ⟨tx.toArray⟩) ∧ Below w.heap.size w w')) (hl : tx.length ≤ 110)
    (p1 : Hid (∀ w, Env w → Calls Tryd.prog 12 #[.string ⟨(tx ++ [48]).toArray⟩] w fun e w' => e = .returned (.tuple #[.float .f64 0, .int .i64 13]) ∧ Below w.heap.size w w')) :
    Calls Tryd.prog 6 #[.int .u64 (v : Int), .int .i64 3] w fun e w' => e = .returned (.bool true) ∧ Below w.heap.size w w' := by
  have hap := ba_append
  go_enter Tryd.func6, Tryd.ntmps6
  go_wp2_with (go_at_call 16; refine (f1 _).mono ?_)
  rintro e w1 ⟨rfl, rfl⟩
  go_wp2_with (go_at_call 14; refine (t1.out _ E).mono ?_)
  rintro e w1 ⟨rfl, b1⟩
  go_wp2_with (go_at_call 12; refine (p1.out _ ((E.below b1).below (alloc_below _ _))).mono ?_)
  rintro e w2 ⟨rfl, b2⟩
  have E2 := ((E.below b1).below (alloc_below _ _)).below b2
  have hs := same_zero
  go_wp2_with (first
    | (go_at_call 11; refine (rsame_any _ _ _).mono ?_; rintro e w3 ⟨rfl, rfl⟩)
    | (go_at_call 8; refine (awake_any _ E2).mono ?_; rintro e w5 ⟨rfl, b5⟩))
  go_ret
  exact ⟨rfl, below_trans (below_trans (below_trans b1 (alloc_below _ _)) b2) b5⟩
theorem forms_at3 (v : Nat) (hv : v < 2 ^ 64) (w : World) (E : Env w) :
    Calls Tryd.prog 6 #[.int .u64 (v : Int), .int .i64 3] w fun e w' => e = .returned (.bool true) ∧ Below w.heap.size w w' := by
  have f1 := fun w => rfrom_any v w hv
  have hx := norm_bits hv
  generalize bitsF v = x at *
  have t1 := Lib.hid (fun w E => text_any x hx.lt w E)
  have hl := textF_len x
  generalize ht : textF x = tx at *
  have sz : ∀ l : List UInt8, (⟨l.toArray⟩ : ByteArray).size = l.length := fun l => by rw [Lib.size_eq]
  have hsz : (⟨(tx ++ [48]).toArray⟩ : ByteArray).size ≤ 1000 := by rw [sz]; simp; omega
  by_cases h : ∃ y, Norm y ∧ textF y = tx ++ [48]
  · obtain ⟨y, hy, e⟩ := h
    refine forms_hit3 v x tx w E f1 t1 (by omega) y (Lib.hid (fun w E => parse_hit _ y hy (by rw [e]) hsz w E)) (Lib.hid (fun w E => by rw [← e]; exact text_any y hy.lt w E)) ?_
    cases h : sameB x y
    · rfl
    · exfalso
      have := sameB_true.1 h
      rw [hx.nrm, hy.nrm] at this
      rw [← this, ht] at e
      have := congrArg List.length e
      simp only [List.length_append, List.length_cons, List.length_nil] at this
      omega
  · exact forms_miss3 v x tx w E f1 t1 (by omega) (Lib.hid (fun w E => parse_miss _ (fun y hy e => h ⟨y, hy, e⟩) hsz w E))

set_option maxHeartbeats 1000000 in
theorem forms_hit4 (v x : Nat) (tx : List UInt8) (w : World) (E : Env w) (f1 : ∀ w, Calls Tryd.prog 16 #[.int .u64 (v : Int)] w fun e w' => e = .returned (.float .f64 x) ∧ w = w') (t1 : Hid (∀ w, Env w → Calls Tryd.prog 14 #[.float .f64 x] w fun e w' => e = .returned (.string ⟨tx.toArray⟩) ∧ Below w.heap.size w w')) (hl : tx.length ≤ 110) (y : Nat)
    (p1 : Hid (∀ w, Env w → Calls Tryd.prog 12 #[.string ⟨(48 :: tx).toArray⟩] w fun e w' => e = .returned (.tuple #[.float .f64 y, .int .i64 0]) ∧ Below w.heap.size w w')) (t2 : Hid (∀ w, Env w → Calls Tryd.prog 14 #[.float .f64 y] w fun e w' => e = .returned (.string ⟨(48 :: tx).toArray⟩) ∧ Below w.heap.size w w')) (hs : sameB x y = false) :
    Calls Tryd.prog 6 #[.int .u64 (v : Int), .int .i64 4] w fun e w' => e = .returned (.bool true) ∧ Below w.heap.size w w' := by
  have hap := ba_append
  go_enter Tryd.func6, Tryd.ntmps6
  go_wp2_with (go_at_call 16; refine (f1 _).mono ?_)
  rintro e w1 ⟨rfl, rfl⟩
  go_wp2_with (go_at_call 14; refine (t1.out _ E).mono ?_)
  rintro e w1 ⟨rfl, b1⟩
  go_wp2_with (go_at_call 12; refine (p1.out _ ((E.below b1).below (alloc_below _ _))).mono ?_)
  rintro e w2 ⟨rfl, b2⟩
  have E2 := ((E.below b1).below (alloc_below _ _)).below b2
  have hc := alloc_cell _ _ _ _ 4 (.string ⟨(48 :: tx).toArray⟩) rfl b2
  have hcd : w2.drew.cell? ⟨w1.heap.size, 4, none⟩ = some (.string ⟨(48 :: tx).toArray⟩) := hc
  have E2d : Env w2.drew := E2.below ((Below.refl _ w2).drew)
  go_wp2_with fail
  go_region_with (first
    | (go_at_call 14; refine (t2.out _ E2d).mono ?_; rintro e w3 ⟨rfl, b3⟩; have hc3 := cell_below hcd b3; have E3 := E2d.below b3)
    | (go_at_call 11; refine (rsame_any _ _ _).mono ?_; rintro e w4 ⟨rfl, rfl⟩)
    | (go_at_call 8; refine (awake_any _ E3).mono ?_; rintro e w5 ⟨rfl, b5⟩))
  all_goals
    go_wp2_with fail
    go_ret
    exact ⟨rfl, below_trans (below_trans (below_trans (below_trans b1 (alloc_below _ _)) b2) (below_trans ((Below.refl _ w2).drew) b3)) b5⟩
set_option maxHeartbeats 1000000 in
theorem forms_miss4 (v x : Nat) (tx : List UInt8) (w : World) (E : Env w) (f1 : ∀ w, Calls Tryd.prog 16 #[.int .u64 (v : Int)] w fun e w' => e = .returned (.float .f64 x) ∧ w = w') (t1 : Hid (∀ w, Env w → Calls Tryd.prog 14 #[.float .f64 x] w fun e w' => e = .returned (.string ⟨tx.toArray⟩) ∧ Below w.heap.size w w')) (hl : tx.length ≤ 110)
    (p1 : Hid (∀ w, Env w → Calls Tryd.prog 12 #[.string ⟨(48 :: tx).toArray⟩] w fun e w' => e = .returned (.tuple #[.float .f64 0, .int .i64 13]) ∧ Below w.heap.size w w')) :
    Calls Tryd.prog 6 #[.int .u64 (v : Int), .int .i64 4] w fun e w' => e = .returned (.bool true) ∧ Below w.heap.size w w' := by
  have hap := ba_append
  go_enter Tryd.func6, Tryd.ntmps6
  go_wp2_with (go_at_call 16; refine (f1 _).mono ?_)
  rintro e w1 ⟨rfl, rfl⟩
  go_wp2_with (go_at_call 14; refine (t1.out _ E).mono ?_)
  rintro e w1 ⟨rfl, b1⟩
  go_wp2_with (go_at_call 12; refine (p1.out _ ((E.below b1).below (alloc_below _ _))).mono ?_)
  rintro e w2 ⟨rfl, b2⟩
  have E2 := ((E.below b1).below (alloc_below _ _)).below b2
  have hs := same_zero
  go_wp2_with (first
    | (go_at_call 11; refine (rsame_any _ _ _).mono ?_; rintro e w3 ⟨rfl, rfl⟩)
    | (go_at_call 8; refine (awake_any _ E2).mono ?_; rintro e w5 ⟨rfl, b5⟩))
  go_ret
  exact ⟨rfl, below_trans (below_trans (below_trans b1 (alloc_below _ _)) b2) b5⟩
theorem forms_at4 (v : Nat) (hv : v < 2 ^ 64) (w : World) (E : Env w) :
    Calls Tryd.prog 6 #[.int .u64 (v : Int), .int .i64 4] w fun e w' => e = .returned (.bool true) ∧ Below w.heap.size w w' := by
  have f1 := fun w => rfrom_any v w hv
  have hx := norm_bits hv
  generalize bitsF v = x at *
  have t1 := Lib.hid (fun w E => text_any x hx.lt w E)
  have hl := textF_len x
  generalize ht : textF x = tx at *
  have sz : ∀ l : List UInt8, (⟨l.toArray⟩ : ByteArray).size = l.length := fun l => by rw [Lib.size_eq]
  have hsz : (⟨(48 :: tx).toArray⟩ : ByteArray).size ≤ 1000 := by rw [sz]; simp; omega
  by_cases h : ∃ y, Norm y ∧ textF y = 48 :: tx
  · obtain ⟨y, hy, e⟩ := h
    refine forms_hit4 v x tx w E f1 t1 (by omega) y (Lib.hid (fun w E => parse_hit _ y hy (by rw [e]) hsz w E)) (Lib.hid (fun w E => by rw [← e]; exact text_any y hy.lt w E)) ?_
    cases h : sameB x y
    · rfl
    · exfalso
      have := sameB_true.1 h
      rw [hx.nrm, hy.nrm] at this
      rw [← this, ht] at e
      have := congrArg List.length e
      simp only [List.length_cons] at this
      omega
  · exact forms_miss4 v x tx w E f1 t1 (by omega) (Lib.hid (fun w E => parse_miss _ (fun y hy e => h ⟨y, hy, e⟩) hsz w E))

set_option maxHeartbeats 1000000 in
theorem forms_hit5 (v x : Nat) (tx : List UInt8) (w : World) (E : Env w) (f1 : ∀ w, Calls Tryd.prog 16 #[.int .u64 (v : Int)] w fun e w' => e = .returned (.float .f64 x) ∧ w = w') (t1 : Hid (∀ w, Env w → Calls Tryd.prog 14 #[.float .f64 x] w fun e w' => e = .returned (.string ⟨tx.toArray⟩) ∧ Below w.heap.size w w')) (hl : tx.length ≤ 110) (y : Nat)
    (p1 : Hid (∀ w, Env w → Calls Tryd.prog 12 #[.string ⟨(tx ++ [112, 48]).toArray⟩] w fun e w' => e = .returned (.tuple #[.float .f64 y, .int .i64 0]) ∧ Below w.heap.size w w')) (t2 : Hid (∀ w, Env w → Calls Tryd.prog 14 #[.float .f64 y] w fun e w' => e = .returned (.string ⟨(tx ++ [112, 48]).toArray⟩) ∧ Below w.heap.size w w')) (hs : sameB x y = false) :
    Calls Tryd.prog 6 #[.int .u64 (v : Int), .int .i64 5] w fun e w' => e = .returned (.bool true) ∧ Below w.heap.size w w' := by
  have hap := ba_append
  go_enter Tryd.func6, Tryd.ntmps6
  go_wp2_with (go_at_call 16; refine (f1 _).mono ?_)
  rintro e w1 ⟨rfl, rfl⟩
  go_wp2_with (go_at_call 14; refine (t1.out _ E).mono ?_)
  rintro e w1 ⟨rfl, b1⟩
  go_wp2_with (go_at_call 12; refine (p1.out _ ((E.below b1).below (alloc_below _ _))).mono ?_)
  rintro e w2 ⟨rfl, b2⟩
  have E2 := ((E.below b1).below (alloc_below _ _)).below b2
  have hc := alloc_cell _ _ _ _ 5 (.string ⟨(tx ++ [112, 48]).toArray⟩) rfl b2
  have hcd : w2.drew.cell? ⟨w1.heap.size, 5, none⟩ = some (.string ⟨(tx ++ [112, 48]).toArray⟩) := hc
  have E2d : Env w2.drew := E2.below ((Below.refl _ w2).drew)
  go_wp2_with fail
  go_region_with (first
    | (go_at_call 14; refine (t2.out _ E2d).mono ?_; rintro e w3 ⟨rfl, b3⟩; have hc3 := cell_below hcd b3; have E3 := E2d.below b3)
    | (go_at_call 11; refine (rsame_any _ _ _).mono ?_; rintro e w4 ⟨rfl, rfl⟩)
    | (go_at_call 8; refine (awake_any _ E3).mono ?_; rintro e w5 ⟨rfl, b5⟩))
  all_goals
    go_wp2_with fail
    go_ret
    exact ⟨rfl, below_trans (below_trans (below_trans (below_trans b1 (alloc_below _ _)) b2) (below_trans ((Below.refl _ w2).drew) b3)) b5⟩
set_option maxHeartbeats 1000000 in
theorem forms_miss5 (v x : Nat) (tx : List UInt8) (w : World) (E : Env w) (f1 : ∀ w, Calls Tryd.prog 16 #[.int .u64 (v : Int)] w fun e w' => e = .returned (.float .f64 x) ∧ w = w') (t1 : Hid (∀ w, Env w → Calls Tryd.prog 14 #[.float .f64 x] w fun e w' => e = .returned (.string ⟨tx.toArray⟩) ∧ Below w.heap.size w w')) (hl : tx.length ≤ 110)
    (p1 : Hid (∀ w, Env w → Calls Tryd.prog 12 #[.string ⟨(tx ++ [112, 48]).toArray⟩] w fun e w' => e = .returned (.tuple #[.float .f64 0, .int .i64 13]) ∧ Below w.heap.size w w')) :
    Calls Tryd.prog 6 #[.int .u64 (v : Int), .int .i64 5] w fun e w' => e = .returned (.bool true) ∧ Below w.heap.size w w' := by
  have hap := ba_append
  go_enter Tryd.func6, Tryd.ntmps6
  go_wp2_with (go_at_call 16; refine (f1 _).mono ?_)
  rintro e w1 ⟨rfl, rfl⟩
  go_wp2_with (go_at_call 14; refine (t1.out _ E).mono ?_)
  rintro e w1 ⟨rfl, b1⟩
  go_wp2_with (go_at_call 12; refine (p1.out _ ((E.below b1).below (alloc_below _ _))).mono ?_)
  rintro e w2 ⟨rfl, b2⟩
  have E2 := ((E.below b1).below (alloc_below _ _)).below b2
  have hs := same_zero
  go_wp2_with (first
    | (go_at_call 11; refine (rsame_any _ _ _).mono ?_; rintro e w3 ⟨rfl, rfl⟩)
    | (go_at_call 8; refine (awake_any _ E2).mono ?_; rintro e w5 ⟨rfl, b5⟩))
  go_ret
  exact ⟨rfl, below_trans (below_trans (below_trans b1 (alloc_below _ _)) b2) b5⟩
theorem forms_at5 (v : Nat) (hv : v < 2 ^ 64) (w : World) (E : Env w) :
    Calls Tryd.prog 6 #[.int .u64 (v : Int), .int .i64 5] w fun e w' => e = .returned (.bool true) ∧ Below w.heap.size w w' := by
  have f1 := fun w => rfrom_any v w hv
  have hx := norm_bits hv
  generalize bitsF v = x at *
  have t1 := Lib.hid (fun w E => text_any x hx.lt w E)
  have hl := textF_len x
  generalize ht : textF x = tx at *
  have sz : ∀ l : List UInt8, (⟨l.toArray⟩ : ByteArray).size = l.length := fun l => by rw [Lib.size_eq]
  have hsz : (⟨(tx ++ [112, 48]).toArray⟩ : ByteArray).size ≤ 1000 := by rw [sz]; simp; omega
  by_cases h : ∃ y, Norm y ∧ textF y = tx ++ [112, 48]
  · obtain ⟨y, hy, e⟩ := h
    refine forms_hit5 v x tx w E f1 t1 (by omega) y (Lib.hid (fun w E => parse_hit _ y hy (by rw [e]) hsz w E)) (Lib.hid (fun w E => by rw [← e]; exact text_any y hy.lt w E)) ?_
    cases h : sameB x y
    · rfl
    · exfalso
      have := sameB_true.1 h
      rw [hx.nrm, hy.nrm] at this
      rw [← this, ht] at e
      have := congrArg List.length e
      simp only [List.length_append, List.length_cons, List.length_nil] at this
      omega
  · exact forms_miss5 v x tx w E f1 t1 (by omega) (Lib.hid (fun w E => parse_miss _ (fun y hy e => h ⟨y, hy, e⟩) hsz w E))

set_option maxHeartbeats 1000000 in
theorem forms_hit6 (v x : Nat) (tx : List UInt8) (w : World) (E : Env w) (f1 : ∀ w, Calls Tryd.prog 16 #[.int .u64 (v : Int)] w fun e w' => e = .returned (.float .f64 x) ∧ w = w') (t1 : Hid (∀ w, Env w → Calls Tryd.prog 14 #[.float .f64 x] w fun e w' => e = .returned (.string ⟨tx.toArray⟩) ∧ Below w.heap.size w w')) (hl : tx.length ≤ 110) (y : Nat)
    (p1 : Hid (∀ w, Env w → Calls Tryd.prog 12 #[.string ⟨(45 :: 45 :: tx).toArray⟩] w fun e w' => e = .returned (.tuple #[.float .f64 y, .int .i64 0]) ∧ Below w.heap.size w w')) (t2 : Hid (∀ w, Env w → Calls Tryd.prog 14 #[.float .f64 y] w fun e w' => e = .returned (.string ⟨(45 :: 45 :: tx).toArray⟩) ∧ Below w.heap.size w w')) (hs : sameB x y = false) :
    Calls Tryd.prog 6 #[.int .u64 (v : Int), .int .i64 6] w fun e w' => e = .returned (.bool true) ∧ Below w.heap.size w w' := by
  have hap := ba_append
  go_enter Tryd.func6, Tryd.ntmps6
  go_wp2_with (go_at_call 16; refine (f1 _).mono ?_)
  rintro e w1 ⟨rfl, rfl⟩
  go_wp2_with (go_at_call 14; refine (t1.out _ E).mono ?_)
  rintro e w1 ⟨rfl, b1⟩
  go_wp2_with (go_at_call 12; refine (p1.out _ ((E.below b1).below (alloc_below _ _))).mono ?_)
  rintro e w2 ⟨rfl, b2⟩
  have E2 := ((E.below b1).below (alloc_below _ _)).below b2
  have hc := alloc_cell _ _ _ _ 6 (.string ⟨(45 :: 45 :: tx).toArray⟩) rfl b2
  have hcd : w2.drew.cell? ⟨w1.heap.size, 6, none⟩ = some (.string ⟨(45 :: 45 :: tx).toArray⟩) := hc
  have E2d : Env w2.drew := E2.below ((Below.refl _ w2).drew)
  go_wp2_with fail
  go_region_with (first
    | (go_at_call 14; refine (t2.out _ E2d).mono ?_; rintro e w3 ⟨rfl, b3⟩; have hc3 := cell_below hcd b3; have E3 := E2d.below b3)
    | (go_at_call 11; refine (rsame_any _ _ _).mono ?_; rintro e w4 ⟨rfl, rfl⟩)
    | (go_at_call 8; refine (awake_any _ E3).mono ?_; rintro e w5 ⟨rfl, b5⟩))
  all_goals
    go_wp2_with fail
    go_ret
    exact ⟨rfl, below_trans (below_trans (below_trans (below_trans b1 (alloc_below _ _)) b2) (below_trans ((Below.refl _ w2).drew) b3)) b5⟩
set_option maxHeartbeats 1000000 in
theorem forms_miss6 (v x : Nat) (tx : List UInt8) (w : World) (E : Env w) (f1 : ∀ w, Calls Tryd.prog 16 #[.int .u64 (v : Int)] w fun e w' => e = .returned (.float .f64 x) ∧ w = w') (t1 : Hid (∀ w, Env w → Calls Tryd.prog 14 #[.float .f64 x] w fun e w' => e = .returned (.string ⟨tx.toArray⟩) ∧ Below w.heap.size w w')) (hl : tx.length ≤ 110)
    (p1 : Hid (∀ w, Env w → Calls Tryd.prog 12 #[.string ⟨(45 :: 45 :: tx).toArray⟩] w fun e w' => e = .returned (.tuple #[.float .f64 0, .int .i64 13]) ∧ Below w.heap.size w w')) :
    Calls Tryd.prog 6 #[.int .u64 (v : Int), .int .i64 6] w fun e w' => e = .returned (.bool true) ∧ Below w.heap.size w w' := by
  have hap := ba_append
  go_enter Tryd.func6, Tryd.ntmps6
  go_wp2_with (go_at_call 16; refine (f1 _).mono ?_)
  rintro e w1 ⟨rfl, rfl⟩
  go_wp2_with (go_at_call 14; refine (t1.out _ E).mono ?_)
  rintro e w1 ⟨rfl, b1⟩
  go_wp2_with (go_at_call 12; refine (p1.out _ ((E.below b1).below (alloc_below _ _))).mono ?_)
  rintro e w2 ⟨rfl, b2⟩
  have E2 := ((E.below b1).below (alloc_below _ _)).below b2
  have hs := same_zero
  go_wp2_with (first
    | (go_at_call 11; refine (rsame_any _ _ _).mono ?_; rintro e w3 ⟨rfl, rfl⟩)
    | (go_at_call 8; refine (awake_any _ E2).mono ?_; rintro e w5 ⟨rfl, b5⟩))
  go_ret
  exact ⟨rfl, below_trans (below_trans (below_trans b1 (alloc_below _ _)) b2) b5⟩
theorem forms_at6 (v : Nat) (hv : v < 2 ^ 64) (w : World) (E : Env w) :
    Calls Tryd.prog 6 #[.int .u64 (v : Int), .int .i64 6] w fun e w' => e = .returned (.bool true) ∧ Below w.heap.size w w' := by
  have f1 := fun w => rfrom_any v w hv
  have hx := norm_bits hv
  generalize bitsF v = x at *
  have t1 := Lib.hid (fun w E => text_any x hx.lt w E)
  have hl := textF_len x
  generalize ht : textF x = tx at *
  have sz : ∀ l : List UInt8, (⟨l.toArray⟩ : ByteArray).size = l.length := fun l => by rw [Lib.size_eq]
  have hsz : (⟨(45 :: 45 :: tx).toArray⟩ : ByteArray).size ≤ 1000 := by rw [sz]; simp; omega
  by_cases h : ∃ y, Norm y ∧ textF y = 45 :: 45 :: tx
  · obtain ⟨y, hy, e⟩ := h
    refine forms_hit6 v x tx w E f1 t1 (by omega) y (Lib.hid (fun w E => parse_hit _ y hy (by rw [e]) hsz w E)) (Lib.hid (fun w E => by rw [← e]; exact text_any y hy.lt w E)) ?_
    cases h : sameB x y
    · rfl
    · exfalso
      have := sameB_true.1 h
      rw [hx.nrm, hy.nrm] at this
      rw [← this, ht] at e
      have := congrArg List.length e
      simp only [List.length_cons] at this
      omega
  · exact forms_miss6 v x tx w E f1 t1 (by omega) (Lib.hid (fun w E => parse_miss _ (fun y hy e => h ⟨y, hy, e⟩) hsz w E))

set_option maxHeartbeats 1000000 in
theorem forms_hit7 (v x : Nat) (tx : List UInt8) (w : World) (E : Env w) (f1 : ∀ w, Calls Tryd.prog 16 #[.int .u64 (v : Int)] w fun e w' => e = .returned (.float .f64 x) ∧ w = w') (t1 : Hid (∀ w, Env w → Calls Tryd.prog 14 #[.float .f64 x] w fun e w' => e = .returned (.string ⟨tx.toArray⟩) ∧ Below w.heap.size w w')) (hl : tx.length ≤ 110) (y : Nat)
    (p1 : Hid (∀ w, Env w → Calls Tryd.prog 12 #[.string ⟨(tx ++ [46]).toArray⟩] w fun e w' => e = .returned (.tuple #[.float .f64 y, .int .i64 0]) ∧ Below w.heap.size w w')) (t2 : Hid (∀ w, Env w → Calls Tryd.prog 14 #[.float .f64 y] w fun e w' => e = .returned (.string ⟨(tx ++ [46]).toArray⟩) ∧ Below w.heap.size w w')) (hs : sameB x y = false) :
    Calls Tryd.prog 6 #[.int .u64 (v : Int), .int .i64 7] w fun e w' => e = .returned (.bool true) ∧ Below w.heap.size w w' := by
  have hap := ba_append
  go_enter Tryd.func6, Tryd.ntmps6
  go_wp2_with (go_at_call 16; refine (f1 _).mono ?_)
  rintro e w1 ⟨rfl, rfl⟩
  go_wp2_with (go_at_call 14; refine (t1.out _ E).mono ?_)
  rintro e w1 ⟨rfl, b1⟩
  go_wp2_with (go_at_call 12; refine (p1.out _ ((E.below b1).below (alloc_below _ _))).mono ?_)
  rintro e w2 ⟨rfl, b2⟩
  have E2 := ((E.below b1).below (alloc_below _ _)).below b2
  have hc := alloc_cell _ _ _ _ 7 (.string ⟨(tx ++ [46]).toArray⟩) rfl b2
  have hcd : w2.drew.cell? ⟨w1.heap.size, 7, none⟩ = some (.string ⟨(tx ++ [46]).toArray⟩) := hc
  have E2d : Env w2.drew := E2.below ((Below.refl _ w2).drew)
  go_wp2_with fail
  go_region_with (first
    | (go_at_call 14; refine (t2.out _ E2d).mono ?_; rintro e w3 ⟨rfl, b3⟩; have hc3 := cell_below hcd b3; have E3 := E2d.below b3)
    | (go_at_call 11; refine (rsame_any _ _ _).mono ?_; rintro e w4 ⟨rfl, rfl⟩)
    | (go_at_call 8; refine (awake_any _ E3).mono ?_; rintro e w5 ⟨rfl, b5⟩))
  all_goals
    go_wp2_with fail
    go_ret
    exact ⟨rfl, below_trans (below_trans (below_trans (below_trans b1 (alloc_below _ _)) b2) (below_trans ((Below.refl _ w2).drew) b3)) b5⟩
set_option maxHeartbeats 1000000 in
theorem forms_miss7 (v x : Nat) (tx : List UInt8) (w : World) (E : Env w) (f1 : ∀ w, Calls Tryd.prog 16 #[.int .u64 (v : Int)] w fun e w' => e = .returned (.float .f64 x) ∧ w = w') (t1 : Hid (∀ w, Env w → Calls Tryd.prog 14 #[.float .f64 x] w fun e w' => e = .returned (.string ⟨tx.toArray⟩) ∧ Below w.heap.size w w')) (hl : tx.length ≤ 110)
    (p1 : Hid (∀ w, Env w → Calls Tryd.prog 12 #[.string ⟨(tx ++ [46]).toArray⟩] w fun e w' => e = .returned (.tuple #[.float .f64 0, .int .i64 13]) ∧ Below w.heap.size w w')) :
    Calls Tryd.prog 6 #[.int .u64 (v : Int), .int .i64 7] w fun e w' => e = .returned (.bool true) ∧ Below w.heap.size w w' := by
  have hap := ba_append
  go_enter Tryd.func6, Tryd.ntmps6
  go_wp2_with (go_at_call 16; refine (f1 _).mono ?_)
  rintro e w1 ⟨rfl, rfl⟩
  go_wp2_with (go_at_call 14; refine (t1.out _ E).mono ?_)
  rintro e w1 ⟨rfl, b1⟩
  go_wp2_with (go_at_call 12; refine (p1.out _ ((E.below b1).below (alloc_below _ _))).mono ?_)
  rintro e w2 ⟨rfl, b2⟩
  have E2 := ((E.below b1).below (alloc_below _ _)).below b2
  have hs := same_zero
  go_wp2_with (first
    | (go_at_call 11; refine (rsame_any _ _ _).mono ?_; rintro e w3 ⟨rfl, rfl⟩)
    | (go_at_call 8; refine (awake_any _ E2).mono ?_; rintro e w5 ⟨rfl, b5⟩))
  go_ret
  exact ⟨rfl, below_trans (below_trans (below_trans b1 (alloc_below _ _)) b2) b5⟩
theorem forms_at7 (v : Nat) (hv : v < 2 ^ 64) (w : World) (E : Env w) :
    Calls Tryd.prog 6 #[.int .u64 (v : Int), .int .i64 7] w fun e w' => e = .returned (.bool true) ∧ Below w.heap.size w w' := by
  have f1 := fun w => rfrom_any v w hv
  have hx := norm_bits hv
  generalize bitsF v = x at *
  have t1 := Lib.hid (fun w E => text_any x hx.lt w E)
  have hl := textF_len x
  generalize ht : textF x = tx at *
  have sz : ∀ l : List UInt8, (⟨l.toArray⟩ : ByteArray).size = l.length := fun l => by rw [Lib.size_eq]
  have hsz : (⟨(tx ++ [46]).toArray⟩ : ByteArray).size ≤ 1000 := by rw [sz]; simp; omega
  by_cases h : ∃ y, Norm y ∧ textF y = tx ++ [46]
  · obtain ⟨y, hy, e⟩ := h
    refine forms_hit7 v x tx w E f1 t1 (by omega) y (Lib.hid (fun w E => parse_hit _ y hy (by rw [e]) hsz w E)) (Lib.hid (fun w E => by rw [← e]; exact text_any y hy.lt w E)) ?_
    cases h : sameB x y
    · rfl
    · exfalso
      have := sameB_true.1 h
      rw [hx.nrm, hy.nrm] at this
      rw [← this, ht] at e
      have := congrArg List.length e
      simp only [List.length_append, List.length_cons, List.length_nil] at this
      omega
  · exact forms_miss7 v x tx w E f1 t1 (by omega) (Lib.hid (fun w E => parse_miss _ (fun y hy e => h ⟨y, hy, e⟩) hsz w E))

theorem forms_all (v how : Int) (w : World) (E : Env w) (hv : (Lit.int .u64 v).wf = true) (_ : (Lit.int .i64 how).wf = true) :
    Calls Tryd.prog 6 #[.int .u64 v, .int .i64 how] w fun e w' => e = .returned (.bool true) ∧ Below w.heap.size w w' := by
  obtain ⟨n, rfl, hn⟩ := u64_open hv
  by_cases h : how < 0 ∨ 8 ≤ how
  · refine forms_out n how w E hn _ _ rfl rfl ?_
    rcases h with h | h
    · rw [decide_eq_true h]; rfl
    · rw [decide_eq_true h]; simp
  · have hk : how = 0 ∨ how = 1 ∨ how = 2 ∨ how = 3 ∨ how = 4 ∨ how = 5 ∨ how = 6 ∨ how = 7 := by omega
    rcases hk with rfl | rfl | rfl | rfl | rfl | rfl | rfl | rfl
    · exact forms_at0 n hn w E
    · exact forms_at1 n hn w E
    · exact forms_at2 n hn w E
    · exact forms_at3 n hn w E
    · exact forms_at4 n hn w E
    · exact forms_at5 n hn w E
    · exact forms_at6 n hn w E
    · exact forms_at7 n hn w E
end Go.Proofs.YtjepjheklnaidaaDoor
