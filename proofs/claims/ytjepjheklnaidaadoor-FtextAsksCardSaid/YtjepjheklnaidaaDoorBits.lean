/-
  The walk of ftext.bits.
-/
import Derived.Test.YtjepjheklnaidaaDoorCut
namespace Go.Proofs.YtjepjheklnaidaaDoor
open Go.RowKit F64
set_option maxRecDepth 100000

theorem bits_nan (w : World) : Calls Tryd.prog 23 #[.string ⟨#[110, 97, 110]⟩] w fun e w' => e = .returned (.tuple #[.int .u64 9221120237041090560, .bool true]) ∧ w' = w := by
  go_enter Tryd.func23, Tryd.ntmps23
  go_wp2_with fail
  go_ret2
  exact ⟨rfl, rfl⟩
theorem bits_inf (w : World) : Calls Tryd.prog 23 #[.string ⟨#[105, 110, 102]⟩] w fun e w' => e = .returned (.tuple #[.int .u64 9218868437227405312, .bool true]) ∧ w' = w := by
  go_enter Tryd.func23, Tryd.ntmps23
  go_wp2_with fail
  go_ret2
  exact ⟨rfl, rfl⟩
theorem bits_zero (w : World) : Calls Tryd.prog 23 #[.string ⟨#[48]⟩] w fun e w' => e = .returned (.tuple #[.int .u64 0, .bool true]) ∧ w' = w := by
  go_enter Tryd.func23, Tryd.ntmps23
  go_wp2_with fail
  go_ret2
  exact ⟨rfl, rfl⟩


/-- A call of Cut that is known. -/
def CutIs (t : ByteArray) (c : UInt8) (H X : ByteArray) (ok : Bool) : Prop := ∀ w, Calls Tryd.prog 33 #[.string t, .string ⟨#[c]⟩] w fun e w' => e = .returned (.tuple #[.string H, .string X, .bool ok]) ∧ Below w.heap.size w w'
def AtoiOk (X : ByteArray) (v : Int) : Prop := ∀ w, Calls Tryd.prog 34 #[.string X] w fun e w' => e = .returned (.tuple #[.int .i64 v, .nilIface]) ∧ Below w.heap.size w w'
def AtoiBad (X : ByteArray) (v : Int) : Prop := ∀ w, Env w → Calls Tryd.prog 34 #[.string X] w fun e w' => ∃ N, e = .returned (.tuple #[.int .i64 v, .iface 86 (.pointer (some ⟨N, 0, none⟩))]) ∧ Below w.heap.size w w'
def RepIs (R Z : ByteArray) : Prop := ∀ w, Calls Tryd.prog 36 #[.string ⟨#[48]⟩, .int .i64 (13 - (R.size : Int))] w fun e w' => e = .returned (.string Z) ∧ Below w.heap.size w w'
def PuOk (t : ByteArray) (f : Nat) : Prop := ∀ w, Calls Tryd.prog 35 #[.string t, .int .i64 16, .int .i64 64] w fun e w' => e = .returned (.tuple #[.int .u64 f, .nilIface]) ∧ Below w.heap.size w w'
def PuBad (t : ByteArray) : Prop := ∀ w, Env w → Calls Tryd.prog 35 #[.string t, .int .i64 16, .int .i64 64] w fun e w' => ∃ N, e = .returned (.tuple #[.int .u64 0, .iface 86 (.pointer (some ⟨N, 0, none⟩))]) ∧ Below w.heap.size w w'
/-- It is none of the three words. -/
structure NoWord (t : ByteArray) : Prop where
  n1 : (t.toList == [110, 97, 110]) = false
  n2 : (t.toList == [105, 110, 102]) = false
  n3 : (t.toList == [48]) = false

set_option maxHeartbeats 1000000 in
theorem bits_atoi (t H X O R : ByteArray) (ok b2 : Bool) (v : Int) (w : World) (E : Env w) (hn : NoWord t) (h1 : CutIs t 112 H X ok) (h2 : CutIs H 46 O R b2) (h3 : AtoiBad X v) :
    Calls Tryd.prog 23 #[.string t] w fun e w' => e = .returned (.tuple #[.int .u64 0, .bool false]) ∧ Below w.heap.size w w' := by
  obtain ⟨n1, n2, n3⟩ := hn
  cases ok
  all_goals
    go_enter Tryd.func23, Tryd.ntmps23
    go_wp2_with (go_at_call 33; refine (h1 _).mono ?_)
    rintro e w1 ⟨rfl, b1⟩
    go_wp2_with (go_at_call 33; refine (h2 _).mono ?_)
    rintro e w2 ⟨rfl, b2⟩
    go_wp2_with (go_at_call 34; refine (h3 _ ((E.below b1).below b2)).mono ?_)
    rintro e w3 ⟨N, rfl, b3⟩
    go_wp2_with fail
    go_ret2
    exact ⟨rfl, below_trans (below_trans b1 b2) b3⟩
set_option maxHeartbeats 1000000 in
theorem bits_b (t H X O R : ByteArray) (ok b2 p1 p2 p3 : Bool) (v : Int) (w : World) (hn : NoWord t) (h1 : CutIs t 112 H X ok) (h2 : CutIs H 46 O R b2) (h3 : AtoiOk X v)
    (q1 : decide (13 < (R.size : Int)) = p1) (q2 : decide (v < -1022) = p2) (q3 : decide (1023 < v) = p3) (hbad : (!ok || p1 || p2 || p3) = true) :
    Calls Tryd.prog 23 #[.string t] w fun e w' => e = .returned (.tuple #[.int .u64 0, .bool false]) ∧ Below w.heap.size w w' := by
  obtain ⟨n1, n2, n3⟩ := hn
  cases ok <;> cases p1 <;> cases p2 <;> cases p3
  all_goals first | (exfalso; exact absurd hbad (by decide)) | skip
  all_goals
    clear hbad
    go_enter Tryd.func23, Tryd.ntmps23
    go_wp2_with (go_at_call 33; refine (h1 _).mono ?_)
    rintro e w1 ⟨rfl, b1⟩
    go_wp2_with (go_at_call 33; refine (h2 _).mono ?_)
    rintro e w2 ⟨rfl, b2⟩
    go_wp2_with (go_at_call 34; refine (h3 _).mono ?_)
    rintro e w3 ⟨rfl, b3⟩
    go_wp2_with fail
    go_ret2
    exact ⟨rfl, below_trans (below_trans b1 b2) b3⟩
set_option maxHeartbeats 1000000 in
theorem bits_c (t H X O R : ByteArray) (b2 o0 o1 z : Bool) (v g : Int) (w : World) (hn : NoWord t) (h1 : CutIs t 112 H X true) (h2 : CutIs H 46 O R b2) (h3 : AtoiOk X v)
    (q1 : decide (13 < (R.size : Int)) = false) (q2 : decide (v < -1022) = false) (q3 : decide (1023 < v) = false) (qr : (R.toList == []) = true)
    (qo : (O.toList == [48]) = o0) (qo1 : (O.toList == [49]) = o1) (qz : (v == -1022) = z) (hg : bits .or .u64 (IntKind.u64.wrap (IntKind.u64.wrap (wrap64 (v + 1023)) * 4503599627370496)) 0 = g) :
    Calls Tryd.prog 23 #[.string t] w fun e w' => e = .returned (.tuple #[.int .u64 (if (o0 && z) = true then 0 else g), .bool ((o0 && z) || o1)]) ∧ Below w.heap.size w w' := by
  obtain ⟨n1, n2, n3⟩ := hn
  cases o0 <;> cases o1 <;> cases z
  all_goals
    go_enter Tryd.func23, Tryd.ntmps23
    go_wp2_with (go_at_call 33; refine (h1 _).mono ?_)
    rintro e w1 ⟨rfl, b1⟩
    go_wp2_with (go_at_call 33; refine (h2 _).mono ?_)
    rintro e w2 ⟨rfl, b2⟩
    go_wp2_with (go_at_call 34; refine (h3 _).mono ?_)
    rintro e w3 ⟨rfl, b3⟩
    go_wp2_with fail
    go_ret2
    exact ⟨rfl, below_trans (below_trans b1 b2) b3⟩
set_option maxHeartbeats 1000000 in
theorem bits_d (t H X O R Z : ByteArray) (b2 : Bool) (v : Int) (w : World) (E : Env w) (hn : NoWord t) (h1 : CutIs t 112 H X true) (h2 : CutIs H 46 O R b2) (h3 : AtoiOk X v)
    (q1 : decide (13 < (R.size : Int)) = false) (q2 : decide (v < -1022) = false) (q3 : decide (1023 < v) = false) (qr : (R.toList == []) = false)
    (h4 : RepIs R Z) (hz : R.size + Z.size ≤ 26) (h5 : PuBad (R ++ Z)) :
    Calls Tryd.prog 23 #[.string t] w fun e w' => e = .returned (.tuple #[.int .u64 0, .bool false]) ∧ Below w.heap.size w w' := by
  obtain ⟨n1, n2, n3⟩ := hn
  have hR : R.size ≤ 13 := by have := of_decide_eq_false q1; omega
  go_enter Tryd.func23, Tryd.ntmps23
  go_wp2_with (go_at_call 33; refine (h1 _).mono ?_)
  rintro e w1 ⟨rfl, b1⟩
  go_wp2_with (go_at_call 33; refine (h2 _).mono ?_)
  rintro e w2 ⟨rfl, b2⟩
  go_wp2_with (go_at_call 34; refine (h3 _).mono ?_)
  rintro e w3 ⟨rfl, b3⟩
  go_wp2_with (go_at_call 36; refine (h4 _).mono ?_)
  rintro e w4 ⟨rfl, b4⟩
  go_wp2_with (go_at_call 35; refine (h5 _ ((((E.below b1).below b2).below b3).below b4)).mono ?_)
  rintro e w5 ⟨N, rfl, b5⟩
  go_wp2_with fail
  go_ret2
  exact ⟨rfl, below_trans (below_trans (below_trans (below_trans b1 b2) b3) b4) b5⟩
set_option maxHeartbeats 1000000 in
theorem bits_e (t H X O R Z : ByteArray) (f : Nat) (b2 o0 o1 z : Bool) (v g : Int) (w : World) (hn : NoWord t) (h1 : CutIs t 112 H X true) (h2 : CutIs H 46 O R b2) (h3 : AtoiOk X v)
    (q1 : decide (13 < (R.size : Int)) = false) (q2 : decide (v < -1022) = false) (q3 : decide (1023 < v) = false) (qr : (R.toList == []) = false)
    (h4 : RepIs R Z) (hz : R.size + Z.size ≤ 26) (h5 : PuOk (R ++ Z) f)
    (qo : (O.toList == [48]) = o0) (qo1 : (O.toList == [49]) = o1) (qz : (v == -1022) = z) (hg : bits .or .u64 (IntKind.u64.wrap (IntKind.u64.wrap (wrap64 (v + 1023)) * 4503599627370496)) (f : Int) = g) :
    Calls Tryd.prog 23 #[.string t] w fun e w' => e = .returned (.tuple #[.int .u64 (if (o0 && z) = true then (f : Int) else g), .bool ((o0 && z) || o1)]) ∧ Below w.heap.size w w' := by
  obtain ⟨n1, n2, n3⟩ := hn
  have hR : R.size ≤ 13 := by have := of_decide_eq_false q1; omega
  cases o0 <;> cases o1 <;> cases z
  all_goals
    go_enter Tryd.func23, Tryd.ntmps23
    go_wp2_with (go_at_call 33; refine (h1 _).mono ?_)
    rintro e w1 ⟨rfl, b1⟩
    go_wp2_with (go_at_call 33; refine (h2 _).mono ?_)
    rintro e w2 ⟨rfl, b2⟩
    go_wp2_with (go_at_call 34; refine (h3 _).mono ?_)
    rintro e w3 ⟨rfl, b3⟩
    go_wp2_with (go_at_call 36; refine (h4 _).mono ?_)
    rintro e w4 ⟨rfl, b4⟩
    go_wp2_with (go_at_call 35; refine (h5 _).mono ?_)
    rintro e w5 ⟨rfl, b5⟩
    go_wp2_with fail
    go_ret2
    exact ⟨rfl, below_trans (below_trans (below_trans (below_trans b1 b2) b3) b4) b5⟩
end Go.Proofs.YtjepjheklnaidaaDoor
