/-
  The walk of strings.Cut at a separator of one byte.
-/
import Derived.Test.YtjepjheklnaidaaDoorText
import Derived.Lib.CutLaws
import Derived.Lib.IndexBytes
namespace Go.Proofs.YtjepjheklnaidaaDoor
open Go.RowKit
set_option maxRecDepth 100000

set_option maxHeartbeats 1000000 in
theorem cut_in (s : ByteArray) (c : UInt8) (w : World) (hs : s.size ≤ 1000000) :
    Calls Tryd.prog 43 #[.string s, .string ⟨#[c]⟩] w fun e w' => e = .returned (.tuple #[.string ⟨(Lib.cut s.data.toList [c]).1.toArray⟩, .string ⟨(Lib.cut s.data.toList [c]).2.1.toArray⟩, .bool (Lib.cut s.data.toList [c]).2.2]) ∧ Below w.heap.size w w' := by
  rcases Lib.indexB_cases s ⟨#[c]⟩ with hix | ⟨i, hix, hroom⟩
  · obtain ⟨e1, e2, e3⟩ := Lib.cutB_miss s ⟨#[c]⟩ hix
    have hix : Lib.indexByte s.data.toList c = -1 := (Lib.index_one _ _).symm.trans hix
    rw [show (⟨#[c]⟩ : ByteArray).data.toList = [c] from rfl] at e1 e2 e3
    rw [e1, e2, e3]
    go_enter Tryd.func43, Tryd.ntmps43
    go_wp2_with (go_at_call 59; refine (Tryd.stringslite_Index_one _ _ _).mono ?_; rintro e w' ⟨rfl, rfl⟩; rw [hix])
    go_ret3
    exact ⟨rfl, Below.refl _ _⟩
  · obtain ⟨e1, e2, e3⟩ := Lib.cutB_hit s ⟨#[c]⟩ i hix
    have hix : Lib.indexByte s.data.toList c = i := (Lib.index_one _ _).symm.trans hix
    rw [show (⟨#[c]⟩ : ByteArray).data.toList = [c] from rfl] at e1 e2 e3
    rw [show (⟨#[c]⟩ : ByteArray).size = 1 from rfl] at e2 hroom
    rw [e1, e2, e3]
    have c1 : (0 : Int) ≤ ↑i := by omega
    have c2 : (↑i : Int) ≤ ↑s.size := by omega
    have c3 : (0 : Int) ≤ ↑i + 1 := by omega
    have c5 : i < 1000000 := by omega
    have c6 : IntKind.i64.wrap ((i : Int) + 1) = (i : Int) + 1 := by rw [IntKind.wrap_i64]; omega
    have c4 : (↑i + 1 : Int) ≤ ↑s.size := by omega
    go_enter Tryd.func43, Tryd.ntmps43
    go_wp2_with (go_at_call 59; refine (Tryd.stringslite_Index_one _ _ _).mono ?_; rintro e w' ⟨rfl, rfl⟩; rw [hix])
    go_region
    go_wp2
    go_ret3
    exact ⟨rfl, (Below.refl _ _).drew⟩
theorem cut_one (s : ByteArray) (c : UInt8) (w : World) (H X : List UInt8) (ok : Bool) (h : Lib.cut s.data.toList [c] = (H, X, ok)) (hs : s.size ≤ 1000000) :
    Calls Tryd.prog 33 #[.string s, .string ⟨#[c]⟩] w fun e w' => e = .returned (.tuple #[.string ⟨H.toArray⟩, .string ⟨X.toArray⟩, .bool ok]) ∧ Below w.heap.size w w' := by
  have hc := cut_in s c w hs
  rw [h] at hc
  have hc : Calls Tryd.prog 43 #[.string s, .string ⟨#[c]⟩] w fun e w' => e = .returned (.tuple #[.string ⟨H.toArray⟩, .string ⟨X.toArray⟩, .bool ok]) ∧ Below w.heap.size w w' := hc
  clear h hs
  go_enter Tryd.func33, Tryd.ntmps33
  go_wp2_with (go_at_call 43; refine hc.mono ?_; rintro e w' ⟨rfl, hb⟩)
  go_ret3
  exact ⟨rfl, hb⟩
end Go.Proofs.YtjepjheklnaidaaDoor
