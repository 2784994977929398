/-
  The walk of the reference's hexOf and Parse.
-/
import Derived.Test.YtjepjheklnaidaaDoorRtexta
namespace Go.Proofs.YtjepjheklnaidaaDoor
open Go Go.RowKit F64
set_option maxRecDepth 100000

/-- A small hex digit; -1: it is none. -/
def hexOfI (c : UInt8) : Int := if 48 ≤ c.toNat ∧ c.toNat ≤ 57 then (c.toNat : Int) - 48 else if 97 ≤ c.toNat ∧ c.toNat ≤ 102 then (c.toNat : Int) - 87 else -1
theorem hexOf_any (c : UInt8) (w : World) : Calls Tryd.prog 24 #[.int .u8 (c.toNat : Int)] w fun e w' => e = .returned (.int .i64 (hexOfI c)) ∧ w = w' := by
  have hc := c.toNat_lt
  unfold hexOfI
  by_cases h1 : 48 ≤ c.toNat ∧ c.toNat ≤ 57
  · rw [if_pos h1]
    obtain ⟨a, b⟩ := h1
    go_enter Tryd.func24, Tryd.ntmps24
    go_wp2_with fail
    go_ret
    exact ⟨rfl, rfl⟩
  · rw [if_neg h1]
    by_cases h2 : 97 ≤ c.toNat ∧ c.toNat ≤ 102
    · rw [if_pos h2]
      obtain ⟨a, b⟩ := h2
      go_enter Tryd.func24, Tryd.ntmps24
      go_wp2_with fail
      all_goals go_ret
      all_goals
        refine ⟨?_, rfl⟩
        rw [show (c.toNat : Int) - 87 = (c.toNat : Int) - 97 + 10 by omega]
        rfl
    · rw [if_neg h2]
      go_enter Tryd.func24, Tryd.ntmps24
      go_wp2_with fail
      all_goals go_ret
      all_goals exact ⟨rfl, rfl⟩
end Go.Proofs.YtjepjheklnaidaaDoor
