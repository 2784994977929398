/-
  From the row's condition 'laid' to what the walks ask of the world.
-/
import Derived.Test.YtjepjheklnaidaaDoorBase
import Derived.LaidSub
import Derived.Stop.LaidErr
import Derived.SevenTiedAt
import Derived.Lay
import Derived.Handy
namespace Go.Proofs.YtjepjheklnaidaaDoor
open Go Go.RowKit
set_option maxRecDepth 100000

theorem gTab : Tryd.prog.globalNamed "internal/strconv.uint64pow10" = some 4 := by kernel_rfl
theorem gBru : Tryd.prog.globalNamed "math/bits.deBruijn64tab" = some 6 := by kernel_rfl
theorem gSyn : Tryd.prog.globalNamed "strconv.ErrSyntax" = some 2 := by kernel_rfl
theorem gRng : Tryd.prog.globalNamed "strconv.ErrRange" = some 3 := by kernel_rfl
theorem star : "*" ++ "errors.errorString" = "*errors.errorString" := by decide
theorem rowErr (u : TypeId) (h : Tryd.prog.typeName? 3 u = some "*errors.errorString") : u = 122 :=
  typeName_ptr_named (nm := "errors.errorString") (by rw [star]; kernel_rfl) (by kernel_rfl) (by decide) u (by rw [star]; exact h)

/-- The list that each row of this seat bears. -/
def laidL : List (String × DataW Unit) := Rows.ftextBackRow.laid
def bruTab : List Int := [0, 1, 56, 2, 57, 49, 28, 3, 61, 58, 42, 50, 38, 29, 17, 4, 62, 47, 59, 36, 45, 43, 51, 22, 53, 39, 33, 30, 24, 18, 12, 5, 63, 55, 48, 27, 60, 41, 37, 16, 46, 35, 44, 21, 52, 32, 23, 11, 54, 26, 40, 15, 34, 20, 31, 10, 25, 14, 19, 9, 13, 8, 7, 6]

theorem env_of_laid {W : World} (h : laidMet Tryd.prog laidL W) : Env W := by
  have h1 := h.filter fun x => x.1 == "internal/strconv.uint64pow10"
  have h2 := h.filter fun x => x.1 == "math/bits.deBruijn64tab"
  have h3 := h.filter fun x => x.1 == "strconv.ErrSyntax"
  have h4 := h.filter fun x => x.1 == "strconv.ErrRange"
  rw [show (laidL.filter fun x => x.1 == "internal/strconv.uint64pow10") = [("internal/strconv.uint64pow10", Lib.tabData .u64 Lib.pow10Tab)] by kernel_rfl] at h1
  rw [show (laidL.filter fun x => x.1 == "math/bits.deBruijn64tab") = [("math/bits.deBruijn64tab", Lib.tabData .u8 bruTab)] by kernel_rfl] at h2
  rw [show (laidL.filter fun x => x.1 == "strconv.ErrSyntax") = [("strconv.ErrSyntax", .iface "*errors.errorString" (.ptr (.agg [.lit (.string [105, 110, 118, 97, 108, 105, 100, 32, 115, 121, 110, 116, 97, 120])])))] by kernel_rfl] at h3
  rw [show (laidL.filter fun x => x.1 == "strconv.ErrRange") = [("strconv.ErrRange", .iface "*errors.errorString" (.ptr (.agg [.lit (.string [118, 97, 108, 117, 101, 32, 111, 117, 116, 32, 111, 102, 32, 114, 97, 110, 103, 101])])))] by kernel_rfl] at h4
  have t1 := Lib.tabIs_of_head gTab (by kernel_rfl) Tryd.underlying116 Tryd.underlying36 (by kernel_rfl) (by kernel_rfl) h1
  have t2 := Lib.tabIs_of_head gBru (by kernel_rfl) Tryd.underlying128 Tryd.underlying5 (by kernel_rfl) (by kernel_rfl) h2
  obtain ⟨a3, s3, v3, -, -, -⟩ := laid_sentinel h3 gSyn (by kernel_rfl) Tryd.underlying55 rowErr Tryd.underlying122 Tryd.underlying124 rfl rfl Tryd.underlying9 (by kernel_rfl) (by kernel_rfl)
  obtain ⟨a4, s4, v4, -, -, -⟩ := laid_sentinel h4 gRng (by kernel_rfl) Tryd.underlying55 rowErr Tryd.underlying122 Tryd.underlying124 rfl rfl Tryd.underlying9 (by kernel_rfl) (by kernel_rfl)
  exact ⟨t2.cell gBru 15 (by decide), t1, ⟨_, _, by have h0 := World.var?_cell gSyn v3 0; simpa using h0⟩, ⟨_, _, by have h0 := World.var?_cell gRng v4 0; simpa using h0⟩⟩
end Go.Proofs.YtjepjheklnaidaaDoor
