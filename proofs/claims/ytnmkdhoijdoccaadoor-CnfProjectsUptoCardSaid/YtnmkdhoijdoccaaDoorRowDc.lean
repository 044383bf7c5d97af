/- Door rows of the formulas: the listed tables. -/
import Derived.Test.YtnmkdhoijdoccaaDoorRowF
import Derived.Test.YtnmkdhoijdoccaaDoorCnKy
import Derived.Test.YtnmkdhoijdoccaaDoorCards
import Derived.Test.YtnmkdhoijdoccaaDoorTie
import Derived.Deep.DeepHandedRow
import Derived.Lib.LaidTab
set_option linter.unusedVariables false
set_option linter.unusedSimpArgs false
namespace Go.Proofs.YtnmkdhoijdoccaaDoor
open Go Go.RowKit Go.ChangeShapes Go.WideShapes Go.ChangeAt SL

/-- What the row's list gives: the table of powers of ten. -/
theorem tab_of {laid : List (String × DataW Unit)} (hf : laid.filter (fun x => x.1 == "internal/strconv.uint64pow10") = [("internal/strconv.uint64pow10", Rows.laid_internal_strconv_uint64pow10)]) {W : World} (h : laidMetH Tryd.prog laid W) : Tab W := by
  have h1 := h.filter (fun x => x.1 == "internal/strconv.uint64pow10")
  rw [hf, show (Rows.laid_internal_strconv_uint64pow10 : DataW Unit) = Lib.tabData .u64 Lib.pow10Tab from by kernel_rfl] at h1
  exact Lib.tabIs_of_head (rest := []) (g := 1) (t := 138) (n := 20) (by kernel_rfl) (by kernel_rfl) (by kernel_rfl) Tryd.underlying35 (by kernel_rfl) (by kernel_rfl) h1

/-- A world for the witness: the settled one, the listed tables holding what the program's text lays. -/
def put (d : DataW Unit) : Obj → Obj
  | .cells _ t fr => .cells ((match d with | .agg l => l.map (fun x : DataW Unit => match x with | .lit (.int k n) => Value.int k n | _ => Value.nilIface) | _ => []).toArray) t fr
  | o => o
noncomputable def laidWorld (os : Os) : World :=
  { World.holding Tryd.prog os ⟨#[], #[], []⟩ with heap := (((World.holding Tryd.prog os ⟨#[], #[], []⟩).heap.modify 1 (put Rows.laid_internal_strconv_uint64pow10)).modify 2 (put Rows.laid_math_bits_deBruijn32tab)).modify 3 (put Rows.laid_math_bits_deBruijn64tab) }
end Go.Proofs.YtnmkdhoijdoccaaDoor
