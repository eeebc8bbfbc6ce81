/- What the rows' listed variables give to the walks; a world that holds them. -/
import Derived.Test.YtbkoajipljjonaaDoorRows
import Derived.Test.YtbkoajipljjonaaDoorQuote
import Derived.Test.YtbkoajipljjonaaDoorRead
import Derived.Test.YtbkoajipljjonaaDoorShelf
import Derived.WalkKit
import Derived.ProofKit
import Derived.OpenShut
import Derived.Deep.DeepHandedRow
import Derived.Lib.LaidTab
import Derived.LaidSub
import Derived.MakeChecks
import Derived.Lay
import Derived.Carry
namespace Go.Proofs.YtbkoajipljjonaaDoor
open Go.ChangeShapes Go.WideShapes Go.ChangeAt Go.RowKit

theorem own_none : ownKnob Tryd.prog.godebug = none := by kernel_rfl
theorem laid_out : laidOutB Tryd.prog = true := by kernel_rfl
theorem g_pow : Tryd.prog.globalNamed "internal/strconv.uint64pow10" = some 0 := by kernel_rfl
theorem tab_is : (Rows.laid_internal_strconv_uint64pow10 : DataW Unit) = Lib.tabData .u64 Lib.pow10Tab := by kernel_rfl
theorem env_of {W : World} (hL : laidMetH Tryd.prog Rows.valueSizesRow.laid W) (hsh : W.ShapedOpen Tryd.prog) : Env W := by
  have hL : laidMet Tryd.prog Rows.valueSizesRow.laid W := hL
  have h1 := hL.filter (fun x => x.1 == "internal/strconv.uint64pow10")
  have e1 : Rows.valueSizesRow.laid.filter (fun x => x.1 == "internal/strconv.uint64pow10") = [("internal/strconv.uint64pow10", Lib.tabData .u64 Lib.pow10Tab)] := by
    rw [← tab_is]
    rfl
  rw [e1] at h1
  have htab : Lib.TabIs Tryd.prog W "internal/strconv.uint64pow10" .u64 Lib.pow10Tab := by
    refine Lib.tabIs_of_head (rest := []) g_pow (by kernel_rfl) (t := 129) (e := 108) (n := 20) ?_ ?_ ?_ ?_ h1
    · exact Tryd.underlying129
    · exact Tryd.underlying108
    · kernel_rfl
    · kernel_rfl
  refine ⟨?_, htab, ?_⟩
  · exact Go.Proofs.cell_of_shapedOpen_int (zero := #[.int .i64 0]) (t := 3) hsh (of_decide_eq_true (by kernel_rfl)) (by kernel_rfl) rfl (by kernel_rfl) (by kernel_rfl) Tryd.underlying3
  · exact World.block_lt_of_cell? W _ (htab.cell g_pow 0 (by rw [Lib.pow10Tab_length]; omega))
end Go.Proofs.YtbkoajipljjonaaDoor
