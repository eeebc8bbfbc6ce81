/- value.List, value.Text, value.Number. -/
import Derived.Test.YtbkoajipljjonaaDoorProg
import Derived.WalkKit
import Derived.Lib.Hide
import Derived.Handy
namespace Go.Proofs.YtbkoajipljjonaaDoor
open Go.RowKit

set_option maxHeartbeats 1000000 in
set_option maxRecDepth 100000 in
theorem list_calls (w : World) (A : Option Addr) (n c : Nat) :
    Calls Tryd.prog 16 #[.slice A n c] w fun e w' => e = .returned (.agg #[.int .i64 3, .int .i64 0, .string ⟨#[]⟩, .slice A n c, .slice none 0 0]) ∧ Below w.heap.size w w' := by
  go_enter Tryd.func16, Tryd.ntmps16
  go_wp2_with fail
  go_returns
  refine ⟨rfl, ?_⟩
  go_grown
set_option maxHeartbeats 1000000 in
set_option maxRecDepth 100000 in
theorem vtext_calls (w : World) (s : ByteArray) :
    Calls Tryd.prog 8 #[.string s] w fun e w' => e = .returned (.agg #[.int .i64 2, .int .i64 0, .string s, .slice none 0 0, .slice none 0 0]) ∧ Below w.heap.size w w' := by
  go_enter Tryd.func8, Tryd.ntmps8
  go_wp2_with fail
  go_returns
  refine ⟨rfl, ?_⟩
  go_grown
set_option maxHeartbeats 1000000 in
set_option maxRecDepth 100000 in
theorem number_calls (w : World) (n : Int) :
    Calls Tryd.prog 21 #[.int .i64 n] w fun e w' => e = .returned (.agg #[.int .i64 1, .int .i64 n, .string ⟨#[]⟩, .slice none 0 0, .slice none 0 0]) ∧ Below w.heap.size w w' := by
  go_enter Tryd.func21, Tryd.ntmps21
  go_wp2_with fail
  go_returns
  refine ⟨rfl, ?_⟩
  go_grown
end Go.Proofs.YtbkoajipljjonaaDoor
