/- What Get answers; the zero value. -/
import Derived.Test.YtbkoajipljjonaaDoorGet
namespace Go.Proofs.YtbkoajipljjonaaDoor
open Go.RowKit

/-- What Get answers. -/
def GetIs (v : V) (key : ByteArray) (x : V) (is : Bool) : Prop :=
  (is = true ∧ ∃ k : Nat, v.kind = 4 ∧ v.keys.length = v.items.length ∧ v.keys[k]? = some key ∧ (∀ j, j < k → v.keys[j]? ≠ some key) ∧ v.items[k]? = some x) ∨
  (is = false ∧ x = V.zero ∧ ¬ (v.kind = 4 ∧ v.keys.length = v.items.length ∧ key ∈ v.keys))

theorem zero_rd (C : Cm) : Rd C V.zero.gv (V.zero.cells none 0 none 0) := V.mk_rd _ (by simp [V.zero, V.kind, okAt]; decide) (by simp [V.zero, V.num, okAt]; decide) (by simp [V.zero, V.str, okAt, ByteArray.size]) ⟨by simp [V.zero, V.items, V.gvs], by simp [maxLen], .inl (by simp [V.zero, V.items, V.gvs])⟩ ⟨by simp [V.zero, V.keys, strsGv], by simp [maxLen], .inl (by simp [V.zero, V.keys, strsGv])⟩

end Go.Proofs.YtbkoajipljjonaaDoor
