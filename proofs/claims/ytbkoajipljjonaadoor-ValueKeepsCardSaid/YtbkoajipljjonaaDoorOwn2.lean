/- A row of the call's own is settled: what becomes of other blocks. -/
import Derived.Test.YtbkoajipljjonaaDoorOwn
namespace Go.Proofs.YtbkoajipljjonaaDoor
open Go.RowKit
theorem OwnG.settle2 {C : Cm} {w : World} {base : Nat} {e : TypeId} {sz : Nat} {A : Option Addr} {n c : Nat} {es : List GV} (h : OwnG C w base e sz (.slice A n c) es) (hC : C.le w) (hfr : ∀ g, (Value.slice A n c).ownBlock = some g → ∀ o, C g o = none) :
    ∃ C', (∀ B, B ≤ base → Ext B C C') ∧ C'.le w ∧ RdSl C' A c sz es ∧ Plain A c ∧ ∀ g o, (Value.slice A n c).ownBlock ≠ some g → C' g o = C g o := by
  obtain ⟨css, h1, h2⟩ := h
  rcases h2.2 with ⟨hv, hn⟩ | ⟨g, cap, cur, hv, hb, hg, hcap, hmax, hcur, htake⟩
  · injection hv with e1 e2 e3
    subst e1 e3
    exact ⟨C, fun B _ => Ext.refl _ _, hC, ⟨by omega, by simp [maxLen], .inl (List.eq_nil_of_length_eq_zero hn)⟩, .inl ⟨rfl, rfl⟩, fun _ _ _ => rfl⟩
  · injection hv with e1 e2 e3
    subst e1 e3
    have hno := hfr g rfl
    refine ⟨C.put g css.flatten, fun B hB => Ext.put (Nat.le_trans hB hb) hno _, ?_, ⟨by omega, hmax, .inr ⟨g, 0, rfl, ?_⟩⟩, .inr ⟨g, 0, rfl⟩, ?_⟩
    · refine Cm.put_le hC (Below.refl _ _) (fun o v ho => ?_)
      rw [cell_of_row _ _ o _ _ _ hg]
      rw [← htake, List.getElem?_take] at ho
      split at ho
      · simpa using ho
      · cases ho
    · refine (h1.mono (Ext.put (B := 0) (Nat.zero_le _) hno _).more).rdE fun j u hj => ?_
      rw [Nat.zero_add, Cm.put_at]
      exact hj
    · intro g' o hne
      have : g' ≠ g := fun e => hne (by rw [e]; rfl)
      simp [Cm.put, this]
end Go.Proofs.YtbkoajipljjonaaDoor
