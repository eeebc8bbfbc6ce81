/- Lists: what is taken while a test holds. -/
import Derived.Test.YtbkoajipljjonaaDoorVal
namespace Go.Proofs.YtbkoajipljjonaaDoor
theorem tw_at {α : Type} {p : α → Bool} : ∀ (l : List α) (k : Nat) (hk : k < l.length), (∀ x ∈ l.take k, p x = true) → p l[k] = false → l.takeWhile p = l.take k ∧ l.dropWhile p = l.drop k
  | [], _, hk, _, _ => by simp at hk
  | x :: l, 0, _, _, h => by
    have h : p x = false := h
    simp [h]
  | x :: l, k + 1, hk, ha, h => by
    have hx : p x = true := ha x (by simp)
    obtain ⟨h1, h2⟩ := tw_at l k (by simpa using hk) (fun y hy => ha y (by simp [hy])) (by simpa using h)
    simp [hx, h1, h2]
theorem tw_self {α : Type} {p : α → Bool} : ∀ {l : List α}, (∀ x ∈ l, p x = true) → l.takeWhile p = l
  | [], _ => rfl
  | x :: l, h => by rw [List.takeWhile_cons, if_pos (h x (.head _)), tw_self fun y hy => h y (.tail _ hy)]
theorem dw_nil {α : Type} {p : α → Bool} : ∀ {l : List α}, (∀ x ∈ l, p x = true) → l.dropWhile p = []
  | [], _ => rfl
  | x :: l, h => by rw [List.dropWhile_cons, if_pos (h x (.head _)), dw_nil fun y hy => h y (.tail _ hy)]
theorem tw_all {α : Type} {p : α → Bool} (l : List α) (k : Nat) (hk : k = l.length) (ha : ∀ x ∈ l.take k, p x = true) : l.takeWhile p = l.take k ∧ l.dropWhile p = l.drop k := by
  subst hk
  rw [List.take_length] at ha ⊢
  rw [List.drop_length]
  exact ⟨tw_self ha, dw_nil ha⟩
end Go.Proofs.YtbkoajipljjonaaDoor
