/- A text in quotes: what replacing one byte everywhere comes to; plain words. -/
import Derived.Lib.Replace
import Derived.Lib.SplitLaws
import Derived.Lib.CountLaws
namespace Go.Proofs.YtbkoajipljjonaaDoor
open Go.Lib

theorem replaceK_byte (c : UInt8) (new : List UInt8) : ∀ l : List UInt8, replaceK [c] new (count l [c]) l = l.flatMap fun x => if x = c then new else [x]
  | [] => by
    have h : count ([] : List UInt8) [c] = 0 := by rw [count_one]; rfl
    rw [h]
    rfl
  | b :: l => by
    have ih := replaceK_byte c new l
    by_cases hb : b = c
    · subst hb
      have h0 : index (b :: l) [b] = ((0 : Nat) : Int) := by simp [index]
      rw [count_cons_eq, Nat.add_comm, replaceK_hit _ _ _ _ 0 h0]
      simp [ih]
    · rw [count_cons_ne b c l hb]
      simp only [List.flatMap_cons, if_neg hb]
      rw [← ih]
      cases hk : count l [c] with
      | zero => rfl
      | succ k =>
        obtain ⟨i, hi⟩ := index_of_count (s := l) (old := [c]) (by omega)
        have hp : [c].isPrefixOf (b :: l) = false := by
          have hcb : (c == b) = false := beq_eq_false_iff_ne.2 (Ne.symm hb)
          simp [List.isPrefixOf, hcb]
        have hx : index (b :: l) [c] = ((i + 1 : Nat) : Int) := by
          rw [index, hp]
          simp only [Bool.false_eq_true, if_false]
          rw [if_neg (by rw [hi]; simp), hi]
          omega
        rw [replaceK_hit _ _ _ _ _ hx, replaceK_hit _ _ _ _ _ hi]
        simp

theorem replaceAll_byte (c : UInt8) (new l : List UInt8) (h : [c] ≠ new) : replaceAll l [c] new = l.flatMap fun x => if x = c then new else [x] := by
  unfold replaceAll replace
  rw [if_neg (by simpa using h)]
  unfold replaceNum
  rw [if_pos (.inl (by omega))]
  exact replaceK_byte c new l

/-- A byte in quotes. -/
def quo (x : UInt8) : List UInt8 := if x = 34 ∨ x = 92 then [92, x] else [x]
/-- A text in quotes. -/
def quoL (l : List UInt8) : List UInt8 := 34 :: (l.flatMap quo ++ [34])

theorem quote_law (l : List UInt8) : 34 :: (replaceAll (replaceAll l [92] [92, 92]) [34] [92, 34] ++ [34]) = quoL l := by
  rw [replaceAll_byte _ _ _ (by decide), replaceAll_byte _ _ _ (by decide), List.flatMap_assoc]
  unfold quoL
  congr 2
  congr 1
  funext x
  unfold quo
  by_cases h1 : x = 92
  · subst h1; decide
  · by_cases h2 : x = 34
    · subst h2; decide
    · simp [h1, h2]

theorem flatMap_length_le {α : Type} (f : α → List UInt8) (k : Nat) (h : ∀ x, (f x).length ≤ k) : ∀ l : List α, (l.flatMap f).length ≤ l.length * k
  | [] => by simp
  | x :: l => by
    have := flatMap_length_le f k h l
    have := h x
    simp only [List.flatMap_cons, List.length_append, List.length_cons, Nat.add_mul]
    omega
theorem quo_length (x : UInt8) : (quo x).length ≤ 2 := by unfold quo; split <;> simp
theorem quoL_length (l : List UInt8) : (quoL l).length ≤ 2 * l.length + 2 := by
  have := flatMap_length_le quo 2 quo_length l
  simp only [quoL, List.length_cons, List.length_append, List.length_nil]
  omega
end Go.Proofs.YtbkoajipljjonaaDoor
