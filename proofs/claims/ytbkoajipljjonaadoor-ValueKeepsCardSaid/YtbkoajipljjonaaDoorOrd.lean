/- Texts are in order, byte by byte: plain words. -/
import Derived.Test.YtbkoajipljjonaaDoorMay
import Derived.Laws.Strings
namespace Go.Proofs.YtbkoajipljjonaaDoor

theorem bl_irrefl : ∀ x : List UInt8, Op.bytesLess x x = false
  | [] => rfl
  | a :: x => by simp [Op.bytesLess, bl_irrefl x]
theorem bl_trans : ∀ {x y z : List UInt8}, Op.bytesLess x y = true → Op.bytesLess y z = true → Op.bytesLess x z = true
  | _, [], _, h, _ => by simp [Op.bytesLess] at h
  | _, _ :: _, [], _, k => by simp [Op.bytesLess] at k
  | [], _ :: _, _ :: _, _, _ => rfl
  | a :: x, b :: y, c :: z, h, k => by
    simp only [Op.bytesLess, Bool.or_eq_true, Bool.and_eq_true, decide_eq_true_eq, beq_iff_eq] at *
    rcases h with h | ⟨rfl, h⟩
    · rcases k with k | ⟨rfl, k⟩
      · exact .inl (UInt8.lt_trans h k)
      · exact .inl h
    · rcases k with k | ⟨rfl, k⟩
      · exact .inl k
      · exact .inr ⟨rfl, bl_trans h k⟩
theorem bl_total : ∀ {x y : List UInt8}, Op.bytesLess x y = false → x ≠ y → Op.bytesLess y x = true
  | [], [], _, k => absurd rfl k
  | _ :: _, [], _, _ => rfl
  | [], _ :: _, h, _ => by simp [Op.bytesLess] at h
  | a :: x, b :: y, h, k => by
    simp only [Op.bytesLess, Bool.or_eq_false_iff, Bool.and_eq_false_iff, decide_eq_false_iff_not, Bool.or_eq_true, Bool.and_eq_true, decide_eq_true_eq, beq_iff_eq] at *
    by_cases e : a = b
    · subst e
      rcases h.2 with h2 | h2
      · simp at h2
      · exact .inr ⟨rfl, bl_total h2 (fun e => k (by rw [e]))⟩
    · refine .inl ?_
      have h1 := h.1
      rw [UInt8.not_lt] at h1
      exact UInt8.lt_of_le_of_ne h1 (Ne.symm e)
theorem ltB_irrefl (a : ByteArray) : ltB a a = false := bl_irrefl _
theorem ltB_trans {a b c : ByteArray} (h : ltB a b = true) (k : ltB b c = true) : ltB a c = true := bl_trans h k
theorem ltB_total {a b : ByteArray} (h : ltB a b = false) (k : a.toList ≠ b.toList) : ltB b a = true := bl_total h k
theorem ltB_asymm {a b : ByteArray} (h : ltB a b = true) : ltB b a = false := by
  cases k : ltB b a with
  | false => rfl
  | true => have := ltB_trans h k; rw [ltB_irrefl] at this; cases this
/-- Three ways. -/
def cmpS (a b : ByteArray) : Int := if ltB a b then -1 else if a.toList == b.toList then 0 else 1
theorem cmpS_neg (a b : ByteArray) : decide (cmpS a b < 0) = ltB a b := by
  unfold cmpS
  cases h : ltB a b
  · simp only [Bool.false_eq_true, if_false]
    cases k : a.toList == b.toList <;> simp
  · simp
theorem bytes_ext {a b : ByteArray} (h : a.toList = b.toList) : a = b := by
  rw [ByteArray.toList_eq, ByteArray.toList_eq] at h
  cases a
  cases b
  simp only [ByteArray.mk.injEq]
  exact Array.toList_inj.1 h
theorem ltB_lt_or {a b : ByteArray} (h : ltB a b = false) (k : ltB b a = false) : a = b := by
  apply bytes_ext
  by_cases e : a.toList = b.toList
  · exact e
  · have := ltB_total h e
    rw [this] at k
    cases k
end Go.Proofs.YtbkoajipljjonaaDoor
