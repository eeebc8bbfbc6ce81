/- The one text of a value: plain words. -/
import Derived.Test.YtbkoajipljjonaaDoorAll
import Derived.Test.YtbkoajipljjonaaDoorQuoteLaw
import Derived.Lib.ItoaLen
namespace Go.Proofs.YtbkoajipljjonaaDoor
open Go.RowKit

/-- What stands ahead of item i. -/
def itemPre (m : Bool) (keys : List ByteArray) (i : Nat) : List UInt8 :=
  (if 0 < i then [44] else []) ++ (if m then quoL (keys.getD i ⟨#[]⟩).data.toList ++ [58] else [])
mutual
/-- A value's text. -/
def V.txt : V → List UInt8
  | .mk k n s is ks => if k = 1 then Lib.itoa n else if k = 2 then quoL s.data.toList else (if k = 4 then 123 else 91) :: (V.txts (k = 4) ks 0 is ++ [if k = 4 then 125 else 93])
def V.txts (m : Bool) (keys : List ByteArray) (i : Nat) : List V → List UInt8
  | [] => []
  | v :: vs => itemPre m keys i ++ (v.txt ++ V.txts m keys (i + 1) vs)
end
theorem V.txt_eq (v : V) : v.txt = if v.kind = 1 then Lib.itoa v.num else if v.kind = 2 then quoL v.str.data.toList else (if v.kind = 4 then 123 else 91) :: (V.txts (v.kind = 4) v.keys 0 v.items ++ [if v.kind = 4 then 125 else 93]) := by
  cases v; rw [V.txt]; rfl
theorem V.txts_take (m : Bool) (keys : List ByteArray) : ∀ (l : List V) (i k : Nat) (h : k < l.length), V.txts m keys i (l.take (k + 1)) = V.txts m keys i (l.take k) ++ (itemPre m keys (i + k) ++ l[k].txt)
  | v :: vs, i, 0, _ => by simp [V.txts]
  | v :: vs, i, k + 1, h => by
    have ih := V.txts_take m keys vs (i + 1) k (by simpa using h)
    simp only [List.take_succ_cons, V.txts, List.getElem_cons_succ]
    rw [ih, show i + 1 + k = i + (k + 1) by omega]
    simp

theorem V.may_str {v : V} (h : v.may = true) (hk : v.kind = 2) : v.str.size ≤ 4000 := by
  simp only [V.may, hk, Int.reduceEq, if_false, if_true, Bool.and_eq_true] at h
  have h2 := h.2
  simp only [textOk, Bool.and_eq_true, decide_eq_true_eq] at h2
  exact h2.1
theorem V.may_num {v : V} (h : v.may = true) (hk : v.kind = 1) : -1099511627776 ≤ v.num ∧ v.num ≤ 1099511627776 := by
  simp only [V.may, hk, if_true, Bool.and_eq_true, decide_eq_true_eq] at h
  exact ⟨h.1.2, h.2⟩
theorem V.may_keys {v : V} (h : v.may = true) (hk : v.kind = 4) : v.keys.length = v.items.length ∧ keysOk v.keys = true := by
  simp only [V.may, hk, Int.reduceEq, if_false, if_true, Bool.and_eq_true, beq_iff_eq] at h
  exact ⟨h.1.2, h.2⟩
theorem V.may_kind {v : V} (h : v.may = true) : v.kind = 1 ∨ v.kind = 2 ∨ v.kind = 3 ∨ v.kind = 4 := by
  by_cases h1 : v.kind = 1
  · exact .inl h1
  by_cases h2 : v.kind = 2
  · exact .inr (.inl h2)
  by_cases h3 : v.kind = 3
  · exact .inr (.inr (.inl h3))
  by_cases h4 : v.kind = 4
  · exact .inr (.inr (.inr h4))
  simp [V.may, h1, h2, h3, h4] at h
theorem keysOk_at {l : List ByteArray} (h : keysOk l = true) (i : Nat) (hi : i < l.length) : keyBad l i = false := by
  simp only [keysOk, List.all_eq_true, List.mem_range, Bool.not_eq_true'] at h
  exact h i hi
theorem keysOk_text {l : List ByteArray} (h : keysOk l = true) (i : Nat) (hi : i < l.length) : textOk l[i] = true := by
  have := keysOk_at h i hi
  simp only [keyBad, Bool.or_eq_false_iff, Bool.not_eq_false'] at this
  have h1 := this.1
  rwa [List.getD_eq_getElem?_getD, List.getElem?_eq_getElem hi, Option.getD_some] at h1
theorem textOk_size {s : ByteArray} (h : textOk s = true) : s.size ≤ 4000 := by
  simp only [textOk, Bool.and_eq_true, decide_eq_true_eq] at h
  exact h.1
theorem V.all_may {v : V} (h : v.all = true) : v.may = true := by rw [V.all_eq, Bool.and_eq_true] at h; exact h.1
theorem V.all_mem {v x : V} (h : v.all = true) (hx : x ∈ v.items) : x.all = true := by
  rw [V.all_eq, Bool.and_eq_true, V.alls_eq, List.all_eq_true] at h
  exact h.2 x hx

theorem quoL_size (s : ByteArray) : (quoL s.data.toList).length ≤ 2 * s.size + 2 := by
  have := quoL_length s.data.toList
  have h2 : s.data.toList.length = s.size := by rw [Array.length_toList]; rfl
  omega
theorem itemPre_length (m : Bool) (keys : List ByteArray) (i : Nat) (h : m = true → (keys.getD i ⟨#[]⟩).size ≤ 4000) : (itemPre m keys i).length ≤ 8004 := by
  unfold itemPre
  have e : (if 0 < i then ([44] : List UInt8) else []).length ≤ 1 := by split <;> simp
  cases m with
  | false =>
    simp only [Bool.false_eq_true, if_false, List.append_nil]
    omega
  | true =>
    have h1 := quoL_size (keys.getD i ⟨#[]⟩)
    have h2 := h rfl
    simp only [if_true, List.length_append, List.length_singleton]
    omega
mutual
theorem V.txt_length : ∀ v : V, v.all = true → v.txt.length + 8004 ≤ 16100 * v.cnt
  | .mk k n s is ks, h => by
    have hm := V.all_may h
    rw [V.txt, V.cnt]
    by_cases h1 : k = 1
    · rw [if_pos h1]
      have hw := V.may_num hm h1
      simp only [V.num] at hw
      have := Lib.itoa_length_le n (by omega) (by omega)
      omega
    rw [if_neg h1]
    by_cases h2 : k = 2
    · rw [if_pos h2]
      have h3 := V.may_str hm h2
      have h4 := quoL_size s
      simp only [V.str] at h3
      omega
    rw [if_neg h2]
    have hl := V.txts_length (decide (k = 4)) ks is 0 (fun x hx => V.all_mem h hx) (fun hk i hi => by
      have hk' : k = 4 := by simpa using hk
      have hkk := V.may_keys hm hk'
      simp only [V.keys, V.items] at hkk
      have hi' : i < ks.length := by omega
      rw [List.getD_eq_getElem?_getD, List.getElem?_eq_getElem hi', Option.getD_some]
      exact textOk_size (keysOk_text hkk.2 i hi'))
    simp only [List.length_cons, List.length_append, List.length_nil]
    omega
theorem V.txts_length (m : Bool) (keys : List ByteArray) : ∀ (l : List V) (i : Nat), (∀ x ∈ l, x.all = true) → (m = true → ∀ j, j < i + l.length → (keys.getD j ⟨#[]⟩).size ≤ 4000) → (V.txts m keys i l).length ≤ 16100 * V.cnts l
  | [], _, _, _ => by simp [V.txts, V.cnts]
  | v :: vs, i, h, hk => by
    have h1 := V.txt_length v (h v List.mem_cons_self)
    have h2 := V.txts_length m keys vs (i + 1) (fun x hx => h x (List.mem_cons_of_mem _ hx)) (fun hm j hj => hk hm j (by simp only [List.length_cons]; omega))
    have h3 := itemPre_length m keys i (fun hm => hk hm i (by simp only [List.length_cons]; omega))
    simp only [V.txts, V.cnts, List.length_append]
    omega
end
end Go.Proofs.YtbkoajipljjonaaDoor
