/- slices.IndexFunc and slices.ContainsFunc over bytes: where the first byte is of which a function says yes. -/
import Derived.Test.YtbkoajipljjonaaDoorProg
import Derived.Test.YtbkoajipljjonaaDoorVal
import Derived.Lib.Hide
import Derived.Handy
import Derived.Shelf.Abstract
namespace Go.Proofs.YtbkoajipljjonaaDoor
open Go.RowKit Go.Shelf

/-- A row of bytes. -/
def byt (x : UInt8) : Value := .int .u8 x.toNat
def bytesGv (l : List UInt8) : List GV := l.map fun x => .at (byt x)
@[simp] theorem bytesGv_length (l : List UInt8) : (bytesGv l).length = l.length := by simp [bytesGv]
/-- Where the first is of which p holds, or -1. -/
def ixF {α : Type} (p : α → Bool) : List α → Int
  | [] => -1
  | x :: l => if p x then 0 else (if ixF p l < 0 then -1 else ixF p l + 1)
theorem ixF_none {α : Type} (p : α → Bool) : ∀ l : List α, (∀ x ∈ l, p x = false) → ixF p l = -1
  | [], _ => rfl
  | x :: l, h => by
    have h1 := ixF_none p l fun y hy => h y (List.mem_cons_of_mem _ hy)
    simp [ixF, h x List.mem_cons_self, h1]
theorem ixF_at {α : Type} (p : α → Bool) : ∀ (l : List α) (k : Nat) (hk : k < l.length), (∀ j (hj : j < k), p (l[j]'(by omega)) = false) → p l[k] = true → ixF p l = k
  | x :: l, 0, _, _, h => by simp at h; simp [ixF, h]
  | x :: l, k + 1, hk, h0, h => by
    have h1 := ixF_at p l k (by simpa using hk) (fun j hj => by simpa using h0 (j + 1) (by omega)) (by simpa using h)
    have h2 : p x = false := by simpa using h0 0 (by omega)
    simp only [ixF, h2, h1]
    rw [if_neg (by simp), if_neg (by omega)]
    omega
theorem ixF_nonneg {α : Type} (p : α → Bool) : ∀ l : List α, 0 ≤ ixF p l ↔ l.any p = true
  | [] => by simp [ixF]
  | x :: l => by
    have h := ixF_nonneg p l
    rw [List.any_cons, Bool.or_eq_true, ← h, ixF]
    by_cases hx : p x = true
    · simp [hx]
    · rw [if_neg hx]
      by_cases h0 : ixF p l < 0
      · rw [if_pos h0]
        exact ⟨fun h => absurd h (by omega), fun h => h.elim (fun h => absurd h hx) (fun h => absurd h (by omega))⟩
      · rw [if_neg h0]
        exact ⟨fun _ => .inr (by omega), fun _ => by omega⟩
theorem ixF_any {α : Type} (p : α → Bool) (l : List α) : decide (0 ≤ ixF p l) = l.any p := by
  rw [Bool.eq_iff_iff, decide_eq_true_eq]
  exact ixF_nonneg p l

/-- A function value that tells of each x, in whatever world stands later, whether p holds; it makes memory alone. -/
def Tells (P : Program) (g : FuncId) (cap : Array Value) {α : Type} (enc : α → Value) (p : α → Bool) (w : World) : Prop :=
  ∀ (x : α) (W : World), Below w.heap.size w W → Calls P g (#[enc x] ++ cap) W fun e W' => e = .returned (.bool (p x)) ∧ Below W.heap.size W W'

theorem bytesGv_elem {C : Cm} {w : World} {A : Option Addr} {c : Nat} {l : List UInt8} (hC : C.le w) (h : RdSl C A c 1 (bytesGv l)) (i : Nat) (hi : i < l.length) :
    ∃ b o, A = some ⟨b, o, none⟩ ∧ w.cell? ⟨b, o + i, none⟩ = some (byt l[i]) := by
  obtain ⟨_, _, h⟩ := h
  rcases h with h | ⟨b, o, rfl, h⟩
  · have : (bytesGv l).length = 0 := by rw [h]; rfl
    rw [bytesGv_length] at this
    omega
  · obtain ⟨ecs, hl, hd, hc⟩ := RdE_get h i (by simpa using hi)
    have he : (bytesGv l)[i]'(by simpa using hi) = .at (byt l[i]) := by simp [bytesGv]
    rw [he] at hd
    simp only [Rd] at hd
    obtain ⟨rfl, _⟩ := hd
    have h0 := hC _ _ _ (hc 0 _ rfl)
    rw [Nat.mul_one, Nat.add_zero] at h0
    exact ⟨b, o, rfl, h0⟩

set_option maxHeartbeats 1000000 in
theorem bytesIndexFunc_calls (g : FuncId) (cap : Array Value) (eg : ∀ args w, (callFunc g args).run Tryd.prog w = .ok (.enter g args) w) (p : UInt8 → Bool) (C : Cm) (w : World) (A : Option Addr) (c : Nat) (l : List UInt8)
    (hC : C.le w) (hr : RdSl C A c 1 (bytesGv l)) (hp : Tells Tryd.prog g cap byt p w) :
    Calls Tryd.prog 87 #[.slice A l.length c, .func (.func g) #[] cap] w fun e w' => e = .returned (.int .i64 (ixF p l)) ∧ Below w.heap.size w w' := by
  have hlen : l.length ≤ c ∧ c ≤ maxLen := by have := hr.1; rw [bytesGv_length] at this; exact ⟨this, hr.2.1⟩
  unfold maxLen at hlen
  have HC := Lib.hid hC
  have HP := Lib.hid hp
  have HR := Lib.hid hr
  clear hC hp hr
  go_enter Tryd.func87, Tryd.ntmps87
  go_wp2_with fail
  go_loopw [8] (fun i wr => ∃ k : Nat, k ≤ l.length ∧ i = .int .i64 k ∧ Hid (∀ j (hj : j < k) (hk : k ≤ l.length), p (l[j]'(by omega)) = false) ∧ Below w.heap.size w wr) (fun i _ => l.length - (intOf i).toNat)
  case atStart => exact ⟨0, Nat.zero_le _, rfl, fun j hj => by omega, Below.refl _ _⟩
  case round =>
    obtain ⟨k, hk, rfl, hno, hb⟩ := hrel
    have hbs := hb.size
    by_cases hlt : k < l.length
    · obtain ⟨b, o, rfl, e0⟩ := bytesGv_elem HC.out HR.out k hlt
      replace e0 := (hb.cell (World.block_lt_of_cell? w _ e0)).trans e0
      go_wp2_with fail
      refine (HP.out l[k] _ hb).mono ?_
      rintro e w2 ⟨rfl, hb2⟩
      have hb3 : Below w.heap.size w w2 := hb.trans (hb2.mono hbs)
      clear hb hb2 e0
      cases hpx : p l[k]
      · have HPX := Lib.hid hpx
        clear hpx
        go_wp2_with fail
        go_roundw
        case rel => exact ⟨k + 1, by omega, by go_num, fun j hj _ => by
            by_cases hjk : j = k
            · subst hjk; exact HPX.out
            · exact hno.out j (by omega) hk, hb3⟩
        case measure => simp [intOf]; omega
      · have HX := Lib.hid (ixF_at p l k hlt (fun j hj => hno.out j hj hk) hpx)
        clear hpx
        go_wp2_with fail
        go_ret
        exact ⟨ret_int HX.out.symm, hb3⟩
    · have HX := Lib.hid (ixF_none p l (fun x hx => by
        obtain ⟨j, hj, rfl⟩ := List.getElem_of_mem hx
        exact hno.out j (by omega) hk))
      go_wp2_with fail
      go_ret
      exact ⟨ret_int HX.out.symm, hb⟩

set_option maxHeartbeats 1000000 in
theorem bytesContainsFunc_calls (g : FuncId) (cap : Array Value) (eg : ∀ args w, (callFunc g args).run Tryd.prog w = .ok (.enter g args) w) (p : UInt8 → Bool) (C : Cm) (w : World) (A : Option Addr) (n c : Nat) (l : List UInt8) (hn : l.length = n)
    (hC : C.le w) (hr : RdSl C A c 1 (bytesGv l)) (hp : Tells Tryd.prog g cap byt p w) :
    Calls Tryd.prog 73 #[.slice A n c, .func (.func g) #[] cap] w fun e w' => e = .returned (.bool (l.any p)) ∧ Below w.heap.size w w' := by
  subst hn
  have H := Lib.hid (bytesIndexFunc_calls g cap eg p C w A c l hC hr hp)
  have HX := Lib.hid (ixF_any p l)
  clear hp hr hC
  go_enter Tryd.func73, Tryd.ntmps73
  go_wp2_with fail
  refine H.out.mono ?_
  rintro e w2 ⟨rfl, hb⟩
  go_wp2_with fail
  go_ret
  exact ⟨ret_bool HX.out, hb⟩
end Go.Proofs.YtbkoajipljjonaaDoor
