/- The reference's Count: how many a value is, up to a limit. -/
import Derived.Test.YtbkoajipljjonaaDoorProg
import Derived.Test.YtbkoajipljjonaaDoorVal
import Derived.Lib.Hide
import Derived.Handy
namespace Go.Proofs.YtbkoajipljjonaaDoor
open Go.RowKit

theorem V.cnts_append : ∀ (l m : List V), V.cnts (l ++ m) = V.cnts l + V.cnts m
  | [], m => by simp [V.cnts]
  | x :: l, m => by simp only [List.cons_append, V.cnts, V.cnts_append l m]; omega
theorem V.deps_append : ∀ (l m : List V), V.deps (l ++ m) = max (V.deps l) (V.deps m)
  | [], m => by simp [V.deps]
  | x :: l, m => by simp only [List.cons_append, V.deps, V.deps_append l m]; omega

set_option maxHeartbeats 1000000 in
set_option maxRecDepth 100000 in
theorem refCount_calls (n : Nat) : ∀ (v : V) (L : Nat) (C : Cm) (w : World) (A3 : Option Addr) (c3 : Nat) (A4 : Option Addr) (c4 : Nat), v.dep ≤ n → L ≤ 100000 → C.le w → Rd C v.gv (v.cells A3 c3 A4 c4) →
    Calls Tryd.prog 28 #[.agg (v.cells A3 c3 A4 c4).toArray, .int .i64 L] w fun e w' => e = .returned (.int .i64 (min v.cnt (L + 1) : Nat)) ∧ Below w.heap.size w w' := by
  induction n with
  | zero => intro v _ _ _ _ _ _ _ h; rw [V.dep_eq] at h; omega
  | succ n ih =>
  intro v L C w A3 c3 A4 c4 hd hL hC hr
  obtain ⟨_, _, _, _, he, o1, o2, o3, r3, r4⟩ := V.open hr
  simp only [V.cells, List.cons.injEq, Value.slice.injEq, and_true, true_and] at he
  obtain ⟨⟨rfl, rfl⟩, rfl, rfl⟩ := he
  have hlen : v.items.length ≤ c3 ∧ c3 ≤ maxLen := by have := r3.1; rw [V.gvs_length] at this; exact ⟨this, r3.2.1⟩
  unfold maxLen at hlen
  have HD := Lib.hid hd
  have HC := Lib.hid hC
  clear hd hC hr o1 o2 o3 r4
  unfold V.cells
  go_enter Tryd.func28, Tryd.ntmps28
  go_wp2_with fail
  go_loopw [5, 11] (fun n i wr => ∃ k m : Nat, k ≤ v.items.length ∧ i = .int .i64 k ∧ n = .int .i64 m ∧ m ≤ L + 1 ∧ Hid (m = min (1 + V.cnts (v.items.take k)) (L + 1)) ∧ Below w.heap.size w wr) (fun _ i _ => v.items.length - (intOf i).toNat)
  case atStart => exact ⟨0, 1, Nat.zero_le _, rfl, rfl, by omega, Lib.hid (by simp [V.cnts]), (Below.refl _ _).alloc (Nat.le_refl _) _⟩
  case round =>
    obtain ⟨k, m, hk, rfl, rfl, hmL, HM, hb⟩ := hrel
    have hbs := hb.size
    by_cases hlt : k < v.items.length
    · obtain ⟨b, o, rfl, B3, d3, B4, d4, hx, e0, e1, e2, e3, e4⟩ := V.elem HC.out r3 k hlt
      replace e0 := (hb.cell (World.block_lt_of_cell? w _ e0)).trans e0
      replace e1 := (hb.cell (World.block_lt_of_cell? w _ e1)).trans e1
      replace e2 := (hb.cell (World.block_lt_of_cell? w _ e2)).trans e2
      replace e3 := (hb.cell (World.block_lt_of_cell? w _ e3)).trans e3
      replace e4 := (hb.cell (World.block_lt_of_cell? w _ e4)).trans e4
      have HX := Lib.hid hx
      have HT := Lib.hid (V.cnts_take v.items k hlt)
      have HF : Hid (1 + V.cnts (v.items.take (k + 1)) ≤ v.cnt) := Lib.hid (by
        rw [V.cnt_eq, show V.cnts v.items = V.cnts (v.items.take (k + 1) ++ v.items.drop (k + 1)) by rw [List.take_append_drop], V.cnts_append]
        omega)
      clear hx
      by_cases hm : m ≤ L
      · go_wp2_with fail
        have hdep : v.items[k].dep ≤ n := by have h1 := HD.out; rw [V.dep_eq] at h1; have h2 := V.deps_mem (List.getElem_mem hlt); omega
        have hsub : (L : Int) - (m : Int) = ((L - m : Nat) : Int) := by omega
        rw [hsub]
        refine (ih v.items[k] (L - m) C _ B3 d3 B4 d4 hdep (by omega) ?_ HX.out).mono ?_
        · exact Cm.le_below HC.out (by go_grown)
        · rintro e w2 ⟨rfl, hb2⟩
          have hb3 : Below w.heap.size w w2 := (by go_grown : Below w.heap.size w _).trans (hb2.mono (by have := hb.size; simp; omega))
          have hq : min v.items[k].cnt (L - m + 1) ≤ L - m + 1 := Nat.min_le_right _ _
          have HQ := Lib.hid (rfl : min v.items[k].cnt (L - m + 1) = min v.items[k].cnt (L - m + 1))
          have hlast : m + min v.items[k].cnt (L - m + 1) = min (1 + V.cnts (v.items.take (k + 1))) (L + 1) := by
            rw [HT.out]
            have := HM.out
            omega
          have HL := Lib.hid hlast
          clear hlast HQ
          generalize min v.items[k].cnt (L - m + 1) = q at hq HL ⊢
          clear hb hb2 e0 e1 e2 e3 e4
          go_wp2_with fail
          go_roundw
          case rel =>
            exact ⟨k + 1, m + q, by omega, by go_num, by go_num, by omega, HL, hb3⟩
          case measure => simp [intOf]; omega
      · go_wp2_with fail
        go_ret
        refine ⟨ret_int ?_, by go_grown⟩
        have h1 := HM.out
        have h2 := HF.out
        rw [HT.out] at h2
        omega
    · have hge : v.items.length ≤ k := by omega
      have HT := Lib.hid (List.take_of_length_le hge)
      go_wp2_with fail
      go_ret
      refine ⟨ret_int ?_, hb⟩
      have h1 := HM.out
      rw [HT.out, ← V.cnt_eq] at h1
      rw [h1]

set_option maxHeartbeats 1000000 in
set_option maxRecDepth 100000 in
/-- big: more than 2100. -/
theorem big_calls (v : V) (C : Cm) (w : World) (A3 : Option Addr) (c3 : Nat) (A4 : Option Addr) (c4 : Nat) (hC : C.le w) (hr : Rd C v.gv (v.cells A3 c3 A4 c4)) :
    Calls Tryd.prog 12 #[.agg (v.cells A3 c3 A4 c4).toArray] w fun e w' => e = .returned (.bool (decide (2100 < v.cnt))) ∧ Below w.heap.size w w' := by
  have H := Lib.hid (fun W (h : Below w.heap.size w W) => refCount_calls v.dep v 2100 C W A3 c3 A4 c4 (Nat.le_refl _) (by omega) (Cm.le_below hC h) hr)
  clear hC hr
  unfold V.cells at H ⊢
  go_enter Tryd.func12, Tryd.ntmps12
  go_wp2_with fail
  refine (H.out _ ?_).mono ?_
  · go_grown
  rintro e w2 ⟨rfl, hb⟩
  have hb2 : Below w.heap.size w w2 := (by go_grown : Below w.heap.size w _).trans (hb.mono (by simp))
  clear hb H
  have hq : min v.cnt 2101 ≤ 2101 := Nat.min_le_right _ _
  have hq2 : min v.cnt 2101 = 2101 ↔ 2100 < v.cnt := by omega
  generalize min v.cnt 2101 = q at hq hq2 ⊢
  go_wp2_with fail
  go_ret
  refine ⟨ret_bool ?_, hb2⟩
  rw [decide_eq_decide]
  omega
end Go.Proofs.YtbkoajipljjonaaDoor
