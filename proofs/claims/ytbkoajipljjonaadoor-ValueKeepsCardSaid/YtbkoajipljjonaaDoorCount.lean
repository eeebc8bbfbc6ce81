/- value.Count and value.Depth answer how many a value is, and how deep. -/
import Derived.Test.YtbkoajipljjonaaDoorProg
import Derived.Test.YtbkoajipljjonaaDoorVal
import Derived.Lib.Hide
import Derived.Handy
namespace Go.Proofs.YtbkoajipljjonaaDoor
open Go.RowKit

theorem cnt_step (a b : Nat) : wrap64 (wrap64 (1 + (a : Int)) + wrap64 (b : Int)) = wrap64 (1 + ((a + b : Nat) : Int)) := by
  rw [wrap64_add_left, wrap64_add_right]
  congr 1
  omega

set_option maxHeartbeats 1000000 in
set_option maxRecDepth 100000 in
theorem count_calls (n : Nat) : ∀ (v : V) (C : Cm) (w : World) (A3 : Option Addr) (c3 : Nat) (A4 : Option Addr) (c4 : Nat), v.dep ≤ n → C.le w → Rd C v.gv (v.cells A3 c3 A4 c4) →
    Calls Tryd.prog 14 #[.agg (v.cells A3 c3 A4 c4).toArray] w fun e w' => e = .returned (.int .i64 (wrap64 v.cnt)) ∧ Below w.heap.size w w' := by
  induction n with
  | zero => intro v _ _ _ _ _ _ h; rw [V.dep_eq] at h; omega
  | succ n ih =>
  intro v C w A3 c3 A4 c4 hd hC hr
  obtain ⟨_, _, _, _, he, o1, o2, o3, r3, r4⟩ := V.open hr
  simp only [V.cells, List.cons.injEq, Value.slice.injEq, and_true, true_and] at he
  obtain ⟨⟨rfl, rfl⟩, rfl, rfl⟩ := he
  have hlen : v.items.length ≤ c3 ∧ c3 ≤ maxLen := by have := r3.1; rw [V.gvs_length] at this; exact ⟨this, r3.2.1⟩
  unfold maxLen at hlen
  have HD := Lib.hid hd
  have HC := Lib.hid hC
  clear hd hC hr o1 o2 o3 r4
  unfold V.cells
  go_enter Tryd.func14, Tryd.ntmps14
  go_wp2_with fail
  go_loopw [3, 9] (fun n i wr => ∃ k : Nat, k ≤ v.items.length ∧ i = .int .i64 k ∧ n = .int .i64 (wrap64 (1 + V.cnts (v.items.take k))) ∧ Below w.heap.size w wr) (fun _ i _ => v.items.length - (intOf i).toNat)
  case atStart => exact ⟨0, Nat.zero_le _, rfl, by simp [V.cnts, wrap64], (Below.refl _ _).alloc (Nat.le_refl _) _⟩
  case round =>
    obtain ⟨k, hk, rfl, rfl, hb⟩ := hrel
    have hbs := hb.size
    by_cases hlt : k < v.items.length
    · obtain ⟨b, o, rfl, B3, d3, B4, d4, hx, e0, e1, e2, e3, e4⟩ := V.elem HC.out r3 k hlt
      replace e0 := (hb.cell (World.block_lt_of_cell? w _ e0)).trans e0
      replace e1 := (hb.cell (World.block_lt_of_cell? w _ e1)).trans e1
      replace e2 := (hb.cell (World.block_lt_of_cell? w _ e2)).trans e2
      replace e3 := (hb.cell (World.block_lt_of_cell? w _ e3)).trans e3
      replace e4 := (hb.cell (World.block_lt_of_cell? w _ e4)).trans e4
      have HX := Lib.hid hx
      clear hx
      go_wp2_with fail
      have hdep : v.items[k].dep ≤ n := by have h1 := HD.out; rw [V.dep_eq] at h1; have h2 := V.deps_mem (List.getElem_mem hlt); omega
      refine (ih v.items[k] C _ B3 d3 B4 d4 hdep ?_ HX.out).mono ?_
      · exact Cm.le_below HC.out (by go_grown)
      · rintro e w2 ⟨rfl, hb2⟩
        have hc := V.cnts_take v.items k hlt
        have HCt := Lib.hid hc
        have hb3 : Below w.heap.size w w2 := (by go_grown : Below w.heap.size w _).trans (hb2.mono (by have := hb.size; simp; omega))
        clear hc hb hb2 e0 e1 e2 e3 e4
        go_wp2_with fail
        go_roundw
        case rel => 
          exact ⟨k + 1, by omega, by go_num, by rw [HCt.out, ← cnt_step], hb3⟩
        case measure => simp [intOf]; omega
    · have hge : v.items.length ≤ k := by omega
      have HT := Lib.hid (List.take_of_length_le hge)
      go_wp2_with fail
      go_ret
      exact ⟨by rw [HT.out, V.cnt_eq]; push_cast; rfl, hb⟩
end Go.Proofs.YtbkoajipljjonaaDoor
