/- value.Depth and value.Depth answer how many a value is, and how deep. -/
import Derived.Test.YtbkoajipljjonaaDoorProg
import Derived.Test.YtbkoajipljjonaaDoorVal
import Derived.Lib.Hide
import Derived.Handy
import Derived.Lib.MinMax
namespace Go.Proofs.YtbkoajipljjonaaDoor
open Go.RowKit

theorem V.deps_take_le : ∀ (l : List V) (k : Nat), V.deps (l.take k) ≤ V.deps l
  | [], k => by simp
  | v :: vs, 0 => by simp [V.deps]
  | v :: vs, k + 1 => by
    have := V.deps_take_le vs k
    simp only [List.take_succ_cons, V.deps]
    omega

set_option maxHeartbeats 1000000 in
set_option maxRecDepth 100000 in
theorem depth_calls (n : Nat) (hn : n ≤ 9223372036854775807) : ∀ (v : V) (C : Cm) (w : World) (A3 : Option Addr) (c3 : Nat) (A4 : Option Addr) (c4 : Nat), v.dep ≤ n → C.le w → Rd C v.gv (v.cells A3 c3 A4 c4) →
    Calls Tryd.prog 15 #[.agg (v.cells A3 c3 A4 c4).toArray] w fun e w' => e = .returned (.int .i64 v.dep) ∧ Below w.heap.size w w' := by
  induction n with
  | zero => intro v _ _ _ _ _ _ h; rw [V.dep_eq] at h; omega
  | succ n ih =>
  intro v C w A3 c3 A4 c4 hd hC hr
  obtain ⟨_, _, _, _, he, o1, o2, o3, r3, r4⟩ := V.open hr
  simp only [V.cells, List.cons.injEq, Value.slice.injEq, and_true, true_and] at he
  obtain ⟨⟨rfl, rfl⟩, rfl, rfl⟩ := he
  have hlen : v.items.length ≤ c3 ∧ c3 ≤ maxLen := by have := r3.1; rw [V.gvs_length] at this; exact ⟨this, r3.2.1⟩
  unfold maxLen at hlen
  have HD := Lib.hid hd
  have HC := Lib.hid hC
  clear hd hC hr o1 o2 o3 r4
  unfold V.cells
  go_enter Tryd.func15, Tryd.ntmps15
  go_wp2_with fail
  go_loopw [3, 9] (fun n i wr => ∃ k : Nat, k ≤ v.items.length ∧ i = .int .i64 k ∧ n = .int .i64 (V.deps (v.items.take k)) ∧ Below w.heap.size w wr) (fun _ i _ => v.items.length - (intOf i).toNat)
  case atStart => exact ⟨0, Nat.zero_le _, rfl, by simp [V.deps], (Below.refl _ _).alloc (Nat.le_refl _) _⟩
  case round =>
    obtain ⟨k, hk, rfl, rfl, hb⟩ := hrel
    have hdk : V.deps (v.items.take k) + 1 ≤ n + 1 := by have h1 := HD.out; rw [V.dep_eq] at h1; have h2 := V.deps_take_le v.items k; omega
    have hbs := hb.size
    by_cases hlt : k < v.items.length
    · obtain ⟨b, o, rfl, B3, d3, B4, d4, hx, e0, e1, e2, e3, e4⟩ := V.elem HC.out r3 k hlt
      replace e0 := (hb.cell (World.block_lt_of_cell? w _ e0)).trans e0
      replace e1 := (hb.cell (World.block_lt_of_cell? w _ e1)).trans e1
      replace e2 := (hb.cell (World.block_lt_of_cell? w _ e2)).trans e2
      replace e3 := (hb.cell (World.block_lt_of_cell? w _ e3)).trans e3
      replace e4 := (hb.cell (World.block_lt_of_cell? w _ e4)).trans e4
      have HX := Lib.hid hx
      clear hx
      go_wp2_with fail
      have hdep : v.items[k].dep ≤ n := by have h1 := HD.out; rw [V.dep_eq] at h1; have h2 := V.deps_mem (List.getElem_mem hlt); omega
      refine (ih (by omega) v.items[k] C _ B3 d3 B4 d4 hdep ?_ HX.out).mono ?_
      · exact Cm.le_below HC.out (by go_grown)
      · rintro e w2 ⟨rfl, hb2⟩
        have hc := V.deps_take v.items k hlt
        have HCt := Lib.hid hc
        have hb3 : Below w.heap.size w w2 := (by go_grown : Below w.heap.size w _).trans (hb2.mono (by have := hb.size; simp; omega))
        clear hc hb hb2 e0 e1 e2 e3 e4
        go_wp2_with fail
        go_roundw
        case rel => 
          exact ⟨k + 1, by omega, by go_num, by rw [HCt.out]; simp only [Value.int.injEq, true_and]; omega, hb3⟩
        case measure => simp [intOf]; omega
    · have hge : v.items.length ≤ k := by omega
      have HT := Lib.hid (List.take_of_length_le hge)
      go_wp2_with fail
      go_ret
      exact ⟨by rw [HT.out, V.dep_eq]; push_cast; rfl, hb⟩
end Go.Proofs.YtbkoajipljjonaaDoor
