/- value.Print: a value's one text, or that it may not be. -/
import Derived.Test.YtbkoajipljjonaaDoorWrite
namespace Go.Proofs.YtbkoajipljjonaaDoor
open Go.RowKit Go.Shelf

/-- May a value be? -/
def V.right (v : V) : Bool := decide (v.dep ≤ 12) && decide (v.cnt ≤ 2000) && v.all
def V.printT (v : V) : List UInt8 := if v.right then v.txt else []
def V.printE (v : V) : Int := if v.right then 0 else 1

theorem isB_new (w : World) : IsB w.heap.size w.heap.size [] (w.alloc (.cells #[.pointer none, .slice none 0 0] 53)) :=
  .inl ⟨Nat.le_refl _, .slice none 0 0, heap_alloc_new w _, ⟨rfl, .inl ⟨rfl, rfl⟩⟩, by simp [Value.ownBlock]⟩

set_option maxHeartbeats 2000000 in
set_option maxRecDepth 100000 in
theorem print_calls (v : V) (C : Cm) (w : World) (A3 : Option Addr) (c3 : Nat) (A4 : Option Addr) (c4 : Nat) (hd : v.dep ≤ 4611686018427387904) (hn : v.cnt ≤ 4611686018427387904) (hC : C.le w) (hr : Rd C v.gv (v.cells A3 c3 A4 c4)) (hE : Env w) :
    Calls Tryd.prog 7 #[.agg (v.cells A3 c3 A4 c4).toArray] w fun e w' => e = .returned (.tuple #[.string ⟨v.printT.toArray⟩, .int .i64 v.printE]) ∧ Below w.heap.size w w' := by
  have H1 := Lib.hid (fun W' (h : Below w.heap.size w W') => right_calls v C W' A3 c3 A4 c4 hd hn (Cm.le_below hC h) hr)
  have HC := Lib.hid hC
  have HR := Lib.hid hr
  have HE := Lib.hid hE
  have HD := Lib.hid hd
  clear hC hr hE hn hd
  by_cases hright : v.right = true
  · have HT : Hid (v.printT = v.txt) := Lib.hid (by unfold V.printT; rw [if_pos hright])
    have HEE : Hid (v.printE = 0) := Lib.hid (by unfold V.printE; rw [if_pos hright])
    have HRT : Hid ((decide (v.dep ≤ 12) && decide (v.cnt ≤ 2000) && v.all) = true) := Lib.hid hright
    have h2 := hright
    simp only [V.right, Bool.and_eq_true, decide_eq_true_eq] at h2
    have HALL := Lib.hid h2.2
    have HCN := Lib.hid h2.1.2
    clear hright h2
    unfold V.cells at H1 ⊢
    go_enter Tryd.func7, Tryd.ntmps7
    go_wp2_with fail
    refine (H1.out _ ?_).mono ?_
    · go_grown
    rintro e w2 ⟨rfl, hb2⟩
    rw [HRT.out]
    have hb3 : Below w.heap.size w w2 := (by go_grown : Below w.heap.size w _).trans (hb2.mono (by simp))
    have x0 : w2.cell? ⟨w.heap.size, 0, none⟩ = some (.int .i64 v.kind) := by rw [hb2.cell (by simp)]; simp
    have x1 : w2.cell? ⟨w.heap.size, 1, none⟩ = some (.int .i64 v.num) := by rw [hb2.cell (by simp)]; simp
    have x2 : w2.cell? ⟨w.heap.size, 2, none⟩ = some (.string v.str) := by rw [hb2.cell (by simp)]; simp
    have x3 : w2.cell? ⟨w.heap.size, 3, none⟩ = some (.slice A3 v.items.length c3) := by rw [hb2.cell (by simp)]; simp
    have x4 : w2.cell? ⟨w.heap.size, 4, none⟩ = some (.slice A4 v.keys.length c4) := by rw [hb2.cell (by simp)]; simp
    have hs2 : w.heap.size < w2.heap.size := World.block_lt_of_cell? _ _ x0
    clear hb2
    go_wp2_with fail
    have hbA : Below w2.heap.size w2 (w2.alloc (.cells #[.pointer none, .slice none 0 0] 53)) := (Below.refl _ _).alloc (Nat.le_refl _) _
    have HW := write_calls v.dep v C w2.heap.size w2.heap.size [] (w2.alloc (.cells #[.pointer none, .slice none 0 0] 53)) A3 c3 A4 c4 (Nat.le_refl _) (Cm.le_below HC.out (hb3.trans (hbA.mono (by omega))))
      (fun b o v h => Nat.lt_of_lt_of_le (Cm.lt HC.out h) (by omega)) HR.out HALL.out (isB_new w2) (by have := HCN.out; simp; omega) (by simp) (HE.out.below (hb3.trans (hbA.mono (by omega))))
      (by obtain ⟨m, hm⟩ := HE.out.maxLen; have := World.block_lt_of_cell? _ _ hm; simp only at this; omega) (by have := HE.out.lt; omega)
    unfold V.cells at HW
    refine HW.mono ?_
    rintro e w3 ⟨rfl, hi, hbb, -⟩
    have HI : Hid (IsB w2.heap.size w2.heap.size v.txt w3) := Lib.hid (by simpa using hi)
    have hb4 : Below w.heap.size w w3 := (hb3.trans (hbA.mono (by omega))).trans (hbb.mono (by omega))
    have hs3 : w2.heap.size ≤ w3.heap.size := by have := hbb.size; simp at this; omega
    clear hi hbb HW hbA hb3 x0 x1 x2 x3 x4
    go_wp2_with fail
    refine (string_calls _ _ _ _ HI.out hs3).mono ?_
    rintro e w4 ⟨rfl, -, hbb, -⟩
    have hb5 : Below w.heap.size w w4 := hb4.trans (hbb.mono (by omega))
    clear hbb hb4
    go_wp2_with fail
    go_ret2
    exact ⟨by rw [HT.out, HEE.out]; rfl, hb5⟩
  · have HT : Hid (v.printT = []) := Lib.hid (by unfold V.printT; rw [if_neg hright])
    have HEE : Hid (v.printE = 1) := Lib.hid (by unfold V.printE; rw [if_neg hright])
    have HRT : Hid ((decide (v.dep ≤ 12) && decide (v.cnt ≤ 2000) && v.all) = false) := Lib.hid (by simpa [V.right] using hright)
    clear hright
    unfold V.cells at H1 ⊢
    go_enter Tryd.func7, Tryd.ntmps7
    go_wp2_with fail
    refine (H1.out _ ?_).mono ?_
    · go_grown
    rintro e w2 ⟨rfl, hb2⟩
    rw [HRT.out]
    have hb3 : Below w.heap.size w w2 := (by go_grown : Below w.heap.size w _).trans (hb2.mono (by simp))
    clear hb2
    go_wp2_with fail
    go_ret2
    exact ⟨by rw [HT.out, HEE.out]; rfl, hb3⟩
end Go.Proofs.YtbkoajipljjonaaDoor
