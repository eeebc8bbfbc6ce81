/- slices.Index over texts; value.Get: the value of a key. -/
import Derived.Test.YtbkoajipljjonaaDoorMake
namespace Go.Proofs.YtbkoajipljjonaaDoor
open Go.RowKit

/-- Where a key is first. -/
def firstAt (l : List ByteArray) (key : ByteArray) : Int := match l.findIdx? (fun x => x.toList == key.toList) with | some i => i | none => -1

set_option maxHeartbeats 1000000 in
set_option maxRecDepth 100000 in
theorem index_calls (C : Cm) (w : World) (A : Option Addr) (c n : Nat) (l : List ByteArray) (key : ByteArray) (hn : l.length = n) (hC : C.le w) (hr : RdSl C A c 1 (strsGv l)) :
    Calls Tryd.prog 33 #[.slice A n c, .string key] w fun e w' =>
      ((∃ k : Nat, e = .returned (.int .i64 k) ∧ k < n ∧ l[k]? = some key ∧ ∀ j, j < k → l[j]? ≠ some key) ∨ (e = .returned (.int .i64 (-1)) ∧ key ∉ l)) ∧ Below w.heap.size w w' := by
  have hlen : n ≤ c ∧ c ≤ maxLen := by have := hr.1; rw [strsGv_length, hn] at this; exact ⟨this, hr.2.1⟩
  unfold maxLen at hlen
  have HC := Lib.hid hC
  have HN := Lib.hid hn
  clear hC hn
  go_enter Tryd.func33, Tryd.ntmps33
  go_wp2_with fail
  go_loopw [8] (fun i wr => ∃ k : Nat, k ≤ n ∧ i = .int .i64 k ∧ Hid (∀ j, j < k → l[j]? ≠ some key) ∧ wr = w) (fun i _ => n - (intOf i).toNat)
  case atStart => exact ⟨0, Nat.zero_le _, rfl, Lib.hid (fun j h => by omega), rfl⟩
  case round =>
    obtain ⟨k, hk, rfl, HJ, rfl⟩ := hrel
    by_cases hlt : k < n
    · have hkl : k < l.length := by have := HN.out; omega
      obtain ⟨b, o, rfl, e0, _⟩ := scal_elem (enc := fun x => Value.string x) HC.out hr k hkl
      have HG : Hid (l[k]? = some l[k]) := Lib.hid (List.getElem?_eq_getElem hkl)
      generalize l[k] = x at e0 HG
      cases heq : key.toList == x.toList
      · have HQ := Lib.hid heq
        go_wp2_with fail
        go_roundw
        case rel => 
          refine ⟨k + 1, by omega, by go_num, Lib.hid (fun j hj hh => ?_), by first | rfl | trivial⟩
          by_cases hjk : j = k
          · subst hjk
            rw [HG.out] at hh
            injection hh with hh
            have := HQ.out
            rw [hh] at this
            simp at this
          · exact HJ.out j (by omega) hh
        case measure => simp [intOf]; omega
      · have HQ := Lib.hid heq
        go_wp2_with fail
        go_ret
        refine ⟨.inl ⟨k, rfl, hlt, ?_, HJ.out⟩, Below.refl _ _⟩
        rw [HG.out]
        exact congrArg some (bytes_ext (by simpa using HQ.out)).symm
    · go_wp2_with fail
      go_ret
      refine ⟨.inr ⟨rfl, fun hm => ?_⟩, Below.refl _ _⟩
      obtain ⟨j, hj⟩ := List.mem_iff_getElem?.1 hm
      have hjl := (List.getElem?_eq_some_iff.1 hj).1
      exact HJ.out j (by have := HN.out; omega) hj

set_option maxHeartbeats 1000000 in
set_option maxRecDepth 100000 in
theorem get_calls (v : V) (key : ByteArray) (C : Cm) (w : World) (A3 : Option Addr) (c3 : Nat) (A4 : Option Addr) (c4 : Nat) (hC : C.le w) (hr : Rd C v.gv (v.cells A3 c3 A4 c4)) :
    Calls Tryd.prog 18 #[.agg (v.cells A3 c3 A4 c4).toArray, .string key] w fun e w' =>
      ((∃ (k : Nat) (x : V), v.kind = 4 ∧ v.keys.length = v.items.length ∧ v.keys[k]? = some key ∧ (∀ j, j < k → v.keys[j]? ≠ some key) ∧ v.items[k]? = some x ∧ ∃ B3 d3 B4 d4, e = .returned (.tuple #[.agg (x.cells B3 d3 B4 d4).toArray, .bool true]) ∧ Rd C x.gv (x.cells B3 d3 B4 d4)) ∨
       (¬ (v.kind = 4 ∧ v.keys.length = v.items.length ∧ key ∈ v.keys) ∧ e = .returned (.tuple #[zeroVal, .bool false]))) ∧ Below w.heap.size w w' := by
  obtain ⟨_, _, _, _, he, o1, o2, o3, r3, r4⟩ := V.open hr
  simp only [V.cells, List.cons.injEq, Value.slice.injEq, and_true, true_and] at he
  obtain ⟨⟨rfl, rfl⟩, rfl, rfl⟩ := he
  have hlen : v.items.length ≤ c3 ∧ c3 ≤ maxLen := by have := r3.1; rw [V.gvs_length] at this; exact ⟨this, r3.2.1⟩
  have hlen4 : v.keys.length ≤ c4 ∧ c4 ≤ maxLen := by have := r4.1; rw [strsGv_length] at this; exact ⟨this, r4.2.1⟩
  unfold maxLen at hlen hlen4
  have HC := Lib.hid hC
  have HI := Lib.hid (fun W (h : Below w.heap.size w W) => index_calls C W A4 c4 v.keys.length v.keys key rfl (Cm.le_below hC h) r4)
  clear hr o1 o2 o3 r4 hC
  unfold V.cells
  go_enter Tryd.func18, Tryd.ntmps18
  go_wp2_with fail
  refine (HI.out _ (by go_grown)).mono ?_
  rintro e w1 ⟨hres, hb1⟩
  have hp : w1.heap[w.heap.size]? = some (.cells #[.int .i64 v.kind, .int .i64 v.num, .string v.str, .slice A3 v.items.length c3, .slice A4 v.keys.length c4] 28 (0, 0)) := by
    rw [hb1.block _ (by simp; omega)]
    rw [Below.heap_alloc _ _ _ (by simp)]
    exact heap_alloc_new w _
  have hq : w1.heap[w.heap.size + 1]? = some (.cells #[.int .i64 0, .int .i64 0, .string ⟨#[]⟩, .slice none 0 0, .slice none 0 0] 28 (0, 0)) := by
    rw [hb1.block _ (by simp)]
    have := heap_alloc_new (w.alloc (.cells #[.int .i64 v.kind, .int .i64 v.num, .string v.str, .slice A3 v.items.length c3, .slice A4 v.keys.length c4] 28)) (.cells #[.int .i64 0, .int .i64 0, .string ⟨#[]⟩, .slice none 0 0, .slice none 0 0] 28)
    simpa using this
  have hb2 : Below w.heap.size w w1 := (by go_grown : Below w.heap.size w _).trans (hb1.mono (by simp; omega))
  have hs2 := hb2.size
  have p0 := boxCell hp 0
  have p3 := boxCell hp 3
  have p4 := boxCell hp 4
  have q0 := boxCell hq 0
  have q1 := boxCell hq 1
  have q2 := boxCell hq 2
  have q3 := boxCell hq 3
  have q4 := boxCell hq 4
  have rf := boxFroz hq
  have rf0 := rf 0
  have rf1 := rf 1
  have rf2 := rf 2
  have rf3 := rf 3
  have rf4 := rf 4
  simp only [List.getElem?_toArray, List.getElem?_cons_zero, List.getElem?_cons_succ] at p0 p3 p4 q0 q1 q2 q3 q4
  have HB := Lib.hid hb2
  clear hb1 hb2 hp hq rf HI
  have hbad : ∀ W' : World, Below w.heap.size w W' → ¬ (v.kind = 4 ∧ v.keys.length = v.items.length ∧ key ∈ v.keys) → Below w.heap.size w W' ∧ ¬ (v.kind = 4 ∧ v.keys.length = v.items.length ∧ key ∈ v.keys) := fun _ h k => ⟨h, k⟩
  clear hbad
  by_cases h4 : v.kind = 4
  · by_cases hkl : v.keys.length = v.items.length
    · rcases hres with ⟨k, rfl, hk, hkk, hj⟩ | ⟨rfl, hno⟩
      · have hki : k < v.items.length := by omega
        obtain ⟨b, o, rfl, B3, d3, B4, d4, hx, e0, e1, e2, e3, e4⟩ := V.elem HC.out r3 k hki
        have HG : Hid (v.items[k]? = some v.items[k]) := Lib.hid (List.getElem?_eq_getElem hki)
        generalize v.items[k] = x at *
        have HX := Lib.hid hx
        have HKK := Lib.hid hkk
        have HJ := Lib.hid hj
        replace e0 := (HB.out.cell (World.block_lt_of_cell? w _ e0)).trans e0
        replace e1 := (HB.out.cell (World.block_lt_of_cell? w _ e1)).trans e1
        replace e2 := (HB.out.cell (World.block_lt_of_cell? w _ e2)).trans e2
        replace e3 := (HB.out.cell (World.block_lt_of_cell? w _ e3)).trans e3
        replace e4 := (HB.out.cell (World.block_lt_of_cell? w _ e4)).trans e4
        clear hx hkk hj
        have H4 := Lib.hid h4
        have HKL := Lib.hid hkl
        rw [h4] at p0
        rw [hkl] at p4
        clear h4 hkl
        go_wp2_with fail
        (try simp only [Exit.inBlock, Exit.then]); refine bodyPost_ret (by simp [results, Tryd.results18, q0, q1, q2, q3, q4, go_sem]; try rfl) rfl ?_
        exact ⟨.inl ⟨k, x, H4.out, HKL.out, HKK.out, HJ.out, HG.out, B3, d3, B4, d4, rfl, HX.out⟩, ((((HB.out.setCell (by simp) _).setCell (by simp) _).setCell (by simp) _).setCell (by simp) _).setCell (by simp) _⟩
      · have HNO : Hid (¬ (v.kind = 4 ∧ v.keys.length = v.items.length ∧ key ∈ v.keys)) := Lib.hid (fun h => hno h.2.2)
        rw [h4] at p0
        rw [hkl] at p4
        clear h4 hkl hno r3
        go_wp2_with fail
        (try simp only [Exit.inBlock, Exit.then]); refine bodyPost_ret (by simp [results, Tryd.results18, q0, q1, q2, q3, q4, go_sem]; try rfl) rfl ?_
        exact ⟨.inr ⟨HNO.out, rfl⟩, ((((HB.out.setCell (by simp) _).setCell (by simp) _).setCell (by simp) _).setCell (by simp) _).setCell (by simp) _⟩
    · have HNO : Hid (¬ (v.kind = 4 ∧ v.keys.length = v.items.length ∧ key ∈ v.keys)) := Lib.hid (fun h => hkl h.2.1)
      rw [h4] at p0
      have hdec : decide ((v.keys.length : Int) = (v.items.length : Int)) = false := by simp; omega
      clear h4 r3
      rcases hres with ⟨k, rfl, hk, hkk, hj⟩ | ⟨rfl, hno⟩
      · clear hkk hj
        go_wp2_with fail
        (try simp only [Exit.inBlock, Exit.then]); refine bodyPost_ret (by simp [results, Tryd.results18, q0, q1, q2, q3, q4, go_sem]; try rfl) rfl ?_
        exact ⟨.inr ⟨HNO.out, rfl⟩, ((((HB.out.setCell (by simp) _).setCell (by simp) _).setCell (by simp) _).setCell (by simp) _).setCell (by simp) _⟩
      · clear hno
        go_wp2_with fail
        (try simp only [Exit.inBlock, Exit.then]); refine bodyPost_ret (by simp [results, Tryd.results18, q0, q1, q2, q3, q4, go_sem]; try rfl) rfl ?_
        exact ⟨.inr ⟨HNO.out, rfl⟩, ((((HB.out.setCell (by simp) _).setCell (by simp) _).setCell (by simp) _).setCell (by simp) _).setCell (by simp) _⟩
  · have HNO : Hid (¬ (v.kind = 4 ∧ v.keys.length = v.items.length ∧ key ∈ v.keys)) := Lib.hid (fun h => h4 h.1)
    clear r3
    rcases hres with ⟨k, rfl, hk, hkk, hj⟩ | ⟨rfl, hno⟩
    · clear hkk hj
      go_wp2_with fail
      (try simp only [Exit.inBlock, Exit.then]); refine bodyPost_ret (by simp [results, Tryd.results18, q0, q1, q2, q3, q4, go_sem]; try rfl) rfl ?_
      exact ⟨.inr ⟨HNO.out, rfl⟩, ((((HB.out.setCell (by simp) _).setCell (by simp) _).setCell (by simp) _).setCell (by simp) _).setCell (by simp) _⟩
    · clear hno
      go_wp2_with fail
      (try simp only [Exit.inBlock, Exit.then]); refine bodyPost_ret (by simp [results, Tryd.results18, q0, q1, q2, q3, q4, go_sem]; try rfl) rfl ?_
      exact ⟨.inr ⟨HNO.out, rfl⟩, ((((HB.out.setCell (by simp) _).setCell (by simp) _).setCell (by simp) _).setCell (by simp) _).setCell (by simp) _⟩
end Go.Proofs.YtbkoajipljjonaaDoor
