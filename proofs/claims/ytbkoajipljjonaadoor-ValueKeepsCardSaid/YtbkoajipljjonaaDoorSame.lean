/- The reference's Same: two values are the same. -/
import Derived.Test.YtbkoajipljjonaaDoorGet
import Derived.Test.YtbkoajipljjonaaDoorLess
namespace Go.Proofs.YtbkoajipljjonaaDoor
open Go.RowKit

theorem below_pw' {B : Nat} {w W : World} (h : Below B w W) : Below B w W.drew := ⟨h.os, h.tape, h.output, h.size, h.block⟩
theorem V.ext' {x y : V} : x = y ↔ x.kind = y.kind ∧ x.num = y.num ∧ x.str = y.str ∧ x.items = y.items ∧ x.keys = y.keys := by
  cases x; cases y; simp [V.kind, V.num, V.str, V.items, V.keys]

set_option maxHeartbeats 2000000 in
set_option maxRecDepth 100000 in
theorem same_calls (n : Nat) : ∀ (x y : V) (C : Cm) (w : World) (A3 : Option Addr) (c3 : Nat) (A4 : Option Addr) (c4 : Nat) (B3 : Option Addr) (d3 : Nat) (B4 : Option Addr) (d4 : Nat), x.dep ≤ n → C.le w → Rd C x.gv (x.cells A3 c3 A4 c4) → Rd C y.gv (y.cells B3 d3 B4 d4) →
    Calls Tryd.prog 19 #[.agg (x.cells A3 c3 A4 c4).toArray, .agg (y.cells B3 d3 B4 d4).toArray] w fun e w' => (∃ b, e = .returned (.bool b) ∧ (b = true ↔ x = y)) ∧ Below w.heap.size w w' := by
  induction n with
  | zero => intro x _ _ _ _ _ _ _ _ _ _ _ h; rw [V.dep_eq] at h; omega
  | succ n ih =>
  intro x y C w A3 c3 A4 c4 B3 d3 B4 d4 hd hC hr hs
  obtain ⟨_, _, _, _, he, _, _, _, r3, r4⟩ := V.open hr
  simp only [V.cells, List.cons.injEq, Value.slice.injEq, and_true, true_and] at he
  obtain ⟨⟨rfl, rfl⟩, rfl, rfl⟩ := he
  obtain ⟨_, _, _, _, he, _, _, _, s3, s4⟩ := V.open hs
  simp only [V.cells, List.cons.injEq, Value.slice.injEq, and_true, true_and] at he
  obtain ⟨⟨rfl, rfl⟩, rfl, rfl⟩ := he
  have hl1 : x.items.length ≤ c3 ∧ c3 ≤ maxLen := by have := r3.1; rw [V.gvs_length] at this; exact ⟨this, r3.2.1⟩
  have hl2 : x.keys.length ≤ c4 ∧ c4 ≤ maxLen := by have := r4.1; rw [strsGv_length] at this; exact ⟨this, r4.2.1⟩
  have hl3 : y.items.length ≤ d3 ∧ d3 ≤ maxLen := by have := s3.1; rw [V.gvs_length] at this; exact ⟨this, s3.2.1⟩
  have hl4 : y.keys.length ≤ d4 ∧ d4 ≤ maxLen := by have := s4.1; rw [strsGv_length] at this; exact ⟨this, s4.2.1⟩
  unfold maxLen at hl1 hl2 hl3 hl4
  have HD := Lib.hid hd
  have HC := Lib.hid hC
  clear hd hC hr hs
  unfold V.cells
  by_cases h1 : x.kind = y.kind
  case neg =>
    have HF : Hid (¬ x = y) := Lib.hid (fun e => h1 (by rw [e]))
    clear r3 r4 s3 s4 ih
    go_enter Tryd.func19, Tryd.ntmps19
    go_wp2_with fail
    go_ret
    exact ⟨⟨false, rfl, by simp [HF.out]⟩, by go_grown⟩
  by_cases h2 : x.num = y.num
  case neg =>
    have HF : Hid (¬ x = y) := Lib.hid (fun e => h2 (by rw [e]))
    rw [h1]
    clear r3 r4 s3 s4 ih h1
    go_enter Tryd.func19, Tryd.ntmps19
    go_wp2_with fail
    go_ret
    exact ⟨⟨false, rfl, by simp [HF.out]⟩, by go_grown⟩
  by_cases h3 : x.str = y.str
  case neg =>
    have HF : Hid (¬ x = y) := Lib.hid (fun e => h3 (by rw [e]))
    have hq : (x.str.toList == y.str.toList) = false := by simp; exact fun e => h3 (bytes_ext e)
    rw [h1, h2]
    clear r3 r4 s3 s4 ih h1 h2
    go_enter Tryd.func19, Tryd.ntmps19
    go_wp2_with fail
    go_ret
    exact ⟨⟨false, rfl, by simp [HF.out]⟩, by go_grown⟩
  by_cases h4 : x.items.length = y.items.length
  case neg =>
    have HF : Hid (¬ x = y) := Lib.hid (fun e => h4 (by rw [e]))
    rw [h1, h2, h3]
    clear r3 r4 s3 s4 ih h1 h2 h3
    go_enter Tryd.func19, Tryd.ntmps19
    go_wp2_with fail
    go_ret
    exact ⟨⟨false, rfl, by simp [HF.out]⟩, by go_grown⟩
  by_cases h5 : x.keys.length = y.keys.length
  case neg =>
    have HF : Hid (¬ x = y) := Lib.hid (fun e => h5 (by rw [e]))
    rw [h1, h2, h3, h4]
    clear r3 r4 s3 s4 ih h1 h2 h3 h4
    go_enter Tryd.func19, Tryd.ntmps19
    go_wp2_with fail
    go_ret
    exact ⟨⟨false, rfl, by simp [HF.out]⟩, by go_grown⟩
  have H1 := Lib.hid h1
  have H2 := Lib.hid h2
  have H3 := Lib.hid h3
  rw [h1, h2, h3]
  clear h1 h2 h3
  obtain ⟨m4, hm4⟩ : ∃ m, y.items.length = m := ⟨_, rfl⟩
  obtain ⟨m5, hm5⟩ : ∃ m, y.keys.length = m := ⟨_, rfl⟩
  rw [hm4] at h4 hl3 ⊢
  rw [hm5] at h5 hl4 ⊢
  rw [h4] at hl1 ⊢
  rw [h5] at hl2 ⊢
  go_enter Tryd.func19, Tryd.ntmps19
  go_wp2_with fail
  generalize hwx : (w.alloc _).alloc _ = wx
  have hbx : Below w.heap.size w wx := by rw [← hwx]; go_grown
  have hp : wx.heap[w.heap.size]? = some (.cells #[.int .i64 y.kind, .int .i64 y.num, .string y.str, .slice A3 m4 c3, .slice A4 m5 c4] 28 (0, 0)) := by
    rw [← hwx, Below.heap_alloc _ _ _ (by simp)]
    exact heap_alloc_new w _
  have hq : wx.heap[w.heap.size + 1]? = some (.cells #[.int .i64 y.kind, .int .i64 y.num, .string y.str, .slice B3 m4 d3, .slice B4 m5 d4] 28 (0, 0)) := by
    rw [← hwx]
    have := heap_alloc_new (w.alloc (.cells #[.int .i64 y.kind, .int .i64 y.num, .string y.str, .slice A3 m4 c3, .slice A4 m5 c4] 28)) (.cells #[.int .i64 y.kind, .int .i64 y.num, .string y.str, .slice B3 m4 d3, .slice B4 m5 d4] 28)
    simpa using this
  clear hwx
  have HBX := Lib.hid hbx
  have HP := Lib.hid hp
  have HQ := Lib.hid hq
  have hsx : w.heap.size + 1 < wx.heap.size := (Array.getElem?_eq_some_iff.1 hq).1
  clear hbx hp hq
  go_loopw [47] (fun i wr => ∃ k : Nat, k ≤ m5 ∧ i = .int .i64 k ∧ Hid (∀ j, j < k → x.keys[j]? = y.keys[j]?) ∧ Hid (Below wx.heap.size wx wr)) (fun i _ => m5 - (intOf i).toNat)
  case atStart => exact ⟨0, Nat.zero_le _, rfl, Lib.hid (fun j h => by omega), Lib.hid (Below.refl _ _)⟩
  case round =>
    obtain ⟨k, hk, rfl, HJ, HB⟩ := hrel
    have hp := (HB.out.block _ (by omega)).trans HP.out
    have hq := (HB.out.block _ (by omega)).trans HQ.out
    have p3 := boxCell hp 3
    have p4 := boxCell hp 4
    have q3 := boxCell hq 3
    have q4 := boxCell hq 4
    simp only [List.getElem?_toArray, List.getElem?_cons_zero, List.getElem?_cons_succ] at p3 p4 q3 q4
    have hbw : Below w.heap.size w wr := HBX.out.trans (HB.out.mono HBX.out.size)
    have HBW := Lib.hid hbw
    clear hp hq hbw
    by_cases hlt : k < m5
    · obtain ⟨b, o, rfl, e0, _⟩ := scal_elem (enc := fun x => Value.string x) HC.out r4 k (by omega)
      obtain ⟨b', o', rfl, f0, _⟩ := scal_elem (enc := fun x => Value.string x) HC.out s4 k (by omega)
      replace e0 := (HBW.out.cell (World.block_lt_of_cell? w _ e0)).trans e0
      replace f0 := (HBW.out.cell (World.block_lt_of_cell? w _ f0)).trans f0
      have HG : Hid (x.keys[k]? = some x.keys[k]) := Lib.hid (List.getElem?_eq_getElem (by omega))
      have HG' : Hid (y.keys[k]? = some y.keys[k]) := Lib.hid (List.getElem?_eq_getElem (by omega))
      generalize x.keys[k]'(by omega) = u at e0 HG
      generalize y.keys[k]'(by omega) = v at f0 HG'
      clear r4 s4 r3 s3 ih
      cases heq : u.toList == v.toList
      · have HF : Hid (¬ x = y) := Lib.hid (fun e => by
          have h1 := HG.out
          rw [e, HG'.out] at h1
          injection h1 with h1
          rw [h1] at heq
          simp at heq)
        go_wp2_with fail
        go_quiet (fail)
        go_wp2_with fail
        go_ret
        exact ⟨⟨false, rfl, by simp [HF.out]⟩, below_pw HBW.out _⟩
      · have HE : Hid (x.keys[k]? = y.keys[k]?) := Lib.hid (by have hh := bytes_ext (a := u) (b := v) (by simpa using heq); rw [HG.out, HG'.out, hh])
        go_wp2_with fail
        go_quiet (fail)
        go_wp2_with fail
        go_roundw
        case rel => 
          refine ⟨k + 1, by omega, by go_num, Lib.hid (fun j hj => ?_), Lib.hid (below_pw HB.out _)⟩
          by_cases hjk : j = k
          · subst hjk; exact HE.out
          · exact HJ.out j (by omega)
        case measure => simp [intOf]; omega
    · have HK : Hid (x.keys = y.keys) := Lib.hid (List.ext_getElem? fun j => by
        by_cases hj : j < k
        · exact HJ.out j hj
        · rw [List.getElem?_eq_none (by omega), List.getElem?_eq_none (by omega)])
      clear r4 s4 HJ
      go_wp2_with fail
      have HB0 := HB
      go_loopw [65] (fun i wr => ∃ k : Nat, k ≤ m4 ∧ i = .int .i64 k ∧ Hid (∀ j, j < k → x.items[j]? = y.items[j]?) ∧ Hid (Below wx.heap.size wx wr)) (fun i _ => m4 - (intOf i).toNat)
      case atStart => exact ⟨0, Nat.zero_le _, rfl, Lib.hid (fun j h => by omega), HB0⟩
      case round =>
        clear HBW HB0 HB p3 p4 q3 q4
        obtain ⟨k, hk, rfl, HJ, HB⟩ := hrel
        have hp := (HB.out.block _ (by omega)).trans HP.out
        have hq := (HB.out.block _ (by omega)).trans HQ.out
        have p3 := boxCell hp 3
        have q3 := boxCell hq 3
        simp only [List.getElem?_toArray, List.getElem?_cons_zero, List.getElem?_cons_succ] at p3 q3
        have hbw : Below w.heap.size w wr := HBX.out.trans (HB.out.mono HBX.out.size)
        have HBW := Lib.hid hbw
        clear hp hq hbw
        by_cases hlt : k < m4
        · have hkx : k < x.items.length := by omega
          have hky : k < y.items.length := by omega
          obtain ⟨b, o, rfl, E3, g3, E4, g4, hx, e0, e1, e2, e3, e4⟩ := V.elem HC.out r3 k hkx
          obtain ⟨b', o', rfl, F3, i3, F4, i4, hy, f0, f1, f2, f3, f4⟩ := V.elem HC.out s3 k hky
          have HG : Hid (x.items[k]? = some x.items[k]) := Lib.hid (List.getElem?_eq_getElem hkx)
          have HG' : Hid (y.items[k]? = some y.items[k]) := Lib.hid (List.getElem?_eq_getElem hky)
          have hdep : (x.items[k]).dep ≤ n := by have h1 := HD.out; rw [V.dep_eq] at h1; have h2 := V.deps_mem (List.getElem_mem hkx); omega
          generalize x.items[k] = u at *
          generalize y.items[k] = v at *
          have HS := Lib.hid (fun W (h : Below w.heap.size w W) => ih u v C W E3 g3 E4 g4 F3 i3 F4 i4 hdep (Cm.le_below HC.out h) hx hy)
          replace e0 := (HBW.out.cell (World.block_lt_of_cell? w _ e0)).trans e0
          replace e1 := (HBW.out.cell (World.block_lt_of_cell? w _ e1)).trans e1
          replace e2 := (HBW.out.cell (World.block_lt_of_cell? w _ e2)).trans e2
          replace e3 := (HBW.out.cell (World.block_lt_of_cell? w _ e3)).trans e3
          replace e4 := (HBW.out.cell (World.block_lt_of_cell? w _ e4)).trans e4
          replace f0 := (HBW.out.cell (World.block_lt_of_cell? w _ f0)).trans f0
          replace f1 := (HBW.out.cell (World.block_lt_of_cell? w _ f1)).trans f1
          replace f2 := (HBW.out.cell (World.block_lt_of_cell? w _ f2)).trans f2
          replace f3 := (HBW.out.cell (World.block_lt_of_cell? w _ f3)).trans f3
          replace f4 := (HBW.out.cell (World.block_lt_of_cell? w _ f4)).trans f4
          clear r3 s3 hx hy ih hdep
          unfold V.cells at HS
          go_wp2_with fail
          go_region_held3 (fun w' => w'.cell? ⟨w.heap.size, 3, none⟩ = some (.slice (some ⟨b, o, none⟩) m4 c3) ∧ w'.cell? ⟨w.heap.size + 1, 3, none⟩ = some (.slice (some ⟨b', o', none⟩) m4 d3) ∧
              w'.cell? ⟨b, o + k * 5, none⟩ = some (.int .i64 u.kind) ∧ w'.cell? ⟨b, o + k * 5 + 1, none⟩ = some (.int .i64 u.num) ∧ w'.cell? ⟨b, o + k * 5 + 2, none⟩ = some (.string u.str) ∧ w'.cell? ⟨b, o + k * 5 + 3, none⟩ = some (.slice E3 u.items.length g3) ∧ w'.cell? ⟨b, o + k * 5 + 4, none⟩ = some (.slice E4 u.keys.length g4) ∧
              w'.cell? ⟨b', o' + k * 5, none⟩ = some (.int .i64 v.kind) ∧ w'.cell? ⟨b', o' + k * 5 + 1, none⟩ = some (.int .i64 v.num) ∧ w'.cell? ⟨b', o' + k * 5 + 2, none⟩ = some (.string v.str) ∧ w'.cell? ⟨b', o' + k * 5 + 3, none⟩ = some (.slice F3 v.items.length i3) ∧ w'.cell? ⟨b', o' + k * 5 + 4, none⟩ = some (.slice F4 v.keys.length i4))
            (first
              | (go_keep; done)
              | (refine ⟨?_, ?_, ?_, ?_, ?_, ?_, ?_, ?_, ?_, ?_, ?_, ?_⟩ <;> (refine (hb2.cell (World.block_lt_of_cell? wr _ (by assumption))).trans (by assumption))))
            (first
              | (go_at_call 19; refine (HS.out _ (below_pw' HBW.out)).mono ?_; rintro e w2 ⟨⟨bb, rfl, hbb⟩, hb2⟩))
          have hB2 : Below wx.heap.size wx w2 := HB.out.trans ((show Below wr.heap.size wr w2 from ⟨hb2.os, hb2.tape, hb2.output, hb2.size, hb2.block⟩).mono HB.out.size)
          have HB2 := Lib.hid hB2
          clear hb2 hB2 e0 e1 e2 e3 e4 f0 f1 f2 f3 f4 p3 q3
          cases bb
          · have HF : Hid (¬ x = y) := Lib.hid (fun e => by
              have h1 := HG.out
              rw [e, HG'.out] at h1
              injection h1 with h1
              have := hbb.2 h1.symm
              cases this)
            clear hbb
            go_wp2_with fail
            go_ret
            exact ⟨⟨false, rfl, by simp [HF.out]⟩, HBX.out.trans (HB2.out.mono HBX.out.size)⟩
          · have HE : Hid (x.items[k]? = y.items[k]?) := Lib.hid (by rw [HG.out, HG'.out, hbb.1 rfl])
            clear hbb
            go_wp2_with fail
            go_roundw
            case rel =>
              refine ⟨k + 1, by omega, by go_num, Lib.hid (fun j hj => ?_), HB2⟩
              by_cases hjk : j = k
              · subst hjk; exact HE.out
              · exact HJ.out j (by omega)
            case measure => simp [intOf]; omega
        · have HI : Hid (x.items = y.items) := Lib.hid (List.ext_getElem? fun j => by
            by_cases hj : j < k
            · exact HJ.out j hj
            · rw [List.getElem?_eq_none (by omega), List.getElem?_eq_none (by omega)])
          have HT : Hid (x = y) := Lib.hid (V.ext'.2 ⟨H1.out, H2.out, H3.out, HI.out, HK.out⟩)
          clear r3 s3
          go_wp2_with fail
          go_ret
          exact ⟨⟨true, rfl, by simp [HT.out]⟩, HBW.out⟩
end Go.Proofs.YtbkoajipljjonaaDoor
