/- The law ValueMakes: its walk. -/
import Derived.Test.YtbkoajipljjonaaDoorRefMap
import Derived.Test.YtbkoajipljjonaaDoorAlive
import Derived.Test.YtbkoajipljjonaaDoorRefCount
import Derived.Test.YtbkoajipljjonaaDoorRead
import Derived.Test.YtbkoajipljjonaaDoorHeld
import Derived.Test.YtbkoajipljjonaaDoorGetIs
import Derived.Deep.CutBlock
import Derived.Deep.DeepCutAuto
namespace Go.Proofs.YtbkoajipljjonaaDoor
open Go.RowKit Go.Shelf Go.Sort Go.Deep

theorem sameT_calls (s : ByteArray) (hs : okAt (.string s)) (W : World) : Calls Tryd.prog 19 #[.agg #[.int .i64 2, .int .i64 0, .string s, .slice none 0 0, .slice none 0 0], .agg #[.int .i64 2, .int .i64 0, .string s, .slice none 0 0, .slice none 0 0]] W fun e w' => e = .returned (.bool true) ∧ Below W.heap.size W w' := by
  have hr : Rd (fun _ _ => none) (vText s).gv ((vText s).cells none 0 none 0) := V.mk_rd _ (by simp [vText, V.kind, okAt]; decide) (by simp [vText, V.num, okAt]; decide) hs ⟨by simp [vText, V.items, V.gvs], by simp [maxLen], .inl (by simp [vText, V.items, V.gvs])⟩ ⟨by simp [vText, V.keys, strsGv], by simp [maxLen], .inl (by simp [vText, V.keys, strsGv])⟩
  refine (same_calls (vText s).dep (vText s) (vText s) (fun _ _ => none) W none 0 none 0 none 0 none 0 (Nat.le_refl _) (fun _ _ _ h => by cases h) hr hr).mono ?_
  rintro e w' ⟨⟨b, rfl, hb⟩, h⟩
  exact ⟨by rw [hb.2 rfl], h⟩
theorem sameN_calls (n : Int) (hn : okAt (.int .i64 n)) (W : World) : Calls Tryd.prog 19 #[.agg #[.int .i64 1, .int .i64 n, .string ⟨#[]⟩, .slice none 0 0, .slice none 0 0], .agg #[.int .i64 1, .int .i64 n, .string ⟨#[]⟩, .slice none 0 0, .slice none 0 0]] W fun e w' => e = .returned (.bool true) ∧ Below W.heap.size W w' := by
  have hr : Rd (fun _ _ => none) (vNum n).gv ((vNum n).cells none 0 none 0) := V.mk_rd _ (by simp [vNum, V.kind, okAt]; decide) hn (by simp [vNum, V.str, okAt, ByteArray.size]) ⟨by simp [vNum, V.items, V.gvs], by simp [maxLen], .inl (by simp [vNum, V.items, V.gvs])⟩ ⟨by simp [vNum, V.keys, strsGv], by simp [maxLen], .inl (by simp [vNum, V.keys, strsGv])⟩
  refine (same_calls (vNum n).dep (vNum n) (vNum n) (fun _ _ => none) W none 0 none 0 none 0 none 0 (Nat.le_refl _) (fun _ _ _ h => by cases h) hr hr).mono ?_
  rintro e w' ⟨⟨b, rfl, hb⟩, h⟩
  exact ⟨by rw [hb.2 rfl], h⟩
theorem sameL_calls (X : V) (C : Cm) (W : World) (g7 g8 : Nat) (B3 : Option Addr) (d3 : Nat) (B4 : Option Addr) (d4 : Nat) (hC : C.le W) (hX : Rd C X.gv (X.cells B3 d3 B4 d4))
    (h7 : W.heap[g7]? = some (.cells #[.int .i64 X.kind, .int .i64 X.num, .string X.str, .slice B3 X.items.length d3, .slice B4 X.keys.length d4, .int .i64 X.kind, .int .i64 X.num, .string X.str, .slice B3 X.items.length d3, .slice B4 X.keys.length d4] 28 (0, 0)))
    (h8 : W.heap[g8]? = some (.cells #[.int .i64 X.kind, .int .i64 X.num, .string X.str, .slice B3 X.items.length d3, .slice B4 X.keys.length d4, .int .i64 X.kind, .int .i64 X.num, .string X.str, .slice B3 X.items.length d3, .slice B4 X.keys.length d4] 28 (0, 0))) :
    Calls Tryd.prog 19 #[.agg #[.int .i64 3, .int .i64 0, .string ⟨#[]⟩, .slice (some ⟨g7, 0, none⟩) 2 2, .slice none 0 0], .agg #[.int .i64 3, .int .i64 0, .string ⟨#[]⟩, .slice (some ⟨g8, 0, none⟩) 2 2, .slice none 0 0]] W fun e w' => e = .returned (.bool true) ∧ Below W.heap.size W w' := by
  have hCC : ∀ b o v, C b o = some v → (Cm.whole W) b o = some v := hC
  have hE : Rd (Cm.whole W) X.gv (X.cells B3 d3 B4 d4) := Rd_mono hCC _ _ hX
  have hl : (Cm.whole W).le W := Cm.whole_le W
  have key : ∀ g, W.heap[g]? = some (.cells #[.int .i64 X.kind, .int .i64 X.num, .string X.str, .slice B3 X.items.length d3, .slice B4 X.keys.length d4, .int .i64 X.kind, .int .i64 X.num, .string X.str, .slice B3 X.items.length d3, .slice B4 X.keys.length d4] 28 (0, 0)) → Rd (Cm.whole W) (vList [X, X]).gv ((vList [X, X]).cells (some ⟨g, 0, none⟩) 2 none 0) := by
    intro g hg
    have hRds : Rds (Cm.whole W) 5 (V.gvs [X, X]) [X.cells B3 d3 B4 d4, X.cells B3 d3 B4 d4] := ⟨⟨rfl, hE⟩, ⟨rfl, hE⟩, trivial⟩
    refine V.mk_rd _ (by simp [vList, V.kind, okAt]; decide) (by simp [vList, V.num, okAt]; decide) (by simp [vList, V.str, okAt, ByteArray.size]) ⟨by simp [vList, V.items], by simp [maxLen], .inr ⟨g, 0, rfl, hRds.rdE fun j u hj => ?_⟩⟩ ⟨by simp [vList, V.keys, strsGv], by simp [maxLen], .inl (by simp [vList, V.keys, strsGv])⟩
    show W.cell? ⟨g, 0 + j, none⟩ = some u
    rw [Nat.zero_add, boxCell hg, ← hj]
    simp [V.cells]
  have hl2 : (vList [X, X]).items.length = 2 := rfl
  refine (same_calls (vList [X, X]).dep (vList [X, X]) (vList [X, X]) (Cm.whole W) W (some ⟨g7, 0, none⟩) 2 none 0 (some ⟨g8, 0, none⟩) 2 none 0 (Nat.le_refl _) hl (key g7 h7) (key g8 h8)).mono ?_
  rintro e w' ⟨⟨b, rfl, hb⟩, h⟩
  exact ⟨by rw [hb.2 rfl], h⟩
/-- What the law's own search has come to. -/
def Look (v : V) (key : ByteArray) (k : Nat) (Y : V) (fb : Bool) : Prop :=
  (fb = false ∧ Y = V.zero ∧ ∀ j, j < k → v.keys[j]? ≠ some key) ∨ (fb = true ∧ ∃ k0, k0 < k ∧ v.keys[k0]? = some key ∧ (∀ j, j < k0 → v.keys[j]? ≠ some key) ∧ v.items[k0]? = some Y)
theorem look_step {v : V} {key : ByteArray} {k : Nat} {Y : V} {fb : Bool} (h : Look v key k Y fb) (hn : v.keys[k]? ≠ some key) : Look v key (k + 1) Y fb := by
  rcases h with ⟨h1, h2, h3⟩ | ⟨h1, k0, h2, h3⟩
  · refine .inl ⟨h1, h2, fun j hj => ?_⟩
    by_cases e : j = k
    · subst e; exact hn
    · exact h3 j (by omega)
  · exact .inr ⟨h1, k0, by omega, h3⟩
theorem look_true {v : V} {key : ByteArray} {k : Nat} {Y : V} (h : Look v key k Y true) : Look v key (k + 1) Y true := by
  rcases h with ⟨h1, h2, h3⟩ | ⟨h1, k0, h2, h3⟩
  · cases h1
  · exact .inr ⟨h1, k0, by omega, h3⟩
theorem look_found {v : V} {key : ByteArray} {k : Nat} {Y X : V} (h : Look v key k Y false) (he : v.keys[k]? = some key) (hx : v.items[k]? = some X) : Look v key (k + 1) X true := by
  rcases h with ⟨h1, h2, h3⟩ | ⟨h1, k0, h2, h3⟩
  · exact .inr ⟨rfl, k, by omega, he, h3, hx⟩
  · cases h1
theorem look_end {v : V} {key : ByteArray} {k : Nat} {X Y : V} {is fb : Bool} (hg : GetIs v key X is) (h : Look v key k Y fb) (hm : v.kind = 4 ∧ v.keys.length = v.items.length) (hk : v.keys.length ≤ k) : fb = is ∧ Y = X := by
  rcases h with ⟨h1, h2, h3⟩ | ⟨h1, k0, h2, h3, h4, h5⟩
  · have hno : key ∉ v.keys := fun hmm => by
      obtain ⟨j, hj⟩ := List.mem_iff_getElem?.1 hmm
      exact h3 j (by have := (List.getElem?_eq_some_iff.1 hj).1; omega) hj
    rcases hg with ⟨_, j, _, _, hj, _⟩ | ⟨h4, h5, _⟩
    · exact absurd (List.mem_of_getElem? hj) hno
    · exact ⟨h1.trans h4.symm, h2.trans h5.symm⟩
  · rcases hg with ⟨h6, j, _, _, hj, hj2, hj3⟩ | ⟨_, _, hno⟩
    · have : k0 = j := by
        rcases Nat.lt_trichotomy k0 j with h | h | h
        · exact absurd h3 (hj2 k0 h)
        · exact h
        · exact absurd hj (h4 j h)
      subst this
      rw [h5] at hj3
      injection hj3 with hj3
      exact ⟨h1.trans h6.symm, hj3⟩
    · exact absurd ⟨hm.1, hm.2, List.mem_of_getElem? h3⟩ hno
set_option maxHeartbeats 4000000 in
set_option maxRecDepth 100000 in
theorem makes_calls (v : V) (C : Cm) (w : World) (A3 : Option Addr) (c3 : Nat) (A4 : Option Addr) (c4 : Nat) (key s : ByteArray) (nn : Int) (A : Option Addr) (n c : Nat) (l : List (ByteArray × V))
    (hC : C.le w) (hrv : Rd C v.gv (v.cells A3 c3 A4 c4)) (hn : l.length = n) (hr : RdSl C A c 6 (pairsGv l)) (hE : Env w) (hs : okAt (.string s)) (hnn : okAt (.int .i64 nn)) :
    Calls Tryd.prog 5 #[.agg (v.cells A3 c3 A4 c4).toArray, .string key, .slice A n c, .string s, .int .i64 nn] w fun e w' => e = .returned (.bool true) ∧ Below w.heap.size w w' := by
  have hnc : n ≤ c ∧ c ≤ maxLen := by have := hr.1; rw [pairsGv_length, hn] at this; exact ⟨this, hr.2.1⟩
  obtain ⟨_, _, _, _, he, o1, o2, o3, r3, r4⟩ := V.open hrv
  simp only [V.cells, List.cons.injEq, Value.slice.injEq, and_true, true_and] at he
  obtain ⟨⟨rfl, rfl⟩, rfl, rfl⟩ := he
  have hlen3 : v.items.length ≤ c3 ∧ c3 ≤ maxLen := by have := r3.1; rw [V.gvs_length] at this; exact ⟨this, r3.2.1⟩
  have hlen4 : v.keys.length ≤ c4 ∧ c4 ≤ maxLen := by have := r4.1; rw [strsGv_length] at this; exact ⟨this, r4.2.1⟩
  unfold maxLen at hnc hlen3 hlen4
  have hr2 : RdSl C A c 6 (pairsGv (l.take (min n 20))) := by
    have := hr.take' (min n 20)
    rwa [show (pairsGv l).take (min n 20) = pairsGv (l.take (min n 20)) by simp [pairsGv]] at this
  have hl2 : (l.take (min n 20)).length = min n 20 := by rw [List.length_take, hn]; omega
  obtain ⟨d, hd, hok, hcell⟩ := pairs_open hC hr2
  have hdl : d.length = min n 20 := by rw [← hl2, ← hd, List.length_map]
  have hm20 : min n 20 ≤ 20 := Nat.min_le_right _ _
  have hmn : min n 20 ≤ n := Nat.min_le_left _ _
  have HM := Lib.hid (fun W (h : Below w.heap.size w W) => map_calls C W A (min n 20) c (l.take (min n 20)) hl2 (Cm.le_below hC h) hr2 (by rw [hl2]; omega))
  have HRM := Lib.hid (fun W C' (hC : Cm.le C' W) (he : Ext w.heap.size C C') => refMap_calls C' W A (min n 20) c (l.take (min n 20)) hl2 hC (hr2.ext he) (by rw [hl2]; omega))
  have HGET := Lib.hid (fun W (h : Below w.heap.size w W) => get_calls v key C W A3 c3 A4 c4 (Cm.le_below hC h) hrv)
  have HBIG := Lib.hid (fun W (h : Below w.heap.size w W) => big_calls v C W A3 c3 A4 c4 (Cm.le_below hC h) hrv)
  have HAL := Lib.hid (fun W (h : Below w.heap.size w W) => alive11_calls W (hE.below h))
  have hmin : min (n : Int) 20 = ((min n 20 : Nat) : Int) := by omega
  generalize l.take (min n 20) = l2 at *
  generalize hmq : min n 20 = m at *
  have HC := Lib.hid hC
  have HOK := Lib.hid hok
  have HD := Lib.hid hd
  have HCELL := Lib.hid hcell
  have HL2 := Lib.hid hl2
  have HR3 := Lib.hid r3
  have HR4 := Lib.hid r4
  have HS := Lib.hid hs
  have HNN := Lib.hid hnn
  clear hC hE hok hcell hr2 hr hd hn hmq hrv r3 r4 o1 o2 o3 hl2 hs hnn
  unfold V.cells at HGET HBIG ⊢
  go_enter Tryd.func5, Tryd.ntmps5
  by_cases hbig : 2100 < v.cnt
  · rw [decide_eq_true hbig] at HBIG
    clear hbig
    go_wp2_with fail
    refine (HBIG.out _ (by go_grown)).mono ?_
    rintro e w1 ⟨rfl, hb1⟩
    have hb2 : Below w.heap.size w w1 := (by go_grown : Below w.heap.size w _).trans (hb1.mono (by simp))
    clear hb1
    go_wp2_with fail
    refine (HAL.out _ hb2).mono ?_
    rintro e w2 ⟨rfl, hb3⟩
    have hb4 := hb2.trans (hb3.mono hb2.size)
    clear hb2 hb3
    go_wp2_with fail
    go_ret
    exact ⟨rfl, hb4⟩
  · rw [decide_eq_false hbig] at HBIG
    go_upto_region 4 with (refine (HBIG.out _ (by go_grown)).mono ?_; rintro e w1 ⟨rfl, hb1⟩)
    have hb2 : Below w.heap.size w w1 := (by go_grown : Below w.heap.size w _).trans (hb1.mono (by simp))
    have hbox : w1.heap[w.heap.size]? = some (.cells #[.int .i64 v.kind, .int .i64 v.num, .string v.str, .slice A3 v.items.length c3, .slice A4 v.keys.length c4] 28 (0, 0)) := (hb1.block _ (by simp)).trans (heap_alloc_new w _)
    have HB1 := Lib.hid hb2
    have HV1 := Lib.hid hbox
    clear hb1 hb2 hbox HBIG hbig
    go_cut [11, 12] (fun x11 i12 wx => ∃ (g : Nat) (X : V) (is : Bool) (B3 : Option Addr) (d3 : Nat) (B4 : Option Addr) (d4 : Nat), x11 = .pointer (some ⟨g, 0, none⟩) ∧ i12 = .bool is ∧ w.heap.size < g ∧ Hid (wx.heap[g]? = some (.cells #[.int .i64 X.kind, .int .i64 X.num, .string X.str, .slice B3 X.items.length d3, .slice B4 X.keys.length d4] 28 (0, 0))) ∧ Hid (Rd C X.gv (X.cells B3 d3 B4 d4)) ∧ Hid (GetIs v key X is) ∧ Hid (Below w.heap.size w wx) ∧ Hid (wx.heap[w.heap.size]? = some (.cells #[.int .i64 v.kind, .int .i64 v.num, .string v.str, .slice A3 v.items.length c3, .slice A4 v.keys.length c4] 28 (0, 0))))
    case first =>
      --[[
      have h1 := (Array.getElem?_eq_some_iff.1 HV1.out).1
      have p0 := boxCell HV1.out 0
      have p1 := boxCell HV1.out 1
      have p2 := boxCell HV1.out 2
      have p3 := boxCell HV1.out 3
      have p4 := boxCell HV1.out 4
      simp only [List.getElem?_toArray, List.getElem?_cons_zero, List.getElem?_cons_succ] at p0 p1 p2 p3 p4
      go_wp2_with fail
      refine (HGET.out _ HB1.out).mono ?_
      rintro e w2 ⟨hres, hb2⟩
      have hB2 : Below w.heap.size w w2 := HB1.out.trans (hb2.mono HB1.out.size)
      have hV2 := (hb2.block _ h1).trans HV1.out
      have hs2 := hb2.size
      have HB2 := Lib.hid hB2
      have HV2 := Lib.hid hV2
      clear hb2 hB2 hV2 p0 p1 p2 p3 p4
      rcases hres with ⟨k, x, h4, hlen, hk, hj, hx, B3, d3, B4, d4, rfl, hrx⟩ | ⟨hno, rfl⟩
      · have HG : Hid (GetIs v key x true) := Lib.hid (.inl ⟨rfl, k, h4, hlen, hk, hj, hx⟩)
        have HRX := Lib.hid hrx
        clear h4 hlen hk hj hx hrx
        go_wp2_with fail
        go_meet
        case rel => exact ⟨w2.heap.size, x, true, B3, d3, B4, d4, rfl, rfl, by omega, Lib.hid (heap_alloc_new _ _), HRX, HG, Lib.hid (HB2.out.alloc HB2.out.size _), Lib.hid ((Below.heap_alloc _ _ _ (by omega)).trans HV2.out)⟩
      · have HG : Hid (GetIs v key V.zero false) := Lib.hid (.inr ⟨rfl, rfl, hno⟩)
        clear hno
        unfold zeroVal
        go_wp2_with fail
        go_meet
        case rel => exact ⟨w2.heap.size, V.zero, false, none, 0, none, 0, rfl, rfl, by omega, Lib.hid (heap_alloc_new _ _), Lib.hid (zero_rd C), HG, Lib.hid (HB2.out.alloc HB2.out.size _), Lib.hid ((Below.heap_alloc _ _ _ (by omega)).trans HV2.out)⟩
      --]]
    case rest =>
      obtain ⟨g, X, is, B3, d3, B4, d4, rfl, rfl, hg, HX, HRX, HGI, HB, HV⟩ := hcut
      clear HB1 HV1 HGET
      rename World => wo
      have hgl := (Array.getElem?_eq_some_iff.1 HX.out).1
      have h1 := (Array.getElem?_eq_some_iff.1 HV.out).1
      go_upto_region 6 with fail
      obtain ⟨wz, hwz⟩ : ∃ wz, wz = wo.alloc (.cells #[.int .i64 0, .int .i64 0, .string ⟨#[]⟩, .slice none 0 0, .slice none 0 0] 28) := ⟨_, rfl⟩
      rw [← hwz]
      have HXZ : Hid (wz.heap[g]? = some (.cells #[.int .i64 X.kind, .int .i64 X.num, .string X.str, .slice B3 X.items.length d3, .slice B4 X.keys.length d4] 28 (0, 0))) := Lib.hid (by rw [hwz]; exact (Below.heap_alloc _ _ _ hgl).trans HX.out)
      have HVZ : Hid (wz.heap[w.heap.size]? = some (.cells #[.int .i64 v.kind, .int .i64 v.num, .string v.str, .slice A3 v.items.length c3, .slice A4 v.keys.length c4] 28 (0, 0))) := Lib.hid (by rw [hwz]; exact (Below.heap_alloc _ _ _ h1).trans HV.out)
      have HWZ : Hid (wz.heap[wo.heap.size]? = some (.cells #[.int .i64 V.zero.kind, .int .i64 V.zero.num, .string V.zero.str, .slice none V.zero.items.length 0, .slice none V.zero.keys.length 0] 28 (0, 0))) := Lib.hid (by rw [hwz]; exact heap_alloc_new _ _)
      have HBZ : Hid (Below w.heap.size w wz) := Lib.hid (by rw [hwz]; exact HB.out.alloc HB.out.size _)
      have hz1 : wo.heap.size < wz.heap.size := by rw [hwz]; simp
      clear hwz HX HV HB
      generalize wo.heap.size = g2 at hgl h1 HWZ hz1 ⊢
      obtain ⟨mp, hmp⟩ : ∃ mp : Bool, mp = decide (v.kind = 4 ∧ v.keys.length = v.items.length) := ⟨_, rfl⟩
      have HMP := Lib.hid hmp
      clear hmp
      go_cut [52] (fun t wx => t = .bool mp ∧ wz = wx)
      case first =>
        --[[
        have p0 := boxCell HVZ.out 0
        have p1 := boxCell HVZ.out 1
        have p2 := boxCell HVZ.out 2
        have p3 := boxCell HVZ.out 3
        have p4 := boxCell HVZ.out 4
        simp only [List.getElem?_toArray, List.getElem?_cons_zero, List.getElem?_cons_succ] at p0 p1 p2 p3 p4
        by_cases hk4 : v.kind = 4
        · by_cases hkl : v.keys.length = v.items.length
          · have HE : Hid (mp = true) := Lib.hid (by rw [HMP.out]; exact decide_eq_true ⟨hk4, hkl⟩)
            rw [hk4] at p0
            rw [hkl] at p4
            clear hk4 hkl
            go_wp2_with fail
            go_meet
            case rel => exact ⟨by rw [HE.out], rfl⟩
          · have HE : Hid (mp = false) := Lib.hid (by rw [HMP.out]; exact decide_eq_false (fun h => hkl h.2))
            have hq : ((v.keys.length : Int) == (v.items.length : Int)) = false := by simp; omega
            rw [hk4] at p0
            clear hk4
            go_wp2_with fail
            go_meet
            case rel => exact ⟨by rw [HE.out], rfl⟩
        · have HE : Hid (mp = false) := Lib.hid (by rw [HMP.out]; exact decide_eq_false (fun h => hk4 h.1))
          go_wp2_with fail
          go_meet
          case rel => exact ⟨by rw [HE.out], rfl⟩
        --]]
      case rest =>
        obtain ⟨rfl, rfl⟩ := hcut
        go_upto_if 52 with fail
        go_cut [14] (fun f wx => ∃ (E3 : Option Addr) (e3 : Nat) (E4 : Option Addr) (e4 : Nat), f = .bool is ∧ Hid (wx.heap[g2]? = some (.cells #[.int .i64 X.kind, .int .i64 X.num, .string X.str, .slice E3 X.items.length e3, .slice E4 X.keys.length e4] 28 (0, 0))) ∧ Hid (Rd C X.gv (X.cells E3 e3 E4 e4)) ∧ Hid (wz.grownBy wx (some g2)))
        case first =>
          --[[
          cases hmp : mp
          · have HE : Hid (is = false ∧ X = V.zero) := Lib.hid (by
              rcases HGI.out with ⟨_, k, h4, hl, _⟩ | ⟨h1, h2, _⟩
              · exact absurd ⟨h4, hl⟩ (of_decide_eq_false (HMP.out.symm.trans hmp))
              · exact ⟨h1, h2⟩)
            clear hmp
            go_wp2_with fail
            go_meet
            case rel =>
              obtain ⟨h1, h2⟩ := HE.out
              subst h1 h2
              exact ⟨none, 0, none, 0, rfl, HWZ, Lib.hid (zero_rd C), Lib.hid (World.grownBy.refl _ _)⟩
          · have HMT : Hid (v.kind = 4 ∧ v.keys.length = v.items.length) := Lib.hid (of_decide_eq_true (HMP.out.symm.trans hmp))
            clear hmp
            have hkl : v.keys.length = v.items.length := HMT.out.2
            have hki : v.keys.length ≤ v.items.length := by omega
            clear hkl
            have p0 := boxCell HVZ.out 0
            have p1 := boxCell HVZ.out 1
            have p2 := boxCell HVZ.out 2
            have p3 := boxCell HVZ.out 3
            have p4 := boxCell HVZ.out 4
            simp only [List.getElem?_toArray, List.getElem?_cons_zero, List.getElem?_cons_succ] at p0 p1 p2 p3 p4
            have hvz := (Array.getElem?_eq_some_iff.1 HVZ.out).1
            clear hki p0 p1 p2 p3
            go_wp2_with fail
            go_loopw [14, 56] (fun f i wr => ∃ (k : Nat) (fb : Bool) (Y : V) (E3 : Option Addr) (e3 : Nat) (E4 : Option Addr) (e4 : Nat), k ≤ v.keys.length ∧ i = .int .i64 k ∧ f = .bool fb ∧ Hid (Look v key k Y fb) ∧ Hid (wr.heap[g2]? = some (.cells #[.int .i64 Y.kind, .int .i64 Y.num, .string Y.str, .slice E3 Y.items.length e3, .slice E4 Y.keys.length e4] 28 (0, 0))) ∧ Hid (Rd C Y.gv (Y.cells E3 e3 E4 e4)) ∧ Hid (wz.grownBy wr (some g2))) (fun _ i _ => v.keys.length - (intOf i).toNat)
            case atStart => exact ⟨0, false, V.zero, none, 0, none, 0, Nat.zero_le _, rfl, rfl, Lib.hid (.inl ⟨rfl, rfl, fun j hj => by omega⟩), HWZ, Lib.hid (zero_rd C), Lib.hid (World.grownBy.refl _ _)⟩
            case round =>
              obtain ⟨k, fb, Y, E3, e3, E4, e4, hk, rfl, rfl, HLK, HBX, HRY, HGR⟩ := hrel
              clear p4
              have hwr := HGR.out.size
              have hbe : Below w.heap.size w wr := HBZ.out.trans (below_of_grownBy HGR.out HBZ.out.size (by omega))
              have HBE := Lib.hid hbe
              have hvr := (HGR.out.block _ hvz (by intro e; injection e with e; omega)).trans HVZ.out
              have p0 := boxCell hvr 0
              have p1 := boxCell hvr 1
              have p2 := boxCell hvr 2
              have p3 := boxCell hvr 3
              have p4 := boxCell hvr 4
              simp only [List.getElem?_toArray, List.getElem?_cons_zero, List.getElem?_cons_succ] at p0 p1 p2 p3 p4
              have q0 := boxCell HBX.out 0
              have q1 := boxCell HBX.out 1
              have q2 := boxCell HBX.out 2
              have q3 := boxCell HBX.out 3
              have q4 := boxCell HBX.out 4
              simp only [List.getElem?_toArray, List.getElem?_cons_zero, List.getElem?_cons_succ] at q0 q1 q2 q3 q4
              have f0 := boxFroz HBX.out 0
              have f1 := boxFroz HBX.out 1
              have f2 := boxFroz HBX.out 2
              have f3 := boxFroz HBX.out 3
              have f4 := boxFroz HBX.out 4
              clear hvr hbe p0 p1 p2
              by_cases hlt : k < v.keys.length
              · obtain ⟨b, o, rfl, e0, _⟩ := scal_elem (enc := fun x => Value.string x) HC.out HR4.out k hlt
                replace e0 := (HBE.out.cell (World.block_lt_of_cell? w _ e0)).trans e0
                have HGK : Hid (v.keys[k]? = some v.keys[k]) := Lib.hid (List.getElem?_eq_getElem hlt)
                have hki : k < v.items.length := by have := HMT.out.2; omega
                cases heq : v.keys[k].toList == key.toList
                · have HNE : Hid (v.keys[k]? ≠ some key) := Lib.hid (fun h => by rw [HGK.out] at h; injection h with h; rw [h] at heq; simp at heq)
                  generalize v.keys[k] = kx at e0 heq HGK
                  go_wp2_with fail
                  go_roundw
                  case rel => exact ⟨k + 1, fb, Y, E3, e3, E4, e4, by omega, by go_num, rfl, Lib.hid (look_step HLK.out HNE.out), HBX, HRY, HGR⟩
                  case measure => simp [intOf]; omega
                · have HEQ : Hid (v.keys[k]? = some key) := Lib.hid (by rw [HGK.out]; exact congrArg some (bytes_ext (by simpa using heq)))
                  generalize v.keys[k] = kx at e0 heq HGK
                  cases hfb : fb
                  · rw [hfb] at HLK
                    clear hfb
                    obtain ⟨b', o', rfl, F3, i3, F4, i4, hx, x0, x1, x2, x3, x4⟩ := V.elem HC.out HR3.out k hki
                    have HGI2 : Hid (v.items[k]? = some v.items[k]) := Lib.hid (List.getElem?_eq_getElem hki)
                    generalize v.items[k] = X2 at *
                    have HX2 := Lib.hid hx
                    replace x0 := (HBE.out.cell (World.block_lt_of_cell? w _ x0)).trans x0
                    replace x1 := (HBE.out.cell (World.block_lt_of_cell? w _ x1)).trans x1
                    replace x2 := (HBE.out.cell (World.block_lt_of_cell? w _ x2)).trans x2
                    replace x3 := (HBE.out.cell (World.block_lt_of_cell? w _ x3)).trans x3
                    replace x4 := (HBE.out.cell (World.block_lt_of_cell? w _ x4)).trans x4
                    clear hx
                    go_wp2_with fail
                    go_roundw
                    case rel =>
                      refine ⟨k + 1, true, X2, F3, i3, F4, i4, by omega, by go_num, rfl, Lib.hid (look_found HLK.out HEQ.out HGI2.out), Lib.hid ?_, HX2, Lib.hid ?_⟩
                      · exact heap_setCell_own (heap_setCell_own (heap_setCell_own (heap_setCell_own (heap_setCell_own HBX.out 0 _) 1 _) 2 _) 3 _) 4 _
                      · exact grownBy_trans (grownBy_trans (grownBy_trans (grownBy_trans (grownBy_trans HGR.out (grownBy_setCell _ _ _ _)) (grownBy_setCell _ _ _ _)) (grownBy_setCell _ _ _ _)) (grownBy_setCell _ _ _ _)) (grownBy_setCell _ _ _ _)
                    case measure => simp [intOf]; omega
                  · rw [hfb] at HLK
                    clear hfb
                    go_wp2_with fail
                    go_roundw
                    case rel => exact ⟨k + 1, true, Y, E3, e3, E4, e4, by omega, by go_num, rfl, Lib.hid (look_true HLK.out), HBX, HRY, HGR⟩
                    case measure => simp [intOf]; omega
              · have HEQ : Hid (fb = is ∧ Y = X) := Lib.hid (look_end HGI.out HLK.out HMT.out (by omega))
                go_wp2_with fail
                go_meet
                case rel =>
                  obtain ⟨rfl, rfl⟩ := HEQ.out
                  exact ⟨E3, e3, E4, e4, rfl, HBX, HRY, HGR⟩
          --]]
        case rest =>
          obtain ⟨E3, e3, E4, e4, rfl, HW2, HRY, HGR⟩ := hcut
          have hbe : Below w.heap.size w wc := HBZ.out.trans (below_of_grownBy HGR.out HBZ.out.size (by omega))
          have HX2 : Hid (wc.heap[g]? = some (.cells #[.int .i64 X.kind, .int .i64 X.num, .string X.str, .slice B3 X.items.length d3, .slice B4 X.keys.length d4] 28 (0, 0))) := Lib.hid ((HGR.out.block _ (by omega) (by intro e; injection e with e; omega)).trans HXZ.out)
          have HSM := Lib.hid (fun W (h : Below w.heap.size w W) => same_calls X.dep X X C W B3 d3 B4 d4 E3 e3 E4 e4 (Nat.le_refl _) (Cm.le_below HC.out h) HRX.out HRY.out)
          have HBE := Lib.hid hbe
          have hgc := (Array.getElem?_eq_some_iff.1 HX2.out).1
          clear hbe HGI HGR HXZ HVZ HWZ HBZ HMP HR3 HR4
          have p0 := boxCell HX2.out 0
          have p1 := boxCell HX2.out 1
          have p2 := boxCell HX2.out 2
          have p3 := boxCell HX2.out 3
          have p4 := boxCell HX2.out 4
          simp only [List.getElem?_toArray, List.getElem?_cons_zero, List.getElem?_cons_succ] at p0 p1 p2 p3 p4
          have q0 := boxCell HW2.out 0
          have q1 := boxCell HW2.out 1
          have q2 := boxCell HW2.out 2
          have q3 := boxCell HW2.out 3
          have q4 := boxCell HW2.out 4
          simp only [List.getElem?_toArray, List.getElem?_cons_zero, List.getElem?_cons_succ] at q0 q1 q2 q3 q4
          simp only [V.cells] at HSM
          go_wp2_with fail
          refine (HSM.out _ HBE.out).mono ?_
          rintro e w2 ⟨⟨bb, rfl, hbb⟩, hb2⟩
          obtain rfl := hbb.2 trivial
          have hB2 : Below w.heap.size w w2 := HBE.out.trans (hb2.mono HBE.out.size)
          have hX2 := (hb2.block _ hgc).trans HX2.out
          have HBE2 := Lib.hid hB2
          clear hbb hb2 hB2 p0 p1 p2 p3 p4 q0 q1 q2 q3 q4 HX2 HW2 HBE HSM HRY
          have HX2 := Lib.hid hX2
          clear hX2 hgc
          go_wp2_with fail
          refine (HAL.out _ HBE2.out).mono ?_
          rintro e w3 ⟨rfl, hb3⟩
          have hgc := (Array.getElem?_eq_some_iff.1 HX2.out).1
          have HX3 := Lib.hid ((hb3.block _ hgc).trans HX2.out)
          have HBE3 := Lib.hid (HBE2.out.trans (hb3.mono HBE2.out.size))
          clear hb3 HX2 HBE2 hgc
          go_wp2_with fail
          go_loopw [89] (fun i wr => ∃ k : Nat, k ≤ m ∧ i = .int .i64 k ∧ Hid (Below w3.heap.size w3 wr)) (fun i _ => m - (intOf i).toNat)
          case atStart => exact ⟨0, Nat.zero_le _, rfl, Lib.hid (Below.refl _ _)⟩
          case round =>
            obtain ⟨k, hk, rfl, HB⟩ := hrel
            have HBW := Lib.hid (HBE3.out.trans (HB.out.mono HBE3.out.size))
            by_cases hlt : k < m
            · have hkd : k < d.length := by omega
              have hl0 : l2 ≠ [] := by intro e; have := HL2.out; rw [e] at this; simp at this; omega
              obtain ⟨b, o, rfl, hc⟩ := HCELL.out hl0
              obtain ⟨x, hx⟩ : ∃ x, x = d[k] := ⟨_, rfl⟩
              have hc' := hc k hkd
              rw [← hx] at hc'
              have e0 := hc' 0 (.string x.key) rfl
              have e1 := hc' 1 (.int .i64 x.v.kind) rfl
              have e2 := hc' 2 (.int .i64 x.v.num) rfl
              have e3 := hc' 3 (.string x.v.str) rfl
              have e4 := hc' 4 (.slice x.a3 x.v.items.length x.c3) rfl
              have e5 := hc' 5 (.slice x.a4 x.v.keys.length x.c4) rfl
              rw [Nat.add_zero] at e0
              replace e0 := (HBW.out.cell (World.block_lt_of_cell? w _ e0)).trans e0
              replace e1 := (HBW.out.cell (World.block_lt_of_cell? w _ e1)).trans e1
              replace e2 := (HBW.out.cell (World.block_lt_of_cell? w _ e2)).trans e2
              replace e3 := (HBW.out.cell (World.block_lt_of_cell? w _ e3)).trans e3
              replace e4 := (HBW.out.cell (World.block_lt_of_cell? w _ e4)).trans e4
              replace e5 := (HBW.out.cell (World.block_lt_of_cell? w _ e5)).trans e5
              have HXM : Hid (x ∈ d) := Lib.hid (by rw [hx]; exact List.getElem_mem hkd)
              have HXk : Hid (d[k]? = some x) := Lib.hid (by rw [hx]; exact List.getElem?_eq_getElem hkd)
              clear hc hc' hx
              have HB1 := Lib.hid (fun W (h : Below w.heap.size w W) => big_calls x.v C W x.a3 x.c3 x.a4 x.c4 (Cm.le_below HC.out h) (HOK.out x HXM.out).2)
              simp only [V.cells] at HB1
              go_wp2_with fail
              refine (HB1.out _ (HBW.out.alloc HBW.out.size _)).mono ?_
              rintro e w4 ⟨rfl, hb4⟩
              have HB4 : Hid (Below w3.heap.size w3 w4) := Lib.hid (HB.out.trans (((Below.refl _ _).alloc (Nat.le_refl _) _).trans (hb4.mono (by simp)) |>.mono HB.out.size))
              clear hb4 e0 e1 e2 e3 e4 e5
              by_cases hbig : 2100 < x.v.cnt
              · have hbd : decide (2100 < x.v.cnt) = true := decide_eq_true hbig
                rw [hbd]
                go_wp2_with fail
                go_ret
                exact ⟨rfl, HBE3.out.trans (HB4.out.mono HBE3.out.size)⟩
              · have hbd : decide (2100 < x.v.cnt) = false := decide_eq_false hbig
                rw [hbd]
                go_wp2_with fail
                go_roundw
                case rel => exact ⟨k + 1, by omega, by go_num, HB4⟩
                case measure => simp [intOf]; omega
            · clear HBW
              have HX4 := Lib.hid ((HB.out.block _ (Array.getElem?_eq_some_iff.1 HX3.out).1).trans HX3.out)
              have HBE4 := Lib.hid (HBE3.out.trans (HB.out.mono HBE3.out.size))
              clear HB HBE3 HX3
              go_wp2_with fail
              clear hlt hk
              go_loopw [19, 99] (fun tw i wr => ∃ (k : Nat) (b : Bool), k ≤ m ∧ i = .int .i64 k ∧ tw = .bool b ∧ Hid (b = true ↔ ¬ ((d.take k).map PC.key).Nodup) ∧ Hid (Below w.heap.size w wr) ∧ Hid (wr.heap[g]? = some (.cells #[.int .i64 X.kind, .int .i64 X.num, .string X.str, .slice B3 X.items.length d3, .slice B4 X.keys.length d4] 28 (0, 0)))) (fun _ i _ => m - (intOf i).toNat)
              case atStart => exact ⟨0, false, Nat.zero_le _, rfl, rfl, Lib.hid (by simp), HBE4, HX4⟩
              case round =>
                clear HX4 HBE4
                rename World => wo
                obtain ⟨k, tw, hk, rfl, rfl, HTW, HB, HX⟩ := hrel
                have hgo := (Array.getElem?_eq_some_iff.1 HX.out).1
                by_cases hlt : k < m
                · have hkd : k < d.length := by omega
                  have hl0 : l2 ≠ [] := by intro e; have := HL2.out; rw [e] at this; simp at this; omega
                  obtain ⟨b, o, rfl, hc⟩ := HCELL.out hl0
                  obtain ⟨x, hx⟩ : ∃ x, x = d[k] := ⟨_, rfl⟩
                  have hc' := hc k hkd
                  rw [← hx] at hc'
                  have e0 := hc' 0 (.string x.key) rfl
                  have e1 := hc' 1 (.int .i64 x.v.kind) rfl
                  have e2 := hc' 2 (.int .i64 x.v.num) rfl
                  have e3 := hc' 3 (.string x.v.str) rfl
                  have e4 := hc' 4 (.slice x.a3 x.v.items.length x.c3) rfl
                  have e5 := hc' 5 (.slice x.a4 x.v.keys.length x.c4) rfl
                  rw [Nat.add_zero] at e0
                  replace e0 := (HB.out.cell (World.block_lt_of_cell? w _ e0)).trans e0
                  replace e1 := (HB.out.cell (World.block_lt_of_cell? w _ e1)).trans e1
                  replace e2 := (HB.out.cell (World.block_lt_of_cell? w _ e2)).trans e2
                  replace e3 := (HB.out.cell (World.block_lt_of_cell? w _ e3)).trans e3
                  replace e4 := (HB.out.cell (World.block_lt_of_cell? w _ e4)).trans e4
                  replace e5 := (HB.out.cell (World.block_lt_of_cell? w _ e5)).trans e5
                  have HXM : Hid (x ∈ d) := Lib.hid (by rw [hx]; exact List.getElem_mem hkd)
                  have HXk : Hid (d[k]? = some x) := Lib.hid (by rw [hx]; exact List.getElem?_eq_getElem hkd)
                  clear hc hc' hx
                  have hkc : k ≤ m := by omega
                  have hkcc : k ≤ c := by omega
                  go_wp2_with fail
                  obtain ⟨wa, hwa⟩ : ∃ wa, wa = wo.alloc (.cells #[.string x.key, .int .i64 x.v.kind, .int .i64 x.v.num, .string x.v.str, .slice x.a3 x.v.items.length x.c3, .slice x.a4 x.v.keys.length x.c4] 38) := ⟨_, rfl⟩
                  rw [← hwa]
                  have hpk : wa.heap[wo.heap.size]? = some (.cells #[.string x.key, .int .i64 x.v.kind, .int .i64 x.v.num, .string x.v.str, .slice x.a3 x.v.items.length x.c3, .slice x.a4 x.v.keys.length x.c4] 38 (0, 0)) := by rw [hwa]; exact heap_alloc_new _ _
                  have HPK := Lib.hid hpk
                  have HBA : Hid (Below w.heap.size w wa) := Lib.hid (by rw [hwa]; exact HB.out.alloc HB.out.size _)
                  have HXA : Hid (wa.heap[g]? = some (.cells #[.int .i64 X.kind, .int .i64 X.num, .string X.str, .slice B3 X.items.length d3, .slice B4 X.keys.length d4] 28 (0, 0))) := Lib.hid (by rw [hwa]; exact (Below.heap_alloc _ _ _ hgo).trans HX.out)
                  have hoa : wo.heap.size < wa.heap.size := by rw [hwa]; simp
                  clear hwa hpk e0 e1 e2 e3 e4 e5 HB HX
                  generalize wo.heap.size = g5 at HPK hoa hgo ⊢
                  go_loopw [19, 108] (fun tw i wr => ∃ (j : Nat) (b : Bool), j ≤ k ∧ i = .int .i64 j ∧ tw = .bool b ∧ Hid (b = true ↔ ¬ ((d.take k).map PC.key).Nodup ∨ x.key ∈ (d.take j).map PC.key) ∧ Hid (Below wa.heap.size wa wr)) (fun _ i _ => k - (intOf i).toNat)
                  case atStart => exact ⟨0, tw, Nat.zero_le _, rfl, rfl, Lib.hid (by rw [HTW.out]; simp), Lib.hid (Below.refl _ _)⟩
                  case round =>
                    obtain ⟨j, tb, hj, rfl, rfl, HTB, HBJ⟩ := hrel
                    by_cases hjk : j < k
                    · have hjd : j < d.length := by omega
                      have hjc : j ≤ m := by omega
                      have hl0 : l2 ≠ [] := by intro e; have := HL2.out; rw [e] at this; simp at this; omega
                      obtain ⟨b', o', hAe, hc⟩ := HCELL.out hl0
                      injection hAe with hAe
                      injection hAe with e1 e2 _
                      subst e1 e2
                      obtain ⟨y, hy⟩ : ∃ y, y = d[j] := ⟨_, rfl⟩
                      have hc' := hc j hjd
                      rw [← hy] at hc'
                      have HBN : Hid (Below w.heap.size w wr) := Lib.hid (HBA.out.trans (HBJ.out.mono HBA.out.size))
                      have e0 := hc' 0 (.string y.key) rfl
                      have e1 := hc' 1 (.int .i64 y.v.kind) rfl
                      have e2 := hc' 2 (.int .i64 y.v.num) rfl
                      have e3 := hc' 3 (.string y.v.str) rfl
                      have e4 := hc' 4 (.slice y.a3 y.v.items.length y.c3) rfl
                      have e5 := hc' 5 (.slice y.a4 y.v.keys.length y.c4) rfl
                      rw [Nat.add_zero] at e0
                      replace e0 := (HBN.out.cell (World.block_lt_of_cell? w _ e0)).trans e0
                      replace e1 := (HBN.out.cell (World.block_lt_of_cell? w _ e1)).trans e1
                      replace e2 := (HBN.out.cell (World.block_lt_of_cell? w _ e2)).trans e2
                      replace e3 := (HBN.out.cell (World.block_lt_of_cell? w _ e3)).trans e3
                      replace e4 := (HBN.out.cell (World.block_lt_of_cell? w _ e4)).trans e4
                      replace e5 := (HBN.out.cell (World.block_lt_of_cell? w _ e5)).trans e5
                      have hpw := (HBJ.out.block _ hoa).trans HPK.out
                      have p0 := boxCell hpw 0
                      simp only [List.getElem?_toArray, List.getElem?_cons_zero] at p0
                      have hpl := (Array.getElem?_eq_some_iff.1 hpw).1
                      have HTS : Hid ((d.take (j + 1)).map PC.key = (d.take j).map PC.key ++ [y.key]) := Lib.hid (by rw [List.take_succ_eq_append_getElem hjd, hy, List.map_append]; rfl)
                      clear hc hc' hy hpw
                      have HBX : Hid (∀ o, Below wa.heap.size wa (wr.alloc o)) := Lib.hid (fun o => HBJ.out.alloc HBJ.out.size o)
                      cases htb : tb
                      · rw [htb] at HTB
                        cases heq : x.key.toList == y.key.toList
                        · have HTN : Hid (false = true ↔ ¬ ((d.take k).map PC.key).Nodup ∨ x.key ∈ (d.take (j + 1)).map PC.key) := Lib.hid (by
                            have hne : x.key ≠ y.key := fun h => by rw [h] at heq; simp at heq
                            rw [HTB.out, HTS.out]; simp [hne])
                          clear htb
                          go_wp2_with fail
                          go_roundw
                          case rel => exact ⟨j + 1, false, by omega, by go_num, rfl, HTN, Lib.hid (HBX.out _)⟩
                          case measure => simp [intOf]; omega
                        · have HTN : Hid (true = true ↔ ¬ ((d.take k).map PC.key).Nodup ∨ x.key ∈ (d.take (j + 1)).map PC.key) := Lib.hid (by
                            have hne : x.key = y.key := bytes_ext (by simpa using heq)
                            rw [HTS.out]; simp [hne])
                          clear htb
                          go_wp2_with fail
                          go_roundw
                          case rel => exact ⟨j + 1, true, by omega, by go_num, rfl, HTN, Lib.hid (HBX.out _)⟩
                          case measure => simp [intOf]; omega
                      · rw [htb] at HTB
                        have HTN : Hid (true = true ↔ ¬ ((d.take k).map PC.key).Nodup ∨ x.key ∈ (d.take (j + 1)).map PC.key) := Lib.hid (by
                          rw [HTS.out]
                          refine ⟨fun h => ?_, fun _ => rfl⟩
                          rcases HTB.out.1 rfl with h | h
                          · exact .inl h
                          · exact .inr (List.mem_append_left _ h))
                        clear htb
                        go_wp2_with fail
                        go_roundw
                        case rel => exact ⟨j + 1, true, by omega, by go_num, rfl, HTN, Lib.hid (HBX.out _)⟩
                        case measure => simp [intOf]; omega
                    · have HTE : Hid (tb = true ↔ ¬ ((d.take (k + 1)).map PC.key).Nodup) := Lib.hid (by
                        rw [HTB.out, show j = k by omega, List.take_succ_eq_append_getElem hkd]
                        have hxx : d[k] = x := by have := HXk.out; rw [List.getElem?_eq_getElem hkd] at this; injection this
                        rw [hxx, List.map_append, List.nodup_append]
                        by_cases h1 : ((d.take k).map PC.key).Nodup
                        · by_cases h2 : x.key ∈ (d.take k).map PC.key
                          · simp only [h1, h2, not_true_eq_false, false_or, true_iff]
                            intro h
                            exact h.2.2 _ h2 _ (by simp) rfl
                          · simp only [h1, h2, not_true_eq_false, or_self, false_iff, Classical.not_not]
                            refine ⟨trivial, by simp, fun a ha b hb e => ?_⟩
                            simp at hb
                            subst e hb
                            exact h2 ha
                        · exact ⟨fun _ h => h1 h.1, fun _ => .inl h1⟩)
                      have HBN : Hid (Below w.heap.size w wr) := Lib.hid (HBA.out.trans (HBJ.out.mono HBA.out.size))
                      have HXN := Lib.hid ((HBJ.out.block _ (by omega)).trans HXA.out)
                      go_wp2_with fail
                      go_roundw
                      case rel => exact ⟨k + 1, tb, by omega, by go_num, rfl, HTE, HBN, HXN⟩
                      case measure => simp [intOf]; omega
                · have hkm : k = m := by omega
                  have HTF : Hid (tw = true ↔ ¬ (l2.map Prod.fst).Nodup) := Lib.hid (by
                    rw [HTW.out, hkm, List.take_of_length_le (by omega)]
                    have : l2.map Prod.fst = d.map PC.key := by rw [← HD.out, List.map_map]; rfl
                    rw [this])
                  clear HTW
                  go_upto_region 31 with fail
                  clear hk hlt hkm
                  go_cut [24, 25] (fun x24 i25 wx => ∃ (g3 : Nat) (code : Int) (M : V) (M3 : Option Addr) (m3 : Nat) (M4 : Option Addr) (m4 : Nat) (C' : Cm), x24 = .pointer (some ⟨g3, 0, none⟩) ∧ i25 = .int .i64 code ∧ Hid ((code = 0 ∧ tw = false ∧ M = V.ofPairs (insAll l2)) ∨ (code = 23 ∧ tw = true ∧ M = V.zero)) ∧ Hid (wx.heap[g3]? = some (.cells #[.int .i64 M.kind, .int .i64 M.num, .string M.str, .slice M3 M.items.length m3, .slice M4 M.keys.length m4] 28 (0, 0))) ∧ Hid (Rd C' M.gv (M.cells M3 m3 M4 m4)) ∧ Hid (Ext w.heap.size C C') ∧ Hid (C'.le wx) ∧ Hid (Below w.heap.size w wx) ∧ Hid (wx.heap[g]? = some (.cells #[.int .i64 X.kind, .int .i64 X.num, .string X.str, .slice B3 X.items.length d3, .slice B4 X.keys.length d4] 28 (0, 0))))
                  case first =>
                    --[[
                    go_wp2_with fail
                    refine (HM.out _ HB.out).mono ?_
                    rintro e w6 (⟨ps, hps, hsd, C', M3, m3, M4, m4, rfl, hpu, hprd⟩ | ⟨hnd, rfl, hb6⟩)
                    · have hB6 : Below w.heap.size w w6 := HB.out.trans (hpu.below.mono HB.out.size)
                      have HB6 := Lib.hid hB6
                      have HX6 := Lib.hid ((hpu.below.block _ hgo).trans HX.out)
                      have hE6 : Ext w.heap.size C C' := hpu.ext.mono HB.out.size
                      have hnod : (l2.map Prod.fst).Nodup := by
                        have h1 : (ps.map Prod.fst).Nodup := by
                          rw [List.Nodup, List.pairwise_map]
                          refine hsd.imp fun {a b} h e => ?_
                          rw [e, ltB_irrefl] at h
                          cases h
                        exact (hps.map Prod.fst).nodup_iff.1 h1
                      have hpe : ps = insAll l2 := sorted_unique (hps.trans (insAll_perm l2).symm) hsd (insAll_sorted hnod)
                      have htw : tw = false := by
                        cases htw : tw with
                        | false => rfl
                        | true => exact absurd hnod (HTF.out.1 htw)
                      have HPE := Lib.hid hpe
                      have HTW := Lib.hid htw
                      have HPU := Lib.hid hpu
                      have HPR := Lib.hid hprd
                      have HE6 := Lib.hid hE6
                      clear hps hsd hnod hpe htw hpu hprd hE6 hB6
                      simp only [V.cells]
                      go_wp2_with fail
                      go_meet
                      case rel => exact ⟨w6.heap.size, 0, V.ofPairs ps, M3, m3, M4, m4, C', rfl, rfl, Lib.hid (.inl ⟨rfl, HTW.out, by rw [HPE.out]⟩), Lib.hid (heap_alloc_new _ _), HPR, HE6, Lib.hid (Cm.le_below HPU.out.le (by go_grown)), Lib.hid (HB6.out.alloc HB6.out.size _), Lib.hid ((Below.heap_alloc _ _ _ (Array.getElem?_eq_some_iff.1 HX6.out).1).trans HX6.out)⟩
                    · have HB6 : Hid (Below w.heap.size w w6) := Lib.hid (HB.out.trans (hb6.mono HB.out.size))
                      have HX6 := Lib.hid ((hb6.block _ hgo).trans HX.out)
                      have HTW : Hid (tw = true) := Lib.hid (HTF.out.2 hnd)
                      clear hnd hb6
                      unfold zeroVal
                      go_wp2_with fail
                      go_meet
                      case rel => exact ⟨w6.heap.size, 23, V.zero, none, 0, none, 0, C, rfl, rfl, Lib.hid (.inr ⟨rfl, HTW.out, rfl⟩), Lib.hid (heap_alloc_new _ _), Lib.hid (zero_rd C), Lib.hid (Ext.refl _ _), Lib.hid (Cm.le_below HC.out (HB6.out.alloc HB6.out.size _)), Lib.hid (HB6.out.alloc HB6.out.size _), Lib.hid ((Below.heap_alloc _ _ _ (Array.getElem?_eq_some_iff.1 HX6.out).1).trans HX6.out)⟩
                    --]]
                  case rest =>
                    obtain ⟨g3, code, M, M3, m3, M4, m4, C', rfl, rfl, HCS, HM3, HMR, HEX, HLE, HBM, HXM⟩ := hcut
                    clear HB HX HM HTF
                    go_upto_region 32 with fail
                    go_cut [151] (fun t wx => t = .bool false ∧ Hid (Below wc.heap.size wc wx))
                    case first =>
                      --[[
                      have p0 := boxCell HM3.out 0
                      have p1 := boxCell HM3.out 1
                      have p2 := boxCell HM3.out 2
                      have p3 := boxCell HM3.out 3
                      have p4 := boxCell HM3.out 4
                      simp only [List.getElem?_toArray, List.getElem?_cons_zero, List.getElem?_cons_succ] at p0 p1 p2 p3 p4
                      rcases HCS.out with ⟨hc0, htw, hMe⟩ | ⟨hc0, htw, hMe⟩
                      · subst hc0 htw
                        have HRC : Hid (∀ W, Below wc.heap.size wc W → Calls Tryd.prog 20 #[.slice A m c] W fun e w' => ∃ (C2 : Cm) (N3 : Option Addr) (n3 : Nat) (N4 : Option Addr) (n4 : Nat), e = .returned (.agg #[.int .i64 M.kind, .int .i64 M.num, .string M.str, .slice N3 M.items.length n3, .slice N4 M.keys.length n4]) ∧ Below wc.heap.size wc w' ∧ C2.le w' ∧ Rd C2 M.gv (M.cells M3 m3 M4 m4) ∧ Rd C2 M.gv (M.cells N3 n3 N4 n4)) := Lib.hid (fun W h => (HRM.out W C' (Cm.le_below HLE.out h) HEX.out).mono (by
                          rintro e w' ⟨C2, N3, n3, N4, n4, he, hp, hrd⟩
                          rw [← hMe] at he hrd
                          exact ⟨C2, N3, n3, N4, n4, he, h.trans (hp.below.mono h.size), hp.le, HMR.out.ext hp.ext, hrd⟩))
                        clear hMe HRM
                        go_wp2_with fail
                        refine wp_region_held_drew (S := fun w' => w'.cell? ⟨g3, 0, none⟩ = some (.int .i64 M.kind) ∧ w'.cell? ⟨g3, 1, none⟩ = some (.int .i64 M.num) ∧ w'.cell? ⟨g3, 2, none⟩ = some (.string M.str) ∧ w'.cell? ⟨g3, 3, none⟩ = some (.slice M3 M.items.length m3) ∧ w'.cell? ⟨g3, 4, none⟩ = some (.slice M4 M.keys.length m4)) (by kernel_rfl) ⟨p0, p1, p2, p3, p4⟩ (fun hHeld => ?_)
                        (refine takeH (i := 0) (d := 127) (v := ?v0) (oi := ?o0) ?i0 ?d0 ?a0 ?b0 ?c0 ?q0 ?w0 ?y0 hHeld ?h0; (case i0 => rfl); (case d0 => rfl); (case a0 => kernel_rfl); (case b0 => kernel_rfl); (case c0 => kernel_rfl); (case q0 => exact fun _ _ _ h => h); (case w0 => rfl))
                        case y0 => (intro w' hSw; (try dsimp only at hSw); go_simp; all_goals (with_reducible rfl))
                        (try simp only [Act.put]); (try simp only [List.setIfInBounds_toArray]); (try simp only [List.set_cons_succ]); (try simp only [List.set_cons_zero])
                        (refine takeH (i := 1) (d := 128) (v := ?v1) (oi := ?o1) ?i1 ?d1 ?a1 ?b1 ?c1 ?q1 ?w1 ?y1 hHeld ?h1; (case i1 => rfl); (case d1 => rfl); (case a1 => kernel_rfl); (case b1 => kernel_rfl); (case c1 => kernel_rfl); (case q1 => exact fun _ _ _ h => h); (case w1 => rfl))
                        case y1 => (intro w' hSw; (try dsimp only at hSw); go_simp; all_goals (with_reducible rfl))
                        (try simp only [Act.put]); (try simp only [List.setIfInBounds_toArray]); (try simp only [List.set_cons_succ]); (try simp only [List.set_cons_zero])
                        (refine takeH_un (i := 2) (d := 129) (oi := ?o2) ?i2 ?d2 ?a2 ?b2 ?c2 ?q2 ?w2 hHeld ?h2; (case i2 => rfl); (case d2 => rfl); (case a2 => kernel_rfl); (case b2 => kernel_rfl); (case c2 => kernel_rfl); (case q2 => exact fun _ _ _ h => h); (case w2 => rfl))
                        (try simp only [Act.put]); (try simp only [List.setIfInBounds_toArray]); (try simp only [List.set_cons_succ]); (try simp only [List.set_cons_zero])
                        (refine takeH_un (i := 3) (d := 130) (oi := ?o3) ?i3 ?d3 ?a3 ?b3 ?c3 ?q3 ?w3 hHeld ?h3; (case i3 => rfl); (case d3 => rfl); (case a3 => kernel_rfl); (case b3 => kernel_rfl); (case c3 => kernel_rfl); (case q3 => exact fun _ _ _ h => h); (case w3 => rfl))
                        (try simp only [Act.put]); (try simp only [List.setIfInBounds_toArray]); (try simp only [List.set_cons_succ]); (try simp only [List.set_cons_zero])
                        (refine takeH_un (i := 4) (d := 131) (oi := ?o4) ?i4 ?d4 ?a4 ?b4 ?c4 ?q4 ?w4 hHeld ?h4; (case i4 => rfl); (case d4 => rfl); (case a4 => kernel_rfl); (case b4 => kernel_rfl); (case c4 => kernel_rfl); (case q4 => exact fun _ _ _ h => h); (case w4 => rfl))
                        (try simp only [Act.put]); (try simp only [List.setIfInBounds_toArray]); (try simp only [List.set_cons_succ]); (try simp only [List.set_cons_zero])
                        (refine takeH_un (i := 5) (d := 132) (oi := ?o5) ?i5 ?d5 ?a5 ?b5 ?c5 ?q5 ?w5 hHeld ?h5; (case i5 => rfl); (case d5 => rfl); (case a5 => kernel_rfl); (case b5 => kernel_rfl); (case c5 => kernel_rfl); (case q5 => exact fun _ _ _ h => h); (case w5 => rfl))
                        (try simp only [Act.put]); (try simp only [List.setIfInBounds_toArray]); (try simp only [List.set_cons_succ]); (try simp only [List.set_cons_zero])
                        (refine takeH_un (i := 6) (d := 133) (oi := ?o6) ?i6 ?d6 ?a6 ?b6 ?c6 ?q6 ?w6 hHeld ?h6; (case i6 => rfl); (case d6 => rfl); (case a6 => kernel_rfl); (case b6 => kernel_rfl); (case c6 => kernel_rfl); (case q6 => exact fun _ _ _ h => h); (case w6 => rfl))
                        (try simp only [Act.put]); (try simp only [List.setIfInBounds_toArray]); (try simp only [List.set_cons_succ]); (try simp only [List.set_cons_zero])
                        (refine takeH_un (i := 7) (d := 134) (oi := ?o7) ?i7 ?d7 ?a7 ?b7 ?c7 ?q7 ?w7 hHeld ?h7; (case i7 => rfl); (case d7 => rfl); (case a7 => kernel_rfl); (case b7 => kernel_rfl); (case c7 => kernel_rfl); (case q7 => exact fun _ _ _ h => h); (case w7 => rfl))
                        (try simp only [Act.put]); (try simp only [List.setIfInBounds_toArray]); (try simp only [List.set_cons_succ]); (try simp only [List.set_cons_zero])
                        (refine takeH_un (i := 8) (d := 135) (oi := ?o8) ?i8 ?d8 ?a8 ?b8 ?c8 ?q8 ?w8 hHeld ?h8; (case i8 => rfl); (case d8 => rfl); (case a8 => kernel_rfl); (case b8 => kernel_rfl); (case c8 => kernel_rfl); (case q8 => exact fun _ _ _ h => h); (case w8 => rfl))
                        (try simp only [Act.put]); (try simp only [List.setIfInBounds_toArray]); (try simp only [List.set_cons_succ]); (try simp only [List.set_cons_zero])
                        (refine takeH (i := 9) (d := 136) (v := ?v9) (oi := ?o9) ?i9 ?d9 ?a9 ?b9 ?c9 ?q9 ?w9 ?y9 hHeld ?h9; (case i9 => rfl); (case d9 => rfl); (case a9 => kernel_rfl); (case b9 => kernel_rfl); (case c9 => kernel_rfl); (case q9 => exact fun _ _ _ h => h); (case w9 => rfl))
                        case y9 => (intro w' hSw; (try dsimp only at hSw); go_simp; all_goals (with_reducible rfl))
                        (try simp only [Act.put]); (try simp only [List.setIfInBounds_toArray]); (try simp only [List.set_cons_succ]); (try simp only [List.set_cons_zero])
                        (refine takeH (i := 10) (d := 137) (v := ?v10) (oi := ?o10) ?i10 ?d10 ?a10 ?b10 ?c10 ?q10 ?w10 ?y10 hHeld ?h10; (case i10 => rfl); (case d10 => rfl); (case a10 => kernel_rfl); (case b10 => kernel_rfl); (case c10 => kernel_rfl); (case q10 => exact fun _ _ _ h => h); (case w10 => rfl))
                        case y10 => (intro w' hSw; (try dsimp only at hSw); go_simp; all_goals (with_reducible rfl))
                        (try simp only [Act.put]); (try simp only [List.setIfInBounds_toArray]); (try simp only [List.set_cons_succ]); (try simp only [List.set_cons_zero])
                        (refine takeH (i := 11) (d := 138) (v := ?v11) (oi := ?o11) ?i11 ?d11 ?a11 ?b11 ?c11 ?q11 ?w11 ?y11 hHeld ?h11; (case i11 => rfl); (case d11 => rfl); (case a11 => kernel_rfl); (case b11 => kernel_rfl); (case c11 => kernel_rfl); (case q11 => exact fun _ _ _ h => h); (case w11 => rfl))
                        case y11 => (intro w' hSw; (try dsimp only at hSw); go_simp; all_goals (with_reducible rfl))
                        (try simp only [Act.put]); (try simp only [List.setIfInBounds_toArray]); (try simp only [List.set_cons_succ]); (try simp only [List.set_cons_zero])
                        (refine takeH (i := 12) (d := 139) (v := ?v12) (oi := ?o12) ?i12 ?d12 ?a12 ?b12 ?c12 ?q12 ?w12 ?y12 hHeld ?h12; (case i12 => rfl); (case d12 => rfl); (case a12 => kernel_rfl); (case b12 => kernel_rfl); (case c12 => kernel_rfl); (case q12 => exact fun _ _ _ h => h); (case w12 => rfl))
                        case y12 => (intro w' hSw; (try dsimp only at hSw); go_simp; all_goals (with_reducible rfl))
                        (try simp only [Act.put]); (try simp only [List.setIfInBounds_toArray]); (try simp only [List.set_cons_succ]); (try simp only [List.set_cons_zero])
                        (refine takeH (i := 13) (d := 140) (v := ?v13) (oi := ?o13) ?i13 ?d13 ?a13 ?b13 ?c13 ?q13 ?w13 ?y13 hHeld ?h13; (case i13 => rfl); (case d13 => rfl); (case a13 => kernel_rfl); (case b13 => kernel_rfl); (case c13 => kernel_rfl); (case q13 => exact fun _ _ _ h => h); (case w13 => rfl))
                        case y13 => (intro w' hSw; (try dsimp only at hSw); go_simp; all_goals (with_reducible rfl))
                        (try simp only [Act.put]); (try simp only [List.setIfInBounds_toArray]); (try simp only [List.set_cons_succ]); (try simp only [List.set_cons_zero])
                        (refine takeH (i := 14) (d := 141) (v := ?v14) (oi := ?o14) ?i14 ?d14 ?a14 ?b14 ?c14 ?q14 ?w14 ?y14 hHeld ?h14; (case i14 => rfl); (case d14 => rfl); (case a14 => kernel_rfl); (case b14 => kernel_rfl); (case c14 => kernel_rfl); (case q14 => exact fun _ _ _ h => h); (case w14 => rfl))
                        case y14 => (intro w' hSw; (try dsimp only at hSw); go_simp; all_goals (with_reducible rfl))
                        (try simp only [Act.put]); (try simp only [List.setIfInBounds_toArray]); (try simp only [List.set_cons_succ]); (try simp only [List.set_cons_zero])
                        (refine takeH (i := 15) (d := 142) (v := ?v15) (oi := ?o15) ?i15 ?d15 ?a15 ?b15 ?c15 ?q15 ?w15 ?y15 hHeld ?h15; (case i15 => rfl); (case d15 => rfl); (case a15 => kernel_rfl); (case b15 => kernel_rfl); (case c15 => kernel_rfl); (case q15 => exact fun _ _ _ h => h); (case w15 => rfl))
                        case y15 => (intro w' hSw; (try dsimp only at hSw); go_simp; all_goals (with_reducible rfl))
                        (try simp only [Act.put]); (try simp only [List.setIfInBounds_toArray]); (try simp only [List.set_cons_succ]); (try simp only [List.set_cons_zero])
                        (refine takeH (i := 16) (d := 143) (v := ?v16) (oi := ?o16) ?i16 ?d16 ?a16 ?b16 ?c16 ?q16 ?w16 ?y16 hHeld ?h16; (case i16 => rfl); (case d16 => rfl); (case a16 => kernel_rfl); (case b16 => kernel_rfl); (case c16 => kernel_rfl); (case q16 => exact fun _ _ _ h => h); (case w16 => rfl))
                        case y16 => (intro w' hSw; (try dsimp only at hSw); go_simp; all_goals (with_reducible rfl))
                        (try simp only [Act.put]); (try simp only [List.setIfInBounds_toArray]); (try simp only [List.set_cons_succ]); (try simp only [List.set_cons_zero])
                        (refine takeH (i := 17) (d := 144) (v := ?v17) (oi := ?o17) ?i17 ?d17 ?a17 ?b17 ?c17 ?q17 ?w17 ?y17 hHeld ?h17; (case i17 => rfl); (case d17 => rfl); (case a17 => kernel_rfl); (case b17 => kernel_rfl); (case c17 => kernel_rfl); (case q17 => exact fun _ _ _ h => h); (case w17 => rfl))
                        case y17 => (intro w' hSw; (try dsimp only at hSw); go_simp; all_goals (with_reducible rfl))
                        (try simp only [Act.put]); (try simp only [List.setIfInBounds_toArray]); (try simp only [List.set_cons_succ]); (try simp only [List.set_cons_zero])
                        (refine takeH (i := 18) (d := 145) (v := ?v18) (oi := ?o18) ?i18 ?d18 ?a18 ?b18 ?c18 ?q18 ?w18 ?y18 hHeld ?h18; (case i18 => rfl); (case d18 => rfl); (case a18 => kernel_rfl); (case b18 => kernel_rfl); (case c18 => kernel_rfl); (case q18 => exact fun _ _ _ h => h); (case w18 => rfl))
                        case y18 => (intro w' hSw; (try dsimp only at hSw); go_simp; all_goals (with_reducible rfl))
                        (try simp only [Act.put]); (try simp only [List.setIfInBounds_toArray]); (try simp only [List.set_cons_succ]); (try simp only [List.set_cons_zero])
                        refine wpAnyH_ready (rs := [19]) (by kernel_rfl) (by simp) ?_
                        (refine AllReadyH.cons (o := ?o19) ?i19 ?s19 AllReadyH.nil; (case i19 => rfl))
                        intro K hK
                        go_simp
                        (go_at_call 20; (with_reducible refine (HRC.out _ (below_pw' (Below.refl _ _))).mono ?_); rintro e w7 ⟨C2, N3, n3, N4, n4, rfl, hb7, hle7, hr7, hr8⟩)
                        (try go_wp2_with fail)
                        refine hK.out _ _ ?_ (fun hHeld => ?_)
                        · exact ⟨(hb7.cell (World.block_lt_of_cell? wc _ p0)).trans p0, (hb7.cell (World.block_lt_of_cell? wc _ p1)).trans p1, (hb7.cell (World.block_lt_of_cell? wc _ p2)).trans p2, (hb7.cell (World.block_lt_of_cell? wc _ p3)).trans p3, (hb7.cell (World.block_lt_of_cell? wc _ p4)).trans p4⟩
                        clear hK K
                        (try simp only [Act.put]); (try simp only [List.setIfInBounds_toArray]); (try simp only [List.set_cons_succ]); (try simp only [List.set_cons_zero])
                        refine wpAnyH_ready (rs := [20]) (by kernel_rfl) (by simp) ?_
                        (refine AllReadyH.cons (o := ?o20) ?i20 ?s20 AllReadyH.nil; (case i20 => rfl))
                        intro K hK
                        go_simp
                        (go_at_call 19; (refine (same_calls M.dep M M C2 _ M3 m3 M4 m4 N3 n3 N4 n4 (Nat.le_refl _) (Cm.le_below hle7 (Below.refl _ _)) hr7 hr8).mono ?_); rintro e w8 ⟨⟨b8, rfl, hb8⟩, hb9⟩; replace hb7 := hb7.trans (hb9.mono hb7.size))
                        obtain rfl := hb8.2 rfl
                        (try go_wp2_with fail)
                        refine hK.out _ _ ?_ (fun hHeld => ?_)
                        · exact ⟨(hb7.cell (World.block_lt_of_cell? wc _ p0)).trans p0, (hb7.cell (World.block_lt_of_cell? wc _ p1)).trans p1, (hb7.cell (World.block_lt_of_cell? wc _ p2)).trans p2, (hb7.cell (World.block_lt_of_cell? wc _ p3)).trans p3, (hb7.cell (World.block_lt_of_cell? wc _ p4)).trans p4⟩
                        clear hK K
                        (try simp only [Act.put]); (try simp only [List.setIfInBounds_toArray]); (try simp only [List.set_cons_succ]); (try simp only [List.set_cons_zero])
                        (refine takeH (i := 21) (d := 148) (v := ?v21) (oi := ?o21) ?i21 ?d21 ?a21 ?b21 ?c21 ?q21 ?w21 ?y21 hHeld ?h21; (case i21 => rfl); (case d21 => rfl); (case a21 => kernel_rfl); (case b21 => kernel_rfl); (case c21 => kernel_rfl); (case q21 => exact fun _ _ _ h => h); (case w21 => rfl))
                        case y21 => (intro w' hSw; (try dsimp only at hSw); go_simp; all_goals (with_reducible rfl))
                        (try simp only [Act.put]); (try simp only [List.setIfInBounds_toArray]); (try simp only [List.set_cons_succ]); (try simp only [List.set_cons_zero])
                        (refine takeH (i := 22) (d := 149) (v := ?v22) (oi := ?o22) ?i22 ?d22 ?a22 ?b22 ?c22 ?q22 ?w22 ?y22 hHeld ?h22; (case i22 => rfl); (case d22 => rfl); (case a22 => kernel_rfl); (case b22 => kernel_rfl); (case c22 => kernel_rfl); (case q22 => exact fun _ _ _ h => h); (case w22 => rfl))
                        case y22 => (intro w' hSw; (try dsimp only at hSw); go_simp; all_goals (with_reducible rfl))
                        (try simp only [Act.put]); (try simp only [List.setIfInBounds_toArray]); (try simp only [List.set_cons_succ]); (try simp only [List.set_cons_zero])
                        (refine takeH (i := 23) (d := 150) (v := ?v23) (oi := ?o23) ?i23 ?d23 ?a23 ?b23 ?c23 ?q23 ?w23 ?y23 hHeld ?h23; (case i23 => rfl); (case d23 => rfl); (case a23 => kernel_rfl); (case b23 => kernel_rfl); (case c23 => kernel_rfl); (case q23 => exact fun _ _ _ h => h); (case w23 => rfl))
                        case y23 => (intro w' hSw; (try dsimp only at hSw); go_simp; all_goals (with_reducible rfl))
                        (try simp only [Act.put]); (try simp only [List.setIfInBounds_toArray]); (try simp only [List.set_cons_succ]); (try simp only [List.set_cons_zero])
                        (refine takeH (i := 24) (d := 151) (v := ?v24) (oi := ?o24) ?i24 ?d24 ?a24 ?b24 ?c24 ?q24 ?w24 ?y24 hHeld ?h24; (case i24 => rfl); (case d24 => rfl); (case a24 => kernel_rfl); (case b24 => kernel_rfl); (case c24 => kernel_rfl); (case q24 => exact fun _ _ _ h => h); (case w24 => rfl))
                        case y24 => (intro w' hSw; (try dsimp only at hSw); go_simp; all_goals (with_reducible rfl))
                        (try simp only [Act.put]); (try simp only [List.setIfInBounds_toArray]); (try simp only [List.set_cons_succ]); (try simp only [List.set_cons_zero])
                        refine wpAnyH_done (by kernel_rfl) ?_ _
                        have HB7 := Lib.hid hb7
                        clear hb7 hb8 hb9 hr7 hr8 hle7
                        go_wp2_with fail
                        go_meet
                        case rel => exact ⟨rfl, HB7⟩
                      · subst hc0 htw
                        have hk0 : M.kind = 0 := by rw [hMe]; rfl
                        rw [hk0] at p0
                        clear hMe hk0 p1 p2 p3 p4 HRM HAL HCELL
                        go_wp2_with fail
                        go_quiet (fail)
                        go_wp2_with fail
                        go_meet
                        case rel => exact ⟨rfl, Lib.hid (below_pw (Below.refl _ _) _)⟩
                      --]]
                    case rest =>
                      obtain ⟨rfl, HBC⟩ := hcut
                      rename World => w0
                      have HBW : Hid (Below w.heap.size w w0) := Lib.hid (HBM.out.trans (HBC.out.mono HBM.out.size))
                      have HXW := Lib.hid ((HBC.out.block _ (Array.getElem?_eq_some_iff.1 HXM.out).1).trans HXM.out)
                      clear HBC HBM HXM HCS HM3 HMR HEX HLE HRM HAL HCELL HOK HD HL2
                      have hgw := (Array.getElem?_eq_some_iff.1 HXW.out).1
                      have HS1 := Lib.hid (fun W => sameT_calls s HS.out W)
                      have HS2 := Lib.hid (fun W => sameN_calls nn HNN.out W)
                      go_wp2_with fail
                      have p0 := boxCell HXW.out 0
                      have p1 := boxCell HXW.out 1
                      have p2 := boxCell HXW.out 2
                      have p3 := boxCell HXW.out 3
                      have p4 := boxCell HXW.out 4
                      simp only [List.getElem?_toArray, List.getElem?_cons_zero, List.getElem?_cons_succ] at p0 p1 p2 p3 p4
                      have hund : undef = Value.tuple #[] := rfl
                      first
                        | (go_region_held3 (fun w' => w'.cell? ⟨g, 0, none⟩ = some (.int .i64 X.kind) ∧ w'.cell? ⟨g, 1, none⟩ = some (.int .i64 X.num) ∧ w'.cell? ⟨g, 2, none⟩ = some (.string X.str) ∧ w'.cell? ⟨g, 3, none⟩ = some (.slice B3 X.items.length d3) ∧ w'.cell? ⟨g, 4, none⟩ = some (.slice B4 X.keys.length d4))
                            (first
                              | (go_keep; done)
                              | (refine ⟨?_, ?_, ?_, ?_, ?_⟩ <;> (refine (hb7.cell (World.block_lt_of_cell? w0 _ (by assumption))).trans (by assumption))))
                            (first
                              | (go_at_call 8; (with_reducible refine (vtext_calls _ _).mono ?_); rintro e w7 ⟨rfl, hb7⟩; replace hb7 := (below_pw' (Below.refl w0.heap.size w0)).trans (hb7.mono (Nat.le_refl _)))
                              | (go_at_call 19; (with_reducible refine (HS1.out _).mono ?_); rintro e w8 ⟨rfl, hb8⟩; replace hb7 := hb7.trans (hb8.mono hb7.size))
                              | (go_at_call 21; (with_reducible refine (number_calls _ _).mono ?_); rintro e w9 ⟨rfl, hb9⟩; replace hb7 := hb7.trans (hb9.mono hb7.size))
                              | (go_at_call 19; (with_reducible refine (HS2.out _).mono ?_); rintro e w10 ⟨rfl, hb10⟩; replace hb7 := hb7.trans (hb10.mono hb7.size))
                              | (go_at_call 16; (with_reducible refine (list_calls (World.alloc w10 _) _ _ _).mono ?_); rintro e w11 ⟨rfl, hb11⟩; (have hk7 : w11.heap[w10.heap.size]? = some (.cells #[.int .i64 X.kind, .int .i64 X.num, .string X.str, .slice B3 X.items.length d3, .slice B4 X.keys.length d4, .int .i64 X.kind, .int .i64 X.num, .string X.str, .slice B3 X.items.length d3, .slice B4 X.keys.length d4] 28 (0, 0)) := (hb11.block _ (by simp)).trans (heap_alloc_new w10 _)); replace hb7 := (hb7.alloc hb7.size _).trans (hb11.mono (by have := hb7.size; simp; omega)))
                              | (go_at_call 16; (with_reducible refine (list_calls (World.alloc (World.alloc w10 _) _) _ _ _).mono ?_); rintro e w11 ⟨rfl, hb11⟩; (have hk7 : w11.heap[w10.heap.size]? = some (.cells #[.int .i64 X.kind, .int .i64 X.num, .string X.str, .slice B3 X.items.length d3, .slice B4 X.keys.length d4, .int .i64 X.kind, .int .i64 X.num, .string X.str, .slice B3 X.items.length d3, .slice B4 X.keys.length d4] 28 (0, 0)) := (hb11.block _ (by simp; omega)).trans ((Below.heap_alloc _ _ _ (by simp)).trans (heap_alloc_new w10 _))); (have hk8 : w11.heap[w10.heap.size + 1]? = some (.cells #[.int .i64 X.kind, .int .i64 X.num, .string X.str, .slice B3 X.items.length d3, .slice B4 X.keys.length d4, .int .i64 X.kind, .int .i64 X.num, .string X.str, .slice B3 X.items.length d3, .slice B4 X.keys.length d4] 28 (0, 0)) := (hb11.block _ (by simp)).trans (heap_alloc_at (by simp) _)); replace hb7 := ((hb7.alloc hb7.size _).alloc (hb7.alloc hb7.size _).size _).trans (hb11.mono (by have := hb7.size; simp; omega)))
                              | (go_at_call 19; (with_reducible refine (sameL_calls X C (World.alloc w11 _) w10.heap.size w11.heap.size B3 d3 B4 d4 (Cm.le_below HC.out (HBW.out.trans ((hb7.alloc hb7.size _).mono HBW.out.size))) HRX.out ((Below.heap_alloc _ _ _ (Array.getElem?_eq_some_iff.1 hk7).1).trans hk7) (heap_alloc_new _ _)).mono ?_); rintro e w12 ⟨rfl, hb12⟩; replace hb7 := (hb7.alloc hb7.size _).trans (hb12.mono (by have := hb7.size; simp; omega)))
                              | (go_at_call 19; (with_reducible refine (sameL_calls X C w11 w10.heap.size (w10.heap.size + 1) B3 d3 B4 d4 (Cm.le_below HC.out (HBW.out.trans (hb7.mono HBW.out.size))) HRX.out hk7 hk8).mono ?_); rintro e w12 ⟨rfl, hb12⟩; replace hb7 := hb7.trans (hb12.mono hb7.size))
                              | (go_at_call 19; (with_reducible refine (sameL_calls X C w11 (w10.heap.size + 1) w10.heap.size B3 d3 B4 d4 (Cm.le_below HC.out (HBW.out.trans (hb7.mono HBW.out.size))) HRX.out hk8 hk7).mono ?_); rintro e w12 ⟨rfl, hb12⟩; replace hb7 := hb7.trans (hb12.mono hb7.size))))
                        | fail
                      all_goals
                        have hbz := HBW.out.trans (hb7.mono HBW.out.size)
                        clear hb7
                        go_wp2_with fail
                        go_ret
                        exact ⟨rfl, hbz⟩
end Go.Proofs.YtbkoajipljjonaaDoor
