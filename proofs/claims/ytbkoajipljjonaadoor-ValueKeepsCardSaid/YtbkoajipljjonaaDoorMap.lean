/- value.Map: values by keys, put in order; or that a key is there twice. -/
import Derived.Test.YtbkoajipljjonaaDoorSettle
import Derived.Deep.QuietTactic
import Derived.BigQuiet
import Derived.Deep.RegionHeld3
import Derived.Deep.AppendLies
import Derived.Deep.DeepCutAuto
import Derived.Laws.World
namespace Go.Proofs.YtbkoajipljjonaaDoor
open Go.RowKit Go.Shelf Go.Sort

theorem info28 : (Tryd.prog.info? 28).map (fun i => (i.zero.map Value.cells |>.map Array.size, i.size, i.bytes)) = some (some 5, 5, 80) := by kernel_rfl
theorem info9 : (Tryd.prog.info? 9).map (fun i => (i.zero.map Value.cells |>.map Array.size, i.size, i.bytes)) = some (some 1, 1, 16) := by kernel_rfl

theorem own_slice {w : World} {b e s n : Nat} {v : Value} {xs : List Value} (h : w.ownsRow b e s v n xs) : ∃ A c, v = .slice A n c := by
  rcases h.2 with ⟨rfl, rfl⟩ | ⟨g, cap, cur, rfl, _⟩
  · exact ⟨_, _, rfl⟩
  · exact ⟨_, _, rfl⟩
theorem own_store {W : World} {b e s n : Nat} {v : Value} {xs : List Value} (ho : W.ownsRow b e s v n xs) {p : Nat} (hp : p < b) (i : Nat) (u : Value) : (W.setCell ⟨p, i, none⟩ u).ownsRow b e s v n xs := by
  refine ⟨ho.1, ?_⟩
  rcases ho.2 with hn | ⟨g, cap, cur, rfl, hb, hgg, rest⟩
  · exact .inl hn
  · exact .inr ⟨g, cap, cur, rfl, hb, (Go.Deep.blk_setCell_other _ _ _ _ (by show g ≠ p; omega)).trans hgg, rest⟩
/-- No two keys beside each other are the same, up to k. -/
def NoTwo (d : List PC) (k : Nat) : Prop := ∀ j, 0 < j → j < k → (d.getD (j - 1) default).key.toList ≠ (d.getD j default).key.toList
theorem NoTwo.step {d : List PC} {k : Nat} {x : PC} (h : NoTwo d k) (hx : d[k]? = some x) (hb : false = (decide (0 < k) && ((d.getD (k - 1) default).key.toList == x.key.toList))) : NoTwo d (k + 1) := by
  intro j h0 h1
  by_cases hj : j = k
  · subst hj
    have hb' := hb.symm
    rw [decide_eq_true h0, Bool.true_and, beq_eq_false_iff_ne] at hb'
    rw [List.getD_eq_getElem?_getD (l := d) (i := j), hx, Option.getD_some]
    exact hb'
  · exact h j h0 (by omega)
theorem below_grownBy' {w w' : World} (h : Below w.heap.size w w') : w.grownBy w' none := ⟨h.os, h.tape, h.output, h.size, fun k hk _ => h.block k hk⟩
theorem pw_below {B : Nat} {w W : World} (h : Below B w W) (n : Nat) : Below B w (W.drewN n) := ⟨h.os, h.tape, h.output, h.size, h.block⟩
theorem holdsK_alloc {W : World} {blk : Nat} {d : Array PC} (h : HoldsK PC.enc 6 W blk 0 d) (hb : blk < W.heap.size) {o : Obj} : HoldsK PC.enc 6 (W.alloc o) blk 0 d := by
  rw [alloc_eq_grow]
  exact holdsK_grow PC.enc 6 W _ blk 0 d hb h
theorem rowCell {W : World} {blk : Nat} {d : List PC} (h : HoldsK PC.enc 6 W blk 0 d.toArray) (k : Nat) (hk : k < d.length) (c : Nat) (v : Value) (hc : (d[k]).enc[c]? = some v) : W.cell? ⟨blk, k * 6 + c, none⟩ = some v := by
  obtain ⟨hc1, hc2⟩ := List.getElem?_eq_some_iff.1 hc
  rw [PC.enc_length] at hc1
  have h1 := (h.cell (i := k) (c := c) (by simpa using hk) hc1).1
  rw [Nat.zero_add] at h1
  rw [h1, getElem!_pos d.toArray k (by simpa using hk)]
  rw [getElem!_pos _ c (by rw [PC.enc_length]; exact hc1)]
  simp only [List.getElem_toArray]
  rw [hc2]

set_option maxHeartbeats 4000000 in
set_option maxRecDepth 100000 in
theorem map_calls (C : Cm) (w : World) (A : Option Addr) (n c : Nat) (l : List (ByteArray × V)) (hn : l.length = n) (hC : C.le w) (hr : RdSl C A c 6 (pairsGv l)) (hlen : l.length ≤ 100000) :
    Calls Tryd.prog 17 #[.slice A n c] w fun e w' =>
      (∃ ps : List (ByteArray × V), ps.Perm l ∧ ps.Pairwise (fun a b => ltB a.1 b.1 = true) ∧ ∃ C' A3 c3 A4 c4, e = .returned (.tuple #[.agg ((V.ofPairs ps).cells A3 c3 A4 c4).toArray, .int .i64 0]) ∧ Pure C w w' C' ∧ Rd C' (V.ofPairs ps).gv ((V.ofPairs ps).cells A3 c3 A4 c4)) ∨
      (¬ (l.map Prod.fst).Nodup ∧ e = .returned (.tuple #[zeroVal, .int .i64 23]) ∧ Below w.heap.size w w') := by
  obtain ⟨i8, hi8, hz8⟩ : ∃ i, Tryd.prog.info? 28 = some i ∧ (i.zero.map Value.cells |>.map Array.size, i.size, i.bytes) = (some 5, 5, 80) := Option.map_eq_some_iff.1 info28
  simp only [Prod.mk.injEq, Option.map_eq_some_iff] at hz8
  obtain ⟨⟨_, ⟨z8, hz80, rfl⟩, hz8s⟩, hz81, hz82⟩ := hz8
  obtain ⟨i9, hi9, hz9⟩ : ∃ i, Tryd.prog.info? 9 = some i ∧ (i.zero.map Value.cells |>.map Array.size, i.size, i.bytes) = (some 1, 1, 16) := Option.map_eq_some_iff.1 info9
  simp only [Prod.mk.injEq, Option.map_eq_some_iff] at hz9
  obtain ⟨⟨_, ⟨z9, hz90, rfl⟩, hz9s⟩, hz91, hz92⟩ := hz9
  have HCl := Lib.hid (fun W (h : Below w.heap.size w W) => clonePairs_calls C W A n c l hn (Cm.le_below hC h) hr hlen)
  have HC := Lib.hid hC
  have HN := Lib.hid hn
  have hn1 : n ≤ 100000 := by omega
  clear hr hC hn hlen
  go_enter Tryd.func17, Tryd.ntmps17
  go_wp2_with fail
  refine (HCl.out _ ?_).mono ?_
  · go_grown
  rintro e w1 ⟨A', c', rfl, hb1, d, hd, hok, hblk⟩
  have HD := Lib.hid hd
  have HOK := Lib.hid hok
  have hb2 : Below w.heap.size w w1 := (by go_grown : Below w.heap.size w _).trans (hb1.mono (by simp))
  clear hd hok HCl
  by_cases hl0 : l = []
  · subst hl0
    have hn0 : n = 0 := HN.out.symm
    subst hn0
    clear hblk HD HOK
    have hS := fun W => AnyF.slices_SortFunc_none (P := Tryd.prog) (ρ := Tryd.sortPair_ren) { Tryd.sortPair with } A' c' (.func (.func 31) #[] #[]) W
    change ∀ W, Calls Tryd.prog 30 _ _ _ at hS
    have hres : w1.heap[w.heap.size]? = some (.cells #[.int .i64 0, .int .i64 0, .string ⟨#[]⟩, .slice none 0 0, .slice none 0 0] 28 (0, 0)) := by
      rw [hb1.block _ (by simp)]
      exact heap_alloc_new w _
    have hbl : w.heap.size < w1.heap.size := (Array.getElem?_eq_some_iff.1 hres).1
    clear hb1
    go_wp2_with fail
    refine (hS _).mono ?_
    rintro e w2 ⟨rfl, rfl⟩
    clear hS
    go_wp2_with fail
    have hM := hb2.alloc (Nat.le_of_lt hbl) (.cells #[.int .i64 4, .int .i64 0, .string ⟨#[]⟩, .slice none 0 0, .slice none 0 0] 28)
    have hres2 := (Below.heap_alloc w2 (.cells #[.int .i64 4, .int .i64 0, .string ⟨#[]⟩, .slice none 0 0, .slice none 0 0] 28) _ hbl).trans hres
    have hbox := heap_alloc_new w2 (.cells #[.int .i64 4, .int .i64 0, .string ⟨#[]⟩, .slice none 0 0, .slice none 0 0] 28)
    have HM := Lib.hid hM
    have HR := Lib.hid hres2
    have HB := Lib.hid hbox
    clear hM hres2 hbox hres hb2
    generalize w2.alloc (.cells #[.int .i64 4, .int .i64 0, .string ⟨#[]⟩, .slice none 0 0, .slice none 0 0] 28) = w3 at HM HR HB ⊢
    go_loopw [15] (fun i wr => i = .int .i64 0 ∧ wr = w3) (fun i _ => (0 : Nat))
    case atStart => exact ⟨rfl, rfl⟩
    case round =>
      obtain ⟨rfl, rfl⟩ := hrel
      have hr2 := HR.out
      have r0 := boxCell hr2 0
      have r1 := boxCell hr2 1
      have r2 := boxCell hr2 2
      have r3 := boxCell hr2 3
      have r4 := boxCell hr2 4
      have rf := boxFroz hr2
      have rf0 := rf 0
      have rf1 := rf 1
      have rf2 := rf 2
      have rf3 := rf 3
      have rf4 := rf 4
      have hr5 := HB.out
      have s0 := boxCell hr5 0
      have s1 := boxCell hr5 1
      have s2 := boxCell hr5 2
      have s3 := boxCell hr5 3
      have s4 := boxCell hr5 4
      simp only [List.getElem?_toArray, List.getElem?_cons_zero, List.getElem?_cons_succ] at r0 r1 r2 r3 r4 s0 s1 s2 s3 s4
      clear hr2 rf hr5
      have HBE := Lib.hid HM.out
      clear HM HR HB
      go_wp2_with fail
      (try simp only [Exit.inBlock, Exit.then]); refine bodyPost_ret (by simp [results, Tryd.results17, r0, r1, r2, r3, r4, go_sem]; try rfl) rfl ?_
      have hbel := ((((HBE.out.setCell (p := ⟨w.heap.size, 0, none⟩) (Nat.le_refl _) (.int .i64 4)).setCell (p := ⟨w.heap.size, 1, none⟩) (Nat.le_refl _) (.int .i64 0)).setCell (p := ⟨w.heap.size, 2, none⟩) (Nat.le_refl _) (.string ⟨#[]⟩)).setCell (p := ⟨w.heap.size, 3, none⟩) (Nat.le_refl _) (.slice none 0 0)).setCell (p := ⟨w.heap.size, 4, none⟩) (Nat.le_refl _) (.slice none 0 0)
      refine .inl ⟨[], List.Perm.nil, List.Pairwise.nil, C, none, 0, none, 0, ?_, Pure.of_below HC.out hbel, ?_⟩
      · simp [V.ofPairs, V.cells, V.kind, V.num, V.str, V.items, V.keys]
      · refine V.mk_rd _ ?_ ?_ ?_ ?_ ?_
        · simp [V.ofPairs, V.kind, okAt]
          decide
        · simp [V.ofPairs, V.num, okAt]
          decide
        · simp [V.ofPairs, V.str, okAt, ByteArray.size]
        · exact ⟨by simp [V.ofPairs, V.items], by simp [maxLen], .inl (by simp [V.ofPairs, V.items, V.gvs])⟩
        · exact ⟨by simp [V.ofPairs, V.keys], by simp [maxLen], .inl (by simp [V.ofPairs, V.keys, strsGv])⟩
  · obtain ⟨blk, rfl, hblk1, hblk2, hH⟩ := hblk hl0
    have hds : d.length = n := by have := HD.out; have h2 := HN.out; rw [← h2, ← this, List.length_map]
    have hsort := sortPairs_calls blk c' d.toArray w1 hH hblk2 (by simp; omega)
    rw [List.size_toArray, hds] at hsort
    have HS := Lib.hid hsort
    clear hsort hH hblk
    have hres : w1.heap[w.heap.size]? = some (.cells #[.int .i64 0, .int .i64 0, .string ⟨#[]⟩, .slice none 0 0, .slice none 0 0] 28 (0, 0)) := by
      rw [hb1.block _ (by simp)]
      exact heap_alloc_new w _
    have hbl : w.heap.size < w1.heap.size := (Array.getElem?_eq_some_iff.1 hres).1
    have hbne : w.heap.size ≠ blk := by simp at hblk1; omega
    clear hb1
    go_wp2_with fail
    refine HS.out.mono ?_
    rintro e w2 ⟨rfl, da, hds2, hperm, hso, hH2, hgr⟩
    have hb3 : Below w.heap.size w w2 := hb2.grown hgr (by omega) (fun k hk => by simp at hk; simp at hblk1; omega)
    have hres2 := (hgr.block _ hbl (by simpa using hbne)).trans hres
    have hbl2 : w.heap.size < w2.heap.size := (Array.getElem?_eq_some_iff.1 hres2).1
    have hblk3 : blk < w2.heap.size := by have := hgr.size; omega
    obtain ⟨d2, rfl⟩ : ∃ d2 : List PC, d2.toArray = da := ⟨da.toList, by simp⟩
    simp only [List.size_toArray] at hds2 hso hperm
    have hd2 : d2.length = n := by omega
    have HP := Lib.hid hperm
    have HSO := Lib.hid hso
    clear hperm hso hds2 hres hbl hgr hb2 HS hds
    go_wp2_with fail
    have hst : Mid (w2.heap.size + 1) blk w2.heap.size w.heap.size d2 w (.slice none 0 0) (.slice none 0 0) (.slice none 0 0) 0 (.slice none 0 0) 0 (w2.alloc (.cells #[.int .i64 4, .int .i64 0, .string ⟨#[]⟩, .slice none 0 0, .slice none 0 0] 28)) := by
      refine ⟨hb3.alloc (by omega) _, World.ownsRow_nil _ _ _ _, World.ownsRow_nil _ _ _ _, heap_alloc_new w2 _, ?_, fun _ => holdsK_alloc hH2 hblk3, by simp⟩
      rw [Below.heap_alloc _ _ _ hbl2]
      exact hres2
    have HST := Lib.hid hst
    have hsz2 : blk < w2.heap.size := hblk3
    clear hst hH2 hres2 hb3
    go_loopw [15] (fun i wr => ∃ (k : Nat) (vi vk : Value), k ≤ n ∧ i = .int .i64 k ∧ Hid (NoTwo d2 k ∧ Mid (w2.heap.size + 1) blk w2.heap.size w.heap.size d2 w vi vk vi k vk k wr)) (fun i _ => n - (intOf i).toNat)
    case atStart => exact ⟨0, _, _, Nat.zero_le _, rfl, Lib.hid ⟨fun j h1 h2 => by omega, HST.out⟩⟩
    case round =>
      clear HST
      obtain ⟨k, vi, vk, hk, rfl, HM⟩ := hrel
      have hwz : w2.heap.size + 1 ≤ wr.heap.size := HM.out.2.sz
      by_cases hlt : k < n
      · have hkd : k < d2.length := by omega
        have hne2 : d2 ≠ [] := by intro e; rw [e] at hkd; simp at hkd
        have hrow := HM.out.2.row hne2
        obtain ⟨x, hx⟩ : ∃ x, x = d2[k] := ⟨_, rfl⟩
        have e0 := rowCell hrow k hkd 0 (.string x.key) (by rw [hx]; rfl)
        have e1 := rowCell hrow k hkd 1 (.int .i64 x.v.kind) (by rw [hx]; rfl)
        have e2 := rowCell hrow k hkd 2 (.int .i64 x.v.num) (by rw [hx]; rfl)
        have e3 := rowCell hrow k hkd 3 (.string x.v.str) (by rw [hx]; rfl)
        have e4 := rowCell hrow k hkd 4 (.slice x.a3 x.v.items.length x.c3) (by rw [hx]; rfl)
        have e5 := rowCell hrow k hkd 5 (.slice x.a4 x.v.keys.length x.c4) (by rw [hx]; rfl)
        rw [Nat.add_zero] at e0
        have hblkr : blk < wr.heap.size := World.block_lt_of_cell? wr _ e0
        have HROW := Lib.hid hrow
        have HX := Lib.hid hx
        clear hx hrow
        go_wp2_with fail
        have hwa : Below w2.heap.size wr (wr.alloc (.cells #[.string x.key, .int .i64 x.v.kind, .int .i64 x.v.num, .string x.v.str, .slice x.a3 x.v.items.length x.c3, .slice x.a4 x.v.keys.length x.c4] 38)) := (Below.refl _ _).alloc (by omega) _
        have HWA := Lib.hid hwa
        clear hwa
        go_cut [32] (fun v32 wc => ∃ (b : Bool) (nq : Nat), v32 = .bool b ∧ Hid (b = (decide (0 < k) && (d2.getD (k - 1) default).key.toList == x.key.toList)) ∧ wc = (wr.alloc (.cells #[.string x.key, .int .i64 x.v.kind, .int .i64 x.v.num, .string x.v.str, .slice x.a3 x.v.items.length x.c3, .slice x.a4 x.v.keys.length x.c4] 38)).drewN nq)
        case first =>
          by_cases hk0 : 0 < k
          · obtain ⟨y, hy⟩ : ∃ y, y = d2[k - 1] := ⟨_, rfl⟩
            have f0 := rowCell HROW.out (k - 1) (by omega) 0 (.string y.key) (by rw [hy]; rfl)
            rw [Nat.add_zero] at f0
            have HY : Hid ((d2.getD (k - 1) default).key = y.key) := Lib.hid (by rw [hy, List.getD_eq_getElem?_getD, List.getElem?_eq_getElem (by omega), Option.getD_some])
            clear hy
            have hd0 : decide ((0 : Int) < k) = true := by simp; omega
            have HK0 := Lib.hid hk0
            cases heq : y.key.toList == x.key.toList
            · have HQ := Lib.hid heq
              go_quiet (fail)
              go_wp2_with fail
              go_meet
              case rel => exact ⟨_, nq, rfl, Lib.hid (by rw [HY.out, decide_eq_true HK0.out, HQ.out]; rfl), rfl⟩
            · have HQ := Lib.hid heq
              go_quiet (fail)
              go_wp2_with fail
              go_meet
              case rel => exact ⟨_, nq, rfl, Lib.hid (by rw [HY.out, decide_eq_true HK0.out, HQ.out]; rfl), rfl⟩
          · have hd0 : decide ((0 : Int) < k) = false := by simp; omega
            have HK0 := Lib.hid hk0
            go_quiet (fail)
            go_wp2_with fail
            go_meet
            case rel => exact ⟨_, nq, rfl, Lib.hid (by rw [decide_eq_false HK0.out]; rfl), rfl⟩
        case rest =>
          obtain ⟨b, nq, rfl, HB, rfl⟩ := hcut
          cases b
          · have hpb : ((wr.alloc (.cells #[.string x.key, .int .i64 x.v.kind, .int .i64 x.v.num, .string x.v.str, .slice x.a3 x.v.items.length x.c3, .slice x.a4 x.v.keys.length x.c4] 38)).drewN nq).heap[wr.heap.size]? = some (.cells #[.string x.key, .int .i64 x.v.kind, .int .i64 x.v.num, .string x.v.str, .slice x.a3 x.v.items.length x.c3, .slice x.a4 x.v.keys.length x.c4] 38 (0, 0)) := heap_alloc_new wr _
            have HM2 := Lib.hid ((HM.out.2.alloc (by omega) (by omega) (by omega) (by omega) (.cells #[.string x.key, .int .i64 x.v.kind, .int .i64 x.v.num, .string x.v.str, .slice x.a3 x.v.items.length x.c3, .slice x.a4 x.v.keys.length x.c4] 38)).pw nq)
            have HNT := Lib.hid HM.out.1
            have HXk : Hid (d2[k]? = some x) := Lib.hid (by rw [HX.out]; exact List.getElem?_eq_getElem hkd)
            clear e0 e1 e2 e3 e4 e5 HM HWA HROW
            have hwsz : wr.heap.size < ((wr.alloc (.cells #[.string x.key, .int .i64 x.v.kind, .int .i64 x.v.num, .string x.v.str, .slice x.a3 x.v.items.length x.c3, .slice x.a4 x.v.keys.length x.c4] 38)).drewN nq).heap.size := by simp
            generalize (wr.alloc (.cells #[.string x.key, .int .i64 x.v.kind, .int .i64 x.v.num, .string x.v.str, .slice x.a3 x.v.items.length x.c3, .slice x.a4 x.v.keys.length x.c4] 38)).drewN nq = wa at hpb HM2 hwsz ⊢
            have p0 := cell_of_row _ _ 0 _ _ _ hpb
            have p1 := cell_of_row _ _ 1 _ _ _ hpb
            have p2 := cell_of_row _ _ 2 _ _ _ hpb
            have p3 := cell_of_row _ _ 3 _ _ _ hpb
            have p4 := cell_of_row _ _ 4 _ _ _ hpb
            have p5 := cell_of_row _ _ 5 _ _ _ hpb
            simp only [List.getElem?_toArray, List.getElem?_cons_zero, List.getElem?_cons_succ] at p0 p1 p2 p3 p4 p5
            have hvb := HM2.out.box
            have q3 := cell_of_row _ _ 3 _ _ _ hvb
            have q4 := cell_of_row _ _ 4 _ _ _ hvb
            have z3 : wa.frozen? ⟨w2.heap.size, 3, none⟩ = false := by simp [World.frozen?, hvb]
            have z4 : wa.frozen? ⟨w2.heap.size, 4, none⟩ = false := by simp [World.frozen?, hvb]
            simp only [List.getElem?_toArray, List.getElem?_cons_zero, List.getElem?_cons_succ] at q3 q4
            have HVB := Lib.hid hvb
            have HPB := Lib.hid hpb
            have hb5a : w2.heap.size < wa.heap.size := by omega
            clear hvb hpb
            go_wp2_with fail
            have hS0 : (fun w' : World => w'.heap[w2.heap.size]? = some (.cells #[.int .i64 4, .int .i64 0, .string ⟨#[]⟩, vi, vk] 28 (0, 0)) ∧ w'.heap[wr.heap.size]? = some (.cells #[.string x.key, .int .i64 x.v.kind, .int .i64 x.v.num, .string x.v.str, .slice x.a3 x.v.items.length x.c3, .slice x.a4 x.v.keys.length x.c4] 38 (0, 0))) wa.drew := ⟨HVB.out, HPB.out⟩
            refine region_till (s := 13) (S := fun w' : World => w'.heap[w2.heap.size]? = some (.cells #[.int .i64 4, .int .i64 0, .string ⟨#[]⟩, vi, vk] 28 (0, 0)) ∧ w'.heap[wr.heap.size]? = some (.cells #[.string x.key, .int .i64 x.v.kind, .int .i64 x.v.num, .string x.v.str, .slice x.a3 x.v.items.length x.c3, .slice x.a4 x.v.keys.length x.c4] 38 (0, 0))) (by kernel_rfl) ?_
            (refine AnyTill.take [] (i := 0) (v := ?v0) (oi := ?o0) ?i0 ?k0 ?q0 ?y0 hS0 ?h0; (case i0 => rfl); (case k0 => kernel_rfl); (case q0 => exact fun _ _ _ h => h))
            case y0 => exact Or.inl ⟨by rfl, by (intro w' _; go_simp; all_goals (with_reducible rfl))⟩
            (try simp only [Act.put]); (try simp only [List.setIfInBounds_toArray]); (try simp only [List.set_cons_succ]); (try simp only [List.set_cons_zero])
            (refine AnyTill.take [] (i := 1) (v := ?v1) (oi := ?o1) ?i1 ?k1 ?q1 ?y1 hS0 ?h1; (case i1 => rfl); (case k1 => kernel_rfl); (case q1 => exact fun _ _ _ h => h))
            case y1 => exact Or.inl ⟨by rfl, by (intro w' hSw; have s1 := cell_of_row _ _ 4 _ _ _ hSw.1; simp only [List.getElem?_toArray, List.getElem?_cons_zero, List.getElem?_cons_succ] at s1; go_simp; all_goals (with_reducible rfl))⟩
            (try simp only [Act.put]); (try simp only [List.setIfInBounds_toArray]); (try simp only [List.set_cons_succ]); (try simp only [List.set_cons_zero])
            (refine AnyTill.take [] (i := 2) (v := ?v2) (oi := ?o2) ?i2 ?k2 ?q2 ?y2 hS0 ?h2; (case i2 => rfl); (case k2 => kernel_rfl); (case q2 => exact fun _ _ _ h => h))
            case y2 => exact Or.inl ⟨by rfl, by (intro w' _; go_simp; all_goals (with_reducible rfl))⟩
            (try simp only [Act.put]); (try simp only [List.setIfInBounds_toArray]); (try simp only [List.set_cons_succ]); (try simp only [List.set_cons_zero])
            (refine AnyTill.take [] (i := 3) (v := ?v3) (oi := ?o3) ?i3 ?k3 ?q3 ?y3 hS0 ?h3; (case i3 => rfl); (case k3 => kernel_rfl); (case q3 => exact fun _ _ _ h => h))
            case y3 => exact Or.inl ⟨by rfl, by (intro w' hSw; have s1 := cell_of_row _ _ 0 _ _ _ hSw.2; simp only [List.getElem?_toArray, List.getElem?_cons_zero] at s1; go_simp; all_goals (with_reducible rfl))⟩
            (try simp only [Act.put]); (try simp only [List.setIfInBounds_toArray]); (try simp only [List.set_cons_succ]); (try simp only [List.set_cons_zero])
            (refine AnyTill.take [] (i := 6) (v := ?v6) (oi := ?o6) ?i6 ?k6 ?q6 ?y6 hS0 ?h6; (case i6 => rfl); (case k6 => kernel_rfl); (case q6 => exact fun _ _ _ h => h))
            case y6 => exact Or.inl ⟨by rfl, by (intro w' _; go_simp; all_goals (with_reducible rfl))⟩
            (try simp only [Act.put]); (try simp only [List.setIfInBounds_toArray]); (try simp only [List.set_cons_succ]); (try simp only [List.set_cons_zero])
            (refine AnyTill.take [] (i := 7) (v := ?v7) (oi := ?o7) ?i7 ?k7 ?q7 ?y7 hS0 ?h7; (case i7 => rfl); (case k7 => kernel_rfl); (case q7 => exact fun _ _ _ h => h))
            case y7 => exact Or.inl ⟨by rfl, by (intro w' hSw; have s1 := cell_of_row _ _ 3 _ _ _ hSw.1; simp only [List.getElem?_toArray, List.getElem?_cons_zero, List.getElem?_cons_succ] at s1; go_simp; all_goals (with_reducible rfl))⟩
            (try simp only [Act.put]); (try simp only [List.setIfInBounds_toArray]); (try simp only [List.set_cons_succ]); (try simp only [List.set_cons_zero])
            (refine AnyTill.take [11, 10, 9] (i := 8) (v := ?v8) (oi := ?o8) ?i8 ?k8 ?q8 ?y8 hS0 ?h8; (case i8 => rfl); (case k8 => kernel_rfl); (case q8 => exact fun _ _ _ h => h))
            case y8 => exact Or.inl ⟨by rfl, by (intro w' _; go_simp; all_goals (with_reducible rfl))⟩
            (try simp only [Act.put]); (try simp only [List.setIfInBounds_toArray]); (try simp only [List.set_cons_succ]); (try simp only [List.set_cons_zero])
            (refine AnyTill.take [11, 10] (i := 9) (v := ?v9) (oi := ?o9) ?i9 ?k9 ?q9 ?y9 hS0 ?h9; (case i9 => rfl); (case k9 => kernel_rfl); (case q9 => exact fun _ _ _ h => h))
            case y9 => exact Or.inl ⟨by rfl, by (intro w' hSw; have s1 := cell_of_row _ _ 1 _ _ _ hSw.2; have s2 := cell_of_row _ _ 2 _ _ _ hSw.2; have s3 := cell_of_row _ _ 3 _ _ _ hSw.2; have s4 := cell_of_row _ _ 4 _ _ _ hSw.2; have s5 := cell_of_row _ _ 5 _ _ _ hSw.2; simp only [List.getElem?_toArray, List.getElem?_cons_zero, List.getElem?_cons_succ] at s1 s2 s3 s4 s5; go_simp; all_goals (with_reducible rfl))⟩
            (try simp only [Act.put]); (try simp only [List.setIfInBounds_toArray]); (try simp only [List.set_cons_succ]); (try simp only [List.set_cons_zero])
            clear p0 p1 p2 p3 p4 p5 q3 q4 z3 z4
            have hh5 : w2.heap.size < w2.heap.size + 1 := by omega
            have hh2 : w.heap.size < w2.heap.size + 1 := by omega
            have hhb : blk < w2.heap.size + 1 := by omega
            have hh0 : w.heap.size ≤ w2.heap.size + 1 := by omega
            have hh25 : w.heap.size ≠ w2.heap.size := by omega
            have hhb5 : blk ≠ w2.heap.size := by omega
            have hh05 : w.heap.size ≤ w2.heap.size := by omega
            have M0 := Lib.hid HM2.out.drew
            have S0 := Lib.hid hS0
            clear HM2 hS0 HVB HPB
            generalize wa.drew = x0 at M0 S0 ⊢
            dsimp only at S0
            refine AnyTill.ready (rs := [4, 10]) (by kernel_rfl) (by simp) ?_
            refine NextTill.cons (by rfl) (by rfl) (fun K hK => ?_) ?_
            ·
              go_simp
              have M1 := Lib.hid (M0.out.alloc hh5 hh2 hhb hh0 (.cells #[.string x.key] 9))
              have S1 := Lib.hid (And.intro ((Below.heap_alloc _ (.cells #[.string x.key] 9) _ (Array.getElem?_eq_some_iff.1 S0.out.1).1).trans S0.out.1) ((Below.heap_alloc _ (.cells #[.string x.key] 9) _ (Array.getElem?_eq_some_iff.1 S0.out.2).1).trans S0.out.2))
              have N1 := Lib.hid (heap_alloc_new x0 (.cells #[.string x.key] 9))
              refine hK.out _ _ (fun _ => S1.out) ?_
              clear hK K
              (try simp only [Act.put]); (try simp only [List.setIfInBounds_toArray]); (try simp only [List.set_cons_succ]); (try simp only [List.set_cons_zero])
              have HE1 : ∃ w', w' = x0.alloc (.cells #[.string x.key] 9) := ⟨_, rfl⟩
              obtain ⟨x1, he1⟩ := HE1
              rw [← he1] at M1 S1 N1  ⊢
              clear he1
              refine AnyTill.ready (rs := [5, 10]) (by kernel_rfl) (by simp) ?_
              refine NextTill.cons (by rfl) (by rfl) (fun K hK => ?_) ?_
              ·
                refine wp_append_lies _ _ _ _ (by rfl) (w2.heap.size + 1) 9 i9 _ 1 16 Tryd.underlying22 hi9 hz90 hz91 hz92 hz9s (by omega) vk k (kyCells (d2.take k)) (by rfl) M1.out.ky ⟨_, 0, none⟩ 1 1 [.string x.key] (by rfl) (by rfl) (World.news_of_block (cs := #[.string x.key]) (t := 9) (fr := (0, 0)) N1.out) (by simp [Value.oneCell']) (by omega) (by unfold maxLen; omega) (by omega) M1.out.sz _ rfl ?_
                intro g2 c2 x2 ho2 hg2 _ _
                have M2 := Lib.hid (M1.out.appK hh5 hh2 hhb hh0 HXk.out ho2 hg2)
                have T2 := Lib.hid (Stp.app M1.out.ky hg2)
                have S2 := Lib.hid (And.intro ((T2.out.low _ hh5 (Array.getElem?_eq_some_iff.1 S1.out.1).1).trans S1.out.1) (T2.out.typ _ _ _ _ S1.out.2 (by decide)))
                clear ho2 hg2 T2
                refine hK.out _ _ (fun _ => S2.out) ?_
                clear hK K
                (try simp only [Act.put]); (try simp only [List.setIfInBounds_toArray]); (try simp only [List.set_cons_succ]); (try simp only [List.set_cons_zero])
                (refine AnyTill.takeW (i := 12) (v := ?v12w1) (oi := ?o12w1) ?i12w1 ?k12w1 ?q12w1 ?y12w1 (fun _ => S2.out) ?h12w1; (case i12w1 => rfl); (case k12w1 => kernel_rfl); (case q12w1 => exact fun _ _ _ h => h))
                case y12w1 => exact Or.inl ⟨by rfl, by (intro w' _; go_simp; all_goals (with_reducible rfl))⟩
                (try simp only [Act.put]); (try simp only [List.setIfInBounds_toArray]); (try simp only [List.set_cons_succ]); (try simp only [List.set_cons_zero])
                refine AnyTill.ready (rs := [10]) (by kernel_rfl) (by simp) ?_
                refine NextTill.cons (by rfl) (by rfl) (fun K hK => ?_) ?_
                ·
                  go_simp
                  have M3 := Lib.hid (M2.out.alloc hh5 hh2 hhb hh0 (.cells #[.int .i64 x.v.kind, .int .i64 x.v.num, .string x.v.str, .slice x.a3 x.v.items.length x.c3, .slice x.a4 x.v.keys.length x.c4] 28))
                  have S3 := Lib.hid (And.intro ((Below.heap_alloc _ (.cells #[.int .i64 x.v.kind, .int .i64 x.v.num, .string x.v.str, .slice x.a3 x.v.items.length x.c3, .slice x.a4 x.v.keys.length x.c4] 28) _ (Array.getElem?_eq_some_iff.1 S2.out.1).1).trans S2.out.1) ((Below.heap_alloc _ (.cells #[.int .i64 x.v.kind, .int .i64 x.v.num, .string x.v.str, .slice x.a3 x.v.items.length x.c3, .slice x.a4 x.v.keys.length x.c4] 28) _ (Array.getElem?_eq_some_iff.1 S2.out.2).1).trans S2.out.2))
                  have N3 := Lib.hid (heap_alloc_new x2 (.cells #[.int .i64 x.v.kind, .int .i64 x.v.num, .string x.v.str, .slice x.a3 x.v.items.length x.c3, .slice x.a4 x.v.keys.length x.c4] 28))
                  refine hK.out _ _ (fun _ => S3.out) ?_
                  clear hK K
                  (try simp only [Act.put]); (try simp only [List.setIfInBounds_toArray]); (try simp only [List.set_cons_succ]); (try simp only [List.set_cons_zero])
                  have HE3 : ∃ w', w' = x2.alloc (.cells #[.int .i64 x.v.kind, .int .i64 x.v.num, .string x.v.str, .slice x.a3 x.v.items.length x.c3, .slice x.a4 x.v.keys.length x.c4] 28) := ⟨_, rfl⟩
                  obtain ⟨x3, he3⟩ := HE3
                  rw [← he3] at M3 S3  N3 ⊢
                  clear he3
                  refine AnyTill.ready (rs := [11]) (by kernel_rfl) (by simp) ?_
                  refine NextTill.cons (by rfl) (by rfl) (fun K hK => ?_) ?_
                  ·
                    refine wp_append_lies _ _ _ _ (by rfl) (w2.heap.size + 1) 28 i8 _ 5 80 Tryd.underlying26 hi8 hz80 hz81 hz82 hz8s (by omega) vi k (itCells (d2.take k)) (by rfl) M3.out.it ⟨_, 0, none⟩ 1 1 [.int .i64 x.v.kind, .int .i64 x.v.num, .string x.v.str, .slice x.a3 x.v.items.length x.c3, .slice x.a4 x.v.keys.length x.c4] (by rfl) (by rfl) (World.news_of_block (cs := #[.int .i64 x.v.kind, .int .i64 x.v.num, .string x.v.str, .slice x.a3 x.v.items.length x.c3, .slice x.a4 x.v.keys.length x.c4]) (t := 28) (fr := (0, 0)) N3.out) (by simp [Value.oneCell']) (by omega) (by unfold maxLen; omega) (by omega) M3.out.sz _ rfl ?_
                    intro g4 c4 x4 ho4 hg4 _ _
                    have M4 := Lib.hid (M3.out.appI hh5 hh2 hhb hh0 HXk.out ho4 hg4)
                    have T4 := Lib.hid (Stp.app M3.out.it hg4)
                    have S4 := Lib.hid (And.intro ((T4.out.low _ hh5 (Array.getElem?_eq_some_iff.1 S3.out.1).1).trans S3.out.1) (T4.out.typ _ _ _ _ S3.out.2 (by decide)))
                    clear ho4 hg4 T4
                    refine hK.out _ _ (fun _ => S4.out) ?_
                    clear hK K
                    (try simp only [Act.put]); (try simp only [List.setIfInBounds_toArray]); (try simp only [List.set_cons_succ]); (try simp only [List.set_cons_zero])
                    refine AnyTill.ready (rs := [13]) (by kernel_rfl) (by simp) ?_
                    refine NextTill.cons (by rfl) (by rfl) (fun K hK => ?_) ?_
                    ·
                      have b13 := M4.out.box
                      have c13 := boxCell b13 4
                      have f13 := boxFroz b13 4
                      simp only [List.getElem?_toArray, List.getElem?_cons_zero, List.getElem?_cons_succ] at c13
                      clear b13
                      go_simp
                      have M13 := Lib.hid (M4.out.store (i := 4) hh5 hh25 hhb5 hh05 (.slice (some ⟨g2, 0, none⟩) (k + 1) c2) vi (.slice (some ⟨g2, 0, none⟩) (k + 1) c2) rfl)
                      clear c13 f13
                      refine hK.out _ _ (fun h => nomatch h) ?_
                      clear hK K
                      (try simp only [Act.put]); (try simp only [List.setIfInBounds_toArray]); (try simp only [List.set_cons_succ]); (try simp only [List.set_cons_zero])
                      generalize x4.setCell ⟨w2.heap.size, 4, none⟩ (.slice (some ⟨g2, 0, none⟩) (k + 1) c2) = x13 at M13 ⊢
                      refine AnyTill.ready (rs := [14]) (by kernel_rfl) (by simp) ?_
                      refine NextTill.cons (by rfl) (by rfl) (fun K hK => ?_) NextTill.nil
                      go_simp
                      refine hK.out _ _ (fun h => nomatch h) ?_
                      clear hK K
                      (try simp only [Act.put]); (try simp only [List.setIfInBounds_toArray]); (try simp only [List.set_cons_succ]); (try simp only [List.set_cons_zero])
                      refine AnyTill.ready (rs := [15]) (by kernel_rfl) (by simp) ?_
                      refine NextTill.cons (by rfl) (by rfl) (fun K hK => ?_) NextTill.nil
                      have b15 := M13.out.box
                      have c15 := boxCell b15 3
                      have f15 := boxFroz b15 3
                      simp only [List.getElem?_toArray, List.getElem?_cons_zero, List.getElem?_cons_succ] at c15
                      clear b15
                      go_simp
                      have M15 := Lib.hid (M13.out.store (i := 3) hh5 hh25 hhb5 hh05 (.slice (some ⟨g4, 0, none⟩) (k + 1) c4) (.slice (some ⟨g4, 0, none⟩) (k + 1) c4) (.slice (some ⟨g2, 0, none⟩) (k + 1) c2) rfl)
                      clear c15 f15 M13
                      refine hK.out _ _ (fun h => nomatch h) ?_
                      clear hK K
                      (try simp only [Act.put]); (try simp only [List.setIfInBounds_toArray]); (try simp only [List.set_cons_succ]); (try simp only [List.set_cons_zero])
                      generalize x13.setCell ⟨w2.heap.size, 3, none⟩ (.slice (some ⟨g4, 0, none⟩) (k + 1) c4) = x15 at M15 ⊢
                      clear M4 S4
                      refine AnyTill.done (by kernel_rfl) ?_ _
                      go_wp2_with fail
                      go_roundw
                      case rel => exact ⟨k + 1, _, _, hlt, by (first | rfl | (simp only [Value.int.injEq, true_and]; omega)), Lib.hid ⟨HNT.out.step HXk.out HB.out, M15.out⟩⟩
                      case measure => simp [intOf]; omega
                    exact NextTill.nil
                  exact NextTill.nil
                exact NextTill.nil
              refine NextTill.cons (by rfl) (by rfl) (fun K hK => ?_) ?_
              ·
                go_simp
                have M5 := Lib.hid (M1.out.alloc hh5 hh2 hhb hh0 (.cells #[.int .i64 x.v.kind, .int .i64 x.v.num, .string x.v.str, .slice x.a3 x.v.items.length x.c3, .slice x.a4 x.v.keys.length x.c4] 28))
                have S5 := Lib.hid (And.intro ((Below.heap_alloc _ (.cells #[.int .i64 x.v.kind, .int .i64 x.v.num, .string x.v.str, .slice x.a3 x.v.items.length x.c3, .slice x.a4 x.v.keys.length x.c4] 28) _ (Array.getElem?_eq_some_iff.1 S1.out.1).1).trans S1.out.1) ((Below.heap_alloc _ (.cells #[.int .i64 x.v.kind, .int .i64 x.v.num, .string x.v.str, .slice x.a3 x.v.items.length x.c3, .slice x.a4 x.v.keys.length x.c4] 28) _ (Array.getElem?_eq_some_iff.1 S1.out.2).1).trans S1.out.2))
                have N5 := Lib.hid (heap_alloc_new x1 (.cells #[.int .i64 x.v.kind, .int .i64 x.v.num, .string x.v.str, .slice x.a3 x.v.items.length x.c3, .slice x.a4 x.v.keys.length x.c4] 28))
                have O5 := Lib.hid ((Below.heap_alloc _ (.cells #[.int .i64 x.v.kind, .int .i64 x.v.num, .string x.v.str, .slice x.a3 x.v.items.length x.c3, .slice x.a4 x.v.keys.length x.c4] 28) _ (Array.getElem?_eq_some_iff.1 N1.out).1).trans N1.out)
                refine hK.out _ _ (fun _ => S5.out) ?_
                clear hK K
                (try simp only [Act.put]); (try simp only [List.setIfInBounds_toArray]); (try simp only [List.set_cons_succ]); (try simp only [List.set_cons_zero])
                have HE5 : ∃ w', w' = x1.alloc (.cells #[.int .i64 x.v.kind, .int .i64 x.v.num, .string x.v.str, .slice x.a3 x.v.items.length x.c3, .slice x.a4 x.v.keys.length x.c4] 28) := ⟨_, rfl⟩
                obtain ⟨x5, he5⟩ := HE5
                rw [← he5] at M5 S5 O5 N5 ⊢
                clear he5
                refine AnyTill.ready (rs := [5]) (by kernel_rfl) (by simp) ?_
                refine NextTill.cons (by rfl) (by rfl) (fun K hK => ?_) ?_
                ·
                  refine wp_append_lies _ _ _ _ (by rfl) (w2.heap.size + 1) 9 i9 _ 1 16 Tryd.underlying22 hi9 hz90 hz91 hz92 hz9s (by omega) vk k (kyCells (d2.take k)) (by rfl) M5.out.ky ⟨_, 0, none⟩ 1 1 [.string x.key] (by rfl) (by rfl) (World.news_of_block (cs := #[.string x.key]) (t := 9) (fr := (0, 0)) O5.out) (by simp [Value.oneCell']) (by omega) (by unfold maxLen; omega) (by omega) M5.out.sz _ rfl ?_
                  intro g6 c6 x6 ho6 hg6 _ _
                  have M6 := Lib.hid (M5.out.appK hh5 hh2 hhb hh0 HXk.out ho6 hg6)
                  have T6 := Lib.hid (Stp.app M5.out.ky hg6)
                  have S6 := Lib.hid (And.intro ((T6.out.low _ hh5 (Array.getElem?_eq_some_iff.1 S5.out.1).1).trans S5.out.1) (T6.out.typ _ _ _ _ S5.out.2 (by decide)))
                  have O6 := Lib.hid (T6.out.typ _ _ _ _ N5.out (by decide))
                  clear ho6 hg6 T6
                  refine hK.out _ _ (fun _ => S6.out) ?_
                  clear hK K
                  (try simp only [Act.put]); (try simp only [List.setIfInBounds_toArray]); (try simp only [List.set_cons_succ]); (try simp only [List.set_cons_zero])
                  (refine AnyTill.takeW (i := 12) (v := ?v12w2) (oi := ?o12w2) ?i12w2 ?k12w2 ?q12w2 ?y12w2 (fun _ => S6.out) ?h12w2; (case i12w2 => rfl); (case k12w2 => kernel_rfl); (case q12w2 => exact fun _ _ _ h => h))
                  case y12w2 => exact Or.inl ⟨by rfl, by (intro w' _; go_simp; all_goals (with_reducible rfl))⟩
                  (try simp only [Act.put]); (try simp only [List.setIfInBounds_toArray]); (try simp only [List.set_cons_succ]); (try simp only [List.set_cons_zero])
                  refine AnyTill.ready (rs := [11]) (by kernel_rfl) (by simp) ?_
                  refine NextTill.cons (by rfl) (by rfl) (fun K hK => ?_) ?_
                  ·
                    refine wp_append_lies _ _ _ _ (by rfl) (w2.heap.size + 1) 28 i8 _ 5 80 Tryd.underlying26 hi8 hz80 hz81 hz82 hz8s (by omega) vi k (itCells (d2.take k)) (by rfl) M6.out.it ⟨_, 0, none⟩ 1 1 [.int .i64 x.v.kind, .int .i64 x.v.num, .string x.v.str, .slice x.a3 x.v.items.length x.c3, .slice x.a4 x.v.keys.length x.c4] (by rfl) (by rfl) (World.news_of_block (cs := #[.int .i64 x.v.kind, .int .i64 x.v.num, .string x.v.str, .slice x.a3 x.v.items.length x.c3, .slice x.a4 x.v.keys.length x.c4]) (t := 28) (fr := (0, 0)) O6.out) (by simp [Value.oneCell']) (by omega) (by unfold maxLen; omega) (by omega) M6.out.sz _ rfl ?_
                    intro g7 c7 x7 ho7 hg7 _ _
                    have M7 := Lib.hid (M6.out.appI hh5 hh2 hhb hh0 HXk.out ho7 hg7)
                    have T7 := Lib.hid (Stp.app M6.out.it hg7)
                    have S7 := Lib.hid (And.intro ((T7.out.low _ hh5 (Array.getElem?_eq_some_iff.1 S6.out.1).1).trans S6.out.1) (T7.out.typ _ _ _ _ S6.out.2 (by decide)))
                    clear ho7 hg7 T7
                    refine hK.out _ _ (fun _ => S7.out) ?_
                    clear hK K
                    (try simp only [Act.put]); (try simp only [List.setIfInBounds_toArray]); (try simp only [List.set_cons_succ]); (try simp only [List.set_cons_zero])
                    refine AnyTill.ready (rs := [13]) (by kernel_rfl) (by simp) ?_
                    refine NextTill.cons (by rfl) (by rfl) (fun K hK => ?_) ?_
                    ·
                      have b13 := M7.out.box
                      have c13 := boxCell b13 4
                      have f13 := boxFroz b13 4
                      simp only [List.getElem?_toArray, List.getElem?_cons_zero, List.getElem?_cons_succ] at c13
                      clear b13
                      go_simp
                      have M13 := Lib.hid (M7.out.store (i := 4) hh5 hh25 hhb5 hh05 (.slice (some ⟨g6, 0, none⟩) (k + 1) c6) vi (.slice (some ⟨g6, 0, none⟩) (k + 1) c6) rfl)
                      clear c13 f13
                      refine hK.out _ _ (fun h => nomatch h) ?_
                      clear hK K
                      (try simp only [Act.put]); (try simp only [List.setIfInBounds_toArray]); (try simp only [List.set_cons_succ]); (try simp only [List.set_cons_zero])
                      generalize x7.setCell ⟨w2.heap.size, 4, none⟩ (.slice (some ⟨g6, 0, none⟩) (k + 1) c6) = x13 at M13 ⊢
                      refine AnyTill.ready (rs := [14]) (by kernel_rfl) (by simp) ?_
                      refine NextTill.cons (by rfl) (by rfl) (fun K hK => ?_) NextTill.nil
                      go_simp
                      refine hK.out _ _ (fun h => nomatch h) ?_
                      clear hK K
                      (try simp only [Act.put]); (try simp only [List.setIfInBounds_toArray]); (try simp only [List.set_cons_succ]); (try simp only [List.set_cons_zero])
                      refine AnyTill.ready (rs := [15]) (by kernel_rfl) (by simp) ?_
                      refine NextTill.cons (by rfl) (by rfl) (fun K hK => ?_) NextTill.nil
                      have b15 := M13.out.box
                      have c15 := boxCell b15 3
                      have f15 := boxFroz b15 3
                      simp only [List.getElem?_toArray, List.getElem?_cons_zero, List.getElem?_cons_succ] at c15
                      clear b15
                      go_simp
                      have M15 := Lib.hid (M13.out.store (i := 3) hh5 hh25 hhb5 hh05 (.slice (some ⟨g7, 0, none⟩) (k + 1) c7) (.slice (some ⟨g7, 0, none⟩) (k + 1) c7) (.slice (some ⟨g6, 0, none⟩) (k + 1) c6) rfl)
                      clear c15 f15 M13
                      refine hK.out _ _ (fun h => nomatch h) ?_
                      clear hK K
                      (try simp only [Act.put]); (try simp only [List.setIfInBounds_toArray]); (try simp only [List.set_cons_succ]); (try simp only [List.set_cons_zero])
                      generalize x13.setCell ⟨w2.heap.size, 3, none⟩ (.slice (some ⟨g7, 0, none⟩) (k + 1) c7) = x15 at M15 ⊢
                      clear M7 S7
                      refine AnyTill.done (by kernel_rfl) ?_ _
                      go_wp2_with fail
                      go_roundw
                      case rel => exact ⟨k + 1, _, _, hlt, by (first | rfl | (simp only [Value.int.injEq, true_and]; omega)), Lib.hid ⟨HNT.out.step HXk.out HB.out, M15.out⟩⟩
                      case measure => simp [intOf]; omega
                    exact NextTill.nil
                  exact NextTill.nil
                exact NextTill.nil
              exact NextTill.nil
            refine NextTill.cons (by rfl) (by rfl) (fun K hK => ?_) ?_
            ·
              go_simp
              have M8 := Lib.hid (M0.out.alloc hh5 hh2 hhb hh0 (.cells #[.int .i64 x.v.kind, .int .i64 x.v.num, .string x.v.str, .slice x.a3 x.v.items.length x.c3, .slice x.a4 x.v.keys.length x.c4] 28))
              have S8 := Lib.hid (And.intro ((Below.heap_alloc _ (.cells #[.int .i64 x.v.kind, .int .i64 x.v.num, .string x.v.str, .slice x.a3 x.v.items.length x.c3, .slice x.a4 x.v.keys.length x.c4] 28) _ (Array.getElem?_eq_some_iff.1 S0.out.1).1).trans S0.out.1) ((Below.heap_alloc _ (.cells #[.int .i64 x.v.kind, .int .i64 x.v.num, .string x.v.str, .slice x.a3 x.v.items.length x.c3, .slice x.a4 x.v.keys.length x.c4] 28) _ (Array.getElem?_eq_some_iff.1 S0.out.2).1).trans S0.out.2))
              have N8 := Lib.hid (heap_alloc_new x0 (.cells #[.int .i64 x.v.kind, .int .i64 x.v.num, .string x.v.str, .slice x.a3 x.v.items.length x.c3, .slice x.a4 x.v.keys.length x.c4] 28))
              refine hK.out _ _ (fun _ => S8.out) ?_
              clear hK K
              (try simp only [Act.put]); (try simp only [List.setIfInBounds_toArray]); (try simp only [List.set_cons_succ]); (try simp only [List.set_cons_zero])
              have HE8 : ∃ w', w' = x0.alloc (.cells #[.int .i64 x.v.kind, .int .i64 x.v.num, .string x.v.str, .slice x.a3 x.v.items.length x.c3, .slice x.a4 x.v.keys.length x.c4] 28) := ⟨_, rfl⟩
              obtain ⟨x8, he8⟩ := HE8
              rw [← he8] at M8 S8  N8 ⊢
              clear he8
              refine AnyTill.ready (rs := [4]) (by kernel_rfl) (by simp) ?_
              refine NextTill.cons (by rfl) (by rfl) (fun K hK => ?_) ?_
              ·
                go_simp
                have M9 := Lib.hid (M8.out.alloc hh5 hh2 hhb hh0 (.cells #[.string x.key] 9))
                have S9 := Lib.hid (And.intro ((Below.heap_alloc _ (.cells #[.string x.key] 9) _ (Array.getElem?_eq_some_iff.1 S8.out.1).1).trans S8.out.1) ((Below.heap_alloc _ (.cells #[.string x.key] 9) _ (Array.getElem?_eq_some_iff.1 S8.out.2).1).trans S8.out.2))
                have N9 := Lib.hid (heap_alloc_new x8 (.cells #[.string x.key] 9))
                have O9 := Lib.hid ((Below.heap_alloc _ (.cells #[.string x.key] 9) _ (Array.getElem?_eq_some_iff.1 N8.out).1).trans N8.out)
                refine hK.out _ _ (fun _ => S9.out) ?_
                clear hK K
                (try simp only [Act.put]); (try simp only [List.setIfInBounds_toArray]); (try simp only [List.set_cons_succ]); (try simp only [List.set_cons_zero])
                have HE9 : ∃ w', w' = x8.alloc (.cells #[.string x.key] 9) := ⟨_, rfl⟩
                obtain ⟨x9, he9⟩ := HE9
                rw [← he9] at M9 S9 N9 O9 ⊢
                clear he9
                refine AnyTill.ready (rs := [5]) (by kernel_rfl) (by simp) ?_
                refine NextTill.cons (by rfl) (by rfl) (fun K hK => ?_) ?_
                ·
                  refine wp_append_lies _ _ _ _ (by rfl) (w2.heap.size + 1) 9 i9 _ 1 16 Tryd.underlying22 hi9 hz90 hz91 hz92 hz9s (by omega) vk k (kyCells (d2.take k)) (by rfl) M9.out.ky ⟨_, 0, none⟩ 1 1 [.string x.key] (by rfl) (by rfl) (World.news_of_block (cs := #[.string x.key]) (t := 9) (fr := (0, 0)) N9.out) (by simp [Value.oneCell']) (by omega) (by unfold maxLen; omega) (by omega) M9.out.sz _ rfl ?_
                  intro g10 c10 x10 ho10 hg10 _ _
                  have M10 := Lib.hid (M9.out.appK hh5 hh2 hhb hh0 HXk.out ho10 hg10)
                  have T10 := Lib.hid (Stp.app M9.out.ky hg10)
                  have S10 := Lib.hid (And.intro ((T10.out.low _ hh5 (Array.getElem?_eq_some_iff.1 S9.out.1).1).trans S9.out.1) (T10.out.typ _ _ _ _ S9.out.2 (by decide)))
                  have O10 := Lib.hid (T10.out.typ _ _ _ _ O9.out (by decide))
                  clear ho10 hg10 T10
                  refine hK.out _ _ (fun _ => S10.out) ?_
                  clear hK K
                  (try simp only [Act.put]); (try simp only [List.setIfInBounds_toArray]); (try simp only [List.set_cons_succ]); (try simp only [List.set_cons_zero])
                  (refine AnyTill.takeW (i := 12) (v := ?v12w3) (oi := ?o12w3) ?i12w3 ?k12w3 ?q12w3 ?y12w3 (fun _ => S10.out) ?h12w3; (case i12w3 => rfl); (case k12w3 => kernel_rfl); (case q12w3 => exact fun _ _ _ h => h))
                  case y12w3 => exact Or.inl ⟨by rfl, by (intro w' _; go_simp; all_goals (with_reducible rfl))⟩
                  (try simp only [Act.put]); (try simp only [List.setIfInBounds_toArray]); (try simp only [List.set_cons_succ]); (try simp only [List.set_cons_zero])
                  refine AnyTill.ready (rs := [11]) (by kernel_rfl) (by simp) ?_
                  refine NextTill.cons (by rfl) (by rfl) (fun K hK => ?_) ?_
                  ·
                    refine wp_append_lies _ _ _ _ (by rfl) (w2.heap.size + 1) 28 i8 _ 5 80 Tryd.underlying26 hi8 hz80 hz81 hz82 hz8s (by omega) vi k (itCells (d2.take k)) (by rfl) M10.out.it ⟨_, 0, none⟩ 1 1 [.int .i64 x.v.kind, .int .i64 x.v.num, .string x.v.str, .slice x.a3 x.v.items.length x.c3, .slice x.a4 x.v.keys.length x.c4] (by rfl) (by rfl) (World.news_of_block (cs := #[.int .i64 x.v.kind, .int .i64 x.v.num, .string x.v.str, .slice x.a3 x.v.items.length x.c3, .slice x.a4 x.v.keys.length x.c4]) (t := 28) (fr := (0, 0)) O10.out) (by simp [Value.oneCell']) (by omega) (by unfold maxLen; omega) (by omega) M10.out.sz _ rfl ?_
                    intro g11 c11 x11 ho11 hg11 _ _
                    have M11 := Lib.hid (M10.out.appI hh5 hh2 hhb hh0 HXk.out ho11 hg11)
                    have T11 := Lib.hid (Stp.app M10.out.it hg11)
                    have S11 := Lib.hid (And.intro ((T11.out.low _ hh5 (Array.getElem?_eq_some_iff.1 S10.out.1).1).trans S10.out.1) (T11.out.typ _ _ _ _ S10.out.2 (by decide)))
                    clear ho11 hg11 T11
                    refine hK.out _ _ (fun _ => S11.out) ?_
                    clear hK K
                    (try simp only [Act.put]); (try simp only [List.setIfInBounds_toArray]); (try simp only [List.set_cons_succ]); (try simp only [List.set_cons_zero])
                    refine AnyTill.ready (rs := [13]) (by kernel_rfl) (by simp) ?_
                    refine NextTill.cons (by rfl) (by rfl) (fun K hK => ?_) ?_
                    ·
                      have b13 := M11.out.box
                      have c13 := boxCell b13 4
                      have f13 := boxFroz b13 4
                      simp only [List.getElem?_toArray, List.getElem?_cons_zero, List.getElem?_cons_succ] at c13
                      clear b13
                      go_simp
                      have M13 := Lib.hid (M11.out.store (i := 4) hh5 hh25 hhb5 hh05 (.slice (some ⟨g10, 0, none⟩) (k + 1) c10) vi (.slice (some ⟨g10, 0, none⟩) (k + 1) c10) rfl)
                      clear c13 f13
                      refine hK.out _ _ (fun h => nomatch h) ?_
                      clear hK K
                      (try simp only [Act.put]); (try simp only [List.setIfInBounds_toArray]); (try simp only [List.set_cons_succ]); (try simp only [List.set_cons_zero])
                      generalize x11.setCell ⟨w2.heap.size, 4, none⟩ (.slice (some ⟨g10, 0, none⟩) (k + 1) c10) = x13 at M13 ⊢
                      refine AnyTill.ready (rs := [14]) (by kernel_rfl) (by simp) ?_
                      refine NextTill.cons (by rfl) (by rfl) (fun K hK => ?_) NextTill.nil
                      go_simp
                      refine hK.out _ _ (fun h => nomatch h) ?_
                      clear hK K
                      (try simp only [Act.put]); (try simp only [List.setIfInBounds_toArray]); (try simp only [List.set_cons_succ]); (try simp only [List.set_cons_zero])
                      refine AnyTill.ready (rs := [15]) (by kernel_rfl) (by simp) ?_
                      refine NextTill.cons (by rfl) (by rfl) (fun K hK => ?_) NextTill.nil
                      have b15 := M13.out.box
                      have c15 := boxCell b15 3
                      have f15 := boxFroz b15 3
                      simp only [List.getElem?_toArray, List.getElem?_cons_zero, List.getElem?_cons_succ] at c15
                      clear b15
                      go_simp
                      have M15 := Lib.hid (M13.out.store (i := 3) hh5 hh25 hhb5 hh05 (.slice (some ⟨g11, 0, none⟩) (k + 1) c11) (.slice (some ⟨g11, 0, none⟩) (k + 1) c11) (.slice (some ⟨g10, 0, none⟩) (k + 1) c10) rfl)
                      clear c15 f15 M13
                      refine hK.out _ _ (fun h => nomatch h) ?_
                      clear hK K
                      (try simp only [Act.put]); (try simp only [List.setIfInBounds_toArray]); (try simp only [List.set_cons_succ]); (try simp only [List.set_cons_zero])
                      generalize x13.setCell ⟨w2.heap.size, 3, none⟩ (.slice (some ⟨g11, 0, none⟩) (k + 1) c11) = x15 at M15 ⊢
                      clear M11 S11
                      refine AnyTill.done (by kernel_rfl) ?_ _
                      go_wp2_with fail
                      go_roundw
                      case rel => exact ⟨k + 1, _, _, hlt, by (first | rfl | (simp only [Value.int.injEq, true_and]; omega)), Lib.hid ⟨HNT.out.step HXk.out HB.out, M15.out⟩⟩
                      case measure => simp [intOf]; omega
                    exact NextTill.nil
                  exact NextTill.nil
                exact NextTill.nil
              exact NextTill.nil
            exact NextTill.nil
          · have HM2 := Lib.hid ((HM.out.2.alloc (by omega) (by omega) (by omega) (by omega) (.cells #[.string x.key, .int .i64 x.v.kind, .int .i64 x.v.num, .string x.v.str, .slice x.a3 x.v.items.length x.c3, .slice x.a4 x.v.keys.length x.c4] 38)).pw nq)
            have HNT := Lib.hid HM.out.1
            clear e0 e1 e2 e3 e4 e5 HM HWA HROW
            generalize (wr.alloc (.cells #[.string x.key, .int .i64 x.v.kind, .int .i64 x.v.num, .string x.v.str, .slice x.a3 x.v.items.length x.c3, .slice x.a4 x.v.keys.length x.c4] 38)).drewN nq = wa at HM2 ⊢
            have hr2 := HM2.out.res
            have r0 := boxCell hr2 0
            have r1 := boxCell hr2 1
            have r2 := boxCell hr2 2
            have r3 := boxCell hr2 3
            have r4 := boxCell hr2 4
            have rf := boxFroz hr2
            have rf0 := rf 0
            have rf1 := rf 1
            have rf2 := rf 2
            have rf3 := rf 3
            have rf4 := rf 4
            simp only [List.getElem?_toArray, List.getElem?_cons_zero, List.getElem?_cons_succ] at r0 r1 r2 r3 r4
            clear hr2 rf
            have HXk : Hid (d2[k]? = some x) := Lib.hid (by rw [HX.out]; exact List.getElem?_eq_getElem hkd)
            go_wp2_with fail
            (try simp only [Exit.inBlock, Exit.then]); refine bodyPost_ret (by simp [results, Tryd.results17, r0, r1, r2, r3, r4, go_sem]; try rfl) rfl ?_
            exact .inr ⟨twice_of HP.out HD.out HXk.out HB.out, rfl, ((((HM2.out.bel.setCell (by simp) _).setCell (by simp) _).setCell (by simp) _).setCell (by simp) _).setCell (by simp) _⟩
      · have hkn : k = n := by omega
        have hbl2' : w.heap.size < w2.heap.size + 1 := by omega
        obtain ⟨A3, c3, rfl⟩ := own_slice HM.out.2.it
        obtain ⟨A4, c4, rfl⟩ := own_slice HM.out.2.ky
        have hr2 := HM.out.2.res
        have r0 := boxCell hr2 0
        have r1 := boxCell hr2 1
        have r2 := boxCell hr2 2
        have r3 := boxCell hr2 3
        have r4 := boxCell hr2 4
        have rf := boxFroz hr2
        have rf0 := rf 0
        have rf1 := rf 1
        have rf2 := rf 2
        have rf3 := rf 3
        have rf4 := rf 4
        have hr5 := HM.out.2.box
        have s0 := boxCell hr5 0
        have s1 := boxCell hr5 1
        have s2 := boxCell hr5 2
        have s3 := boxCell hr5 3
        have s4 := boxCell hr5 4
        simp only [List.getElem?_toArray, List.getElem?_cons_zero, List.getElem?_cons_succ] at r0 r1 r2 r3 r4 s0 s1 s2 s3 s4
        clear hr2 rf hr5
        subst hkn
        have hI := HM.out.2.it
        have hK := HM.out.2.ky
        have hB := HM.out.2.bel
        rw [List.take_of_length_le (by omega)] at hI hK
        have hset : ∀ v0 v1 v2 v3 v4 : Value, (World.ownsRow ((((((wr.setCell ⟨w.heap.size, 0, none⟩ v0).setCell ⟨w.heap.size, 1, none⟩ v1).setCell ⟨w.heap.size, 2, none⟩ v2).setCell ⟨w.heap.size, 3, none⟩ v3).setCell ⟨w.heap.size, 4, none⟩ v4)) (w2.heap.size + 1) 28 5 (.slice A3 k c3) k (itCells d2)) ∧ (World.ownsRow ((((((wr.setCell ⟨w.heap.size, 0, none⟩ v0).setCell ⟨w.heap.size, 1, none⟩ v1).setCell ⟨w.heap.size, 2, none⟩ v2).setCell ⟨w.heap.size, 3, none⟩ v3).setCell ⟨w.heap.size, 4, none⟩ v4)) (w2.heap.size + 1) 9 1 (.slice A4 k c4) k (kyCells d2)) := by
          intro v0 v1 v2 v3 v4
          exact ⟨own_store (own_store (own_store (own_store (own_store hI hbl2' _ _) hbl2' _ _) hbl2' _ _) hbl2' _ _) hbl2' _ _, own_store (own_store (own_store (own_store (own_store hK hbl2' _ _) hbl2' _ _) hbl2' _ _) hbl2' _ _) hbl2' _ _⟩
        have HSET := Lib.hid hset
        have HNT := Lib.hid HM.out.1
        have HBE := Lib.hid hB
        clear hset hI hK hB HM
        go_wp2_with fail
        (try simp only [Exit.inBlock, Exit.then]); refine bodyPost_ret (by simp [results, Tryd.results17, r0, r1, r2, r3, r4, go_sem]; try rfl) rfl ?_
        have hok2 : ∀ x ∈ d2, x.ok C := fun x hx => HOK.out x ((HP.out.mem_iff).1 hx)
        have hbel := ((((HBE.out.setCell (p := ⟨w.heap.size, 0, none⟩) (Nat.le_refl _) (.int .i64 4)).setCell (p := ⟨w.heap.size, 1, none⟩) (Nat.le_refl _) (.int .i64 0)).setCell (p := ⟨w.heap.size, 2, none⟩) (Nat.le_refl _) (.string ⟨#[]⟩)).setCell (p := ⟨w.heap.size, 3, none⟩) (Nat.le_refl _) (.slice A3 k c3)).setCell (p := ⟨w.heap.size, 4, none⟩) (Nat.le_refl _) (.slice A4 k c4)
        obtain ⟨hI2, hK2⟩ := HSET.out (.int .i64 4) (.int .i64 0) (.string ⟨#[]⟩) (.slice A3 k c3) (.slice A4 k c4)
        obtain ⟨C', hp, hr⟩ := settle_map HC.out hbel (by omega) hd2 hok2 hI2 hK2
        refine .inl ⟨d2.map PC.pair, by rw [← HD.out]; exact HP.out.map _, strict_of HSO.out (fun j h1 h2 => HNT.out j h1 (by omega)), C', A3, c3, A4, c4, ?_, hp, hr⟩
        simp [V.ofPairs, V.cells, V.kind, V.num, V.str, V.items, V.keys, hd2]
end Go.Proofs.YtbkoajipljjonaaDoor
