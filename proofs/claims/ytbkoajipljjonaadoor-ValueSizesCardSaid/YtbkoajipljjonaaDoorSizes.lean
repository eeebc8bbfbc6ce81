/- ValueSizes: true for every input. -/
import Derived.Test.YtbkoajipljjonaaDoorAlive
import Derived.Test.YtbkoajipljjonaaDoorRefCount
import Derived.Test.YtbkoajipljjonaaDoorCount
import Derived.Test.YtbkoajipljjonaaDoorDepth
import Derived.Lib.MinMax
namespace Go.Proofs.YtbkoajipljjonaaDoor
open Go.RowKit Go.Shelf Go.Sort Go.Deep

def PC.vs (d : List PC) : List V := d.map fun x => x.v
theorem RdSl.take {C : Cm} {A : Option Addr} {c sz : Nat} {es : List GV} (h : RdSl C A c sz es) (m : Nat) : RdSl C A c sz (es.take m) := by
  obtain ⟨h1, h2, h3⟩ := h
  refine ⟨by rw [List.length_take]; omega, h2, ?_⟩
  rcases h3 with rfl | ⟨b, o, rfl, h3⟩
  · exact .inl (by simp)
  · exact .inr ⟨b, o, rfl, RdE_take h3 m⟩

mutual
theorem V.dep_le_cnt : ∀ v : V, v.dep ≤ v.cnt
  | .mk _ _ _ is _ => by have := V.deps_le_cnts is; simp only [V.dep, V.cnt]; omega
theorem V.deps_le_cnts : ∀ l : List V, V.deps l ≤ V.cnts l
  | [] => by simp [V.deps]
  | v :: l => by have h1 := V.dep_le_cnt v; have h2 := V.deps_le_cnts l; simp only [V.deps, V.cnts]; omega
end
theorem V.cnts_perm {l m : List V} (h : l.Perm m) : V.cnts l = V.cnts m := by
  induction h with
  | nil => rfl
  | cons x _ ih => simp only [V.cnts, ih]
  | swap x y l => simp only [V.cnts]; omega
  | trans _ _ h1 h2 => exact h1.trans h2
theorem V.deps_perm {l m : List V} (h : l.Perm m) : V.deps l = V.deps m := by
  induction h with
  | nil => rfl
  | cons x _ ih => simp only [V.deps, ih]
  | swap x y l => simp only [V.deps]; omega
  | trans _ _ h1 h2 => exact h1.trans h2
theorem vs_snoc {d : List PC} {k : Nat} {x : PC} (h : d[k]? = some x) : PC.vs (d.take (k + 1)) = PC.vs (d.take k) ++ [x.v] := by
  rw [List.take_add_one, h]
  simp [PC.vs]

set_option maxHeartbeats 4000000 in
set_option maxRecDepth 100000 in
theorem sizes_calls (C : Cm) (w : World) (A : Option Addr) (n c : Nat) (l : List (ByteArray × V)) (hn : l.length = n) (hC : C.le w) (hr : RdSl C A c 6 (pairsGv l)) (hE : Env w) :
    Calls Tryd.prog 4 #[.slice A n c] w fun e w' => e = .returned (.bool true) ∧ Below w.heap.size w w' := by
  obtain ⟨i8, hi8, hz8⟩ : ∃ i, Tryd.prog.info? 28 = some i ∧ (i.zero.map Value.cells |>.map Array.size, i.size, i.bytes) = (some 5, 5, 80) := Option.map_eq_some_iff.1 info28
  simp only [Prod.mk.injEq, Option.map_eq_some_iff] at hz8
  obtain ⟨⟨_, ⟨z8, hz80, rfl⟩, hz8s⟩, hz81, hz82⟩ := hz8
  have hnc : n ≤ c ∧ c ≤ maxLen := by have := hr.1; rw [pairsGv_length, hn] at this; exact ⟨this, hr.2.1⟩
  unfold maxLen at hnc
  have hr2 : RdSl C A c 6 (pairsGv (l.take (min n 10))) := by
    have := hr.take (min n 10)
    rwa [show (pairsGv l).take (min n 10) = pairsGv (l.take (min n 10)) by simp [pairsGv]] at this
  have hl2 : (l.take (min n 10)).length = min n 10 := by rw [List.length_take, hn]; omega
  obtain ⟨d, hd, hok, hcell⟩ := pairs_open hC hr2
  have hdl : d.length = min n 10 := by rw [← hl2, ← hd, List.length_map]
  have hm10 : min n 10 ≤ 10 := Nat.min_le_right _ _
  have hmn : min n 10 ≤ n := Nat.min_le_left _ _
  have HM := Lib.hid (fun W C' (hC : Cm.le C' W) (he : Ext w.heap.size C C') => map_calls C' W A (min n 10) c (l.take (min n 10)) hl2 hC (hr2.ext he) (by rw [hl2]; omega))
  have hmin : min (n : Int) 10 = ((min n 10 : Nat) : Int) := by omega
  generalize l.take (min n 10) = l2 at *
  generalize hmq : min n 10 = m at *
  have HC := Lib.hid hC
  have HE := Lib.hid hE
  have HOK := Lib.hid hok
  have HD := Lib.hid hd
  have HCELL := Lib.hid hcell
  clear hC hE hok hcell hr2 hr hd hn hmq
  go_enter Tryd.func4, Tryd.ntmps4
  go_wp2_with fail
  go_loopw [3, 4, 5, 18] (fun n' dp vi i wr => ∃ k : Nat, k ≤ m ∧ i = .int .i64 k ∧ n' = .int .i64 (1 + V.cnts (PC.vs (d.take k)) : Nat) ∧ dp = .int .i64 (V.deps (PC.vs (d.take k)) : Nat) ∧ V.cnts (PC.vs (d.take k)) ≤ 2100 * k ∧ V.deps (PC.vs (d.take k)) ≤ 2100 * k ∧ Hid (wr.ownsRow w.heap.size 28 5 vi k (itCells (d.take k))) ∧ Below w.heap.size w wr) (fun _ _ _ i _ => m - (intOf i).toNat)
  case atStart => exact ⟨0, Nat.zero_le _, rfl, by simp [PC.vs, V.cnts], by simp [PC.vs, V.deps], by simp [PC.vs, V.cnts], by simp [PC.vs, V.deps], Lib.hid (World.ownsRow_nil _ _ _ _), Below.refl _ _⟩
  case round =>
    obtain ⟨k, hk, rfl, rfl, rfl, hcn, hdp, HOWN, hb⟩ := hrel
    have hbs := hb.size
    have hq1 : V.cnts (PC.vs (d.take k)) ≤ 21000 := by omega
    have hq2 : V.deps (PC.vs (d.take k)) ≤ 21000 := by omega
    by_cases hlt : k < m
    · have hkd : k < d.length := by omega
      have hl0 : l2 ≠ [] := by intro e; rw [e] at hl2; simp at hl2; omega
      obtain ⟨b, o, rfl, hc⟩ := HCELL.out hl0
      obtain ⟨x, hx⟩ : ∃ x, x = d[k] := ⟨_, rfl⟩
      have hc' := hc k hkd
      rw [← hx] at hc'
      have e0 := hc' 0 (.string x.key) rfl
      have e1 := hc' 1 (.int .i64 x.v.kind) rfl
      have e2 := hc' 2 (.int .i64 x.v.num) rfl
      have e3 := hc' 3 (.string x.v.str) rfl
      have e4 := hc' 4 (.slice x.a3 x.v.items.length x.c3) rfl
      have e5 := hc' 5 (.slice x.a4 x.v.keys.length x.c4) rfl
      rw [Nat.add_zero] at e0
      replace e0 := (hb.cell (World.block_lt_of_cell? w _ e0)).trans e0
      replace e1 := (hb.cell (World.block_lt_of_cell? w _ e1)).trans e1
      replace e2 := (hb.cell (World.block_lt_of_cell? w _ e2)).trans e2
      replace e3 := (hb.cell (World.block_lt_of_cell? w _ e3)).trans e3
      replace e4 := (hb.cell (World.block_lt_of_cell? w _ e4)).trans e4
      replace e5 := (hb.cell (World.block_lt_of_cell? w _ e5)).trans e5
      have hxm : x ∈ d := by rw [hx]; exact List.getElem_mem hkd
      have hxr := (HOK.out x hxm).2
      have HB1 := Lib.hid (fun W (h : Below w.heap.size w W) => big_calls x.v C W x.a3 x.c3 x.a4 x.c4 (Cm.le_below HC.out h) hxr)
      have HB2 := Lib.hid (fun W (h : Below w.heap.size w W) => count_calls x.v.dep x.v C W x.a3 x.c3 x.a4 x.c4 (Nat.le_refl _) (Cm.le_below HC.out h) hxr)
      have HXk : Hid (d[k]? = some x) := Lib.hid (by rw [hx]; exact List.getElem?_eq_getElem hkd)
      have hdc := V.dep_le_cnt x.v
      clear hc hc' hx hxm
      go_wp2_with fail
      refine (HB1.out _ (by go_grown)).mono ?_
      rintro e w1 ⟨rfl, hb1⟩
      have hp : w1.heap[wr.heap.size]? = some (.cells #[.string x.key, .int .i64 x.v.kind, .int .i64 x.v.num, .string x.v.str, .slice x.a3 x.v.items.length x.c3, .slice x.a4 x.v.keys.length x.c4] 38 (0, 0)) := by
        rw [hb1.block _ (by simp)]
        exact heap_alloc_new wr _
      have hB1 : Below wr.heap.size wr w1 := ((Below.refl _ _).alloc (Nat.le_refl _) _).trans (hb1.mono (by simp))
      have hB1w : Below w.heap.size w w1 := hb.trans (hB1.mono hb.size)
      clear hb1 e0 e1 e2 e3 e4 e5
      have p1 := boxCell hp 1
      have p2 := boxCell hp 2
      have p3 := boxCell hp 3
      have p4 := boxCell hp 4
      have p5 := boxCell hp 5
      simp only [List.getElem?_toArray, List.getElem?_cons_zero, List.getElem?_cons_succ] at p1 p2 p3 p4 p5
      have HP := Lib.hid hp
      clear hp
      by_cases hbig : 2100 < x.v.cnt
      · have hbd : decide (2100 < x.v.cnt) = true := decide_eq_true hbig
        rw [hbd]
        have HAL := Lib.hid (alive11_calls w1 (HE.out.below hB1w))
        clear p1 p2 p3 p4 p5
        go_wp2_with fail
        refine HAL.out.mono ?_
        rintro e w2 ⟨rfl, hb2⟩
        have hB2 := hB1w.trans (hb2.mono hB1w.size)
        clear hb2
        go_wp2_with fail
        go_ret
        exact ⟨rfl, hB2⟩
      · have hbd : decide (2100 < x.v.cnt) = false := decide_eq_false hbig
        rw [hbd]
        go_wp2_with fail
        have HDE := Lib.hid (fun W (h : Below w.heap.size w W) => depth_calls x.v.dep (by omega) x.v C W x.a3 x.c3 x.a4 x.c4 (Nat.le_refl _) (Cm.le_below HC.out h) hxr)
        refine (HB2.out _ hB1w).mono ?_
        rintro e w2 ⟨rfl, hb2⟩
        have hwr : wrap64 (x.v.cnt : Int) = (x.v.cnt : Int) := by unfold wrap64; omega
        rw [hwr]
        have hB2 := hB1.trans (hb2.mono hB1.size)
        have hB2w : Below w.heap.size w w2 := hb.trans (hB2.mono hb.size)
        have hp2 := (hb2.block _ (Array.getElem?_eq_some_iff.1 HP.out).1).trans HP.out
        clear hb2 p1 p2 p3 p4 p5 HB1 HB2 hB1w hwr HP hB1
        have p1 := boxCell hp2 1
        have p2 := boxCell hp2 2
        have p3 := boxCell hp2 3
        have p4 := boxCell hp2 4
        have p5 := boxCell hp2 5
        simp only [List.getElem?_toArray, List.getElem?_cons_zero, List.getElem?_cons_succ] at p1 p2 p3 p4 p5
        have HP := Lib.hid hp2
        clear hp2
        have HN1 : Hid ((1 + V.cnts (PC.vs (d.take k)) : Nat) + x.v.cnt = 1 + V.cnts (PC.vs (d.take (k + 1)))) := Lib.hid (by rw [vs_snoc HXk.out, V.cnts_append]; simp only [V.cnts]; omega)
        have HN2 : Hid (max (V.deps (PC.vs (d.take k))) x.v.dep = V.deps (PC.vs (d.take (k + 1)))) := Lib.hid (by rw [vs_snoc HXk.out, V.deps_append]; simp only [V.deps]; omega)
        have HQ : Hid (V.cnts (PC.vs (d.take (k + 1))) ≤ 2100 * (k + 1)) := Lib.hid (by have := HN1.out; omega)
        have HQ2 : Hid (V.deps (PC.vs (d.take (k + 1))) ≤ 2100 * (k + 1)) := Lib.hid (by have := HN2.out; omega)
        generalize hg1 : 1 + V.cnts (PC.vs (d.take k)) = q1 at *
        generalize hg2 : V.deps (PC.vs (d.take k)) = q2 at *
        have hq1' : q1 ≤ 21001 := by omega
        have HG1 := Lib.hid hg1
        clear hg1 hg2
        go_wp2_with fail
        refine (HDE.out _ hB2w).mono ?_
        rintro e w3 ⟨rfl, hb3⟩
        have hB3 := hB2.trans (hb3.mono hB2.size)
        have hB3w : Below w.heap.size w w3 := hb.trans (hB3.mono hb.size)
        have hp3 := (hb3.block _ (Array.getElem?_eq_some_iff.1 HP.out).1).trans HP.out
        clear hb3 p1 p2 p3 p4 p5 hB2w HP hB2 HDE
        have p1 := boxCell hp3 1
        have p2 := boxCell hp3 2
        have p3 := boxCell hp3 3
        have p4 := boxCell hp3 4
        have p5 := boxCell hp3 5
        simp only [List.getElem?_toArray, List.getElem?_cons_zero, List.getElem?_cons_succ] at p1 p2 p3 p4 p5
        clear hp3
        have hmx : max (q2 : Int) (x.v.dep : Int) = ((max q2 x.v.dep : Nat) : Int) := by omega
        have hOW : w3.ownsRow w.heap.size 28 5 u5 k (itCells (d.take k)) := HOWN.out.kept (below_grownBy' hB3) (by cases u5.ownBlock <;> simp)
        have hown3 := hOW.alloc (.cells #[.int .i64 x.v.kind, .int .i64 x.v.num, .string x.v.str, .slice x.a3 x.v.items.length x.c3, .slice x.a4 x.v.keys.length x.c4] 28)
        have hnb := World.news_of_block (heap_alloc_new w3 (.cells #[.int .i64 x.v.kind, .int .i64 x.v.num, .string x.v.str, .slice x.a3 x.v.items.length x.c3, .slice x.a4 x.v.keys.length x.c4] 28))
        clear hB3 hOW
        go_wp2_with (at_builtin; refine wpList_append_own _ rfl _ _ 26 rfl w.heap.size 28 i8 z8 5 80 Tryd.underlying26 hi8 hz80 hz81 hz82 hz8s (by decide) u5 k (itCells (d.take k)) rfl hown3 ⟨w3.heap.size, 0, none⟩ 1 1 [.int .i64 x.v.kind, .int .i64 x.v.num, .string x.v.str, .slice x.a3 x.v.items.length x.c3, .slice x.a4 x.v.keys.length x.c4] rfl rfl hnb (by simp [Value.oneCell']) ?c1 ?c2 ?c3 ?_)
        case c1 => unfold maxLen; omega
        case c2 => omega
        case c3 => simp; have := hB3w.size; omega
        intro v' w4 hown4 hgrow _
        have hB4 : Below w.heap.size w w4 := (hB3w.alloc hB3w.size _).grown hgrow (by have := hB3w.size; simp; omega) (fun j hj => by have := (HOWN.out.lt j hj).1; omega)
        have HOW4 : Hid (w4.ownsRow w.heap.size 28 5 v' (k + 1) (itCells (d.take (k + 1)))) := Lib.hid (by rw [itCells_snoc HXk.out]; exact hown4)
        clear hown4 hgrow hown3 hnb hB3w p1 p2 p3 p4 p5
        have HB4 := Lib.hid hB4
        clear hB4
        go_wp2_with fail
        go_roundw
        case rel => exact ⟨k + 1, hlt, by go_num, by (rw [← HN1.out]; have := HG1.out; simp only [Value.int.injEq, true_and]; omega), by rw [← HN2.out], HQ.out, HQ2.out, HOW4, HB4.out⟩
        case measure => simp [intOf]; omega
    · have hkm : k = m := by omega
      subst hkm
      obtain ⟨A3, c3, rfl⟩ := own_slice HOWN.out
      have htk : d.take k = d := List.take_of_length_le (by omega)
      rw [htk] at hcn hdp HOWN hq1 hq2 ⊢
      obtain ⟨C1, he1, hle1, hr1, _⟩ := settle_row (es := V.gvs (PC.vs d)) (Cm.le_below HC.out hb) HOWN.out (by simp [PC.vs, hdl]) (fun i hi => by
          have hid : i < d.length := by simpa [PC.vs] using hi
          refine ⟨(d[i]).vcells, rfl, ?_, fun j v hj => chunk_get PC.vcells 5 (fun _ => rfl) d i hid j v hj⟩
          have := (HOK.out d[i] (List.getElem_mem hid)).2
          simpa [V.gvs_eq, PC.vs] using this) (fun g hg o => Cm.none_of HC.out (HOWN.out.lt g hg).1 o)
      have hlr : Rd C1 (vList (PC.vs d)).gv ((vList (PC.vs d)).cells A3 c3 none 0) := by
        refine V.mk_rd _ ?_ ?_ ?_ ?_ ?_
        · simp [vList, V.kind, okAt]
          decide
        · simp [vList, V.num, okAt]
          decide
        · simp [vList, V.str, okAt, ByteArray.size]
        · simpa [vList, V.items] using hr1
        · exact ⟨by simp [vList, V.keys], by simp [maxLen], .inl (by simp [vList, V.keys, strsGv])⟩
      have hvl : (PC.vs d).length = k := by simp [PC.vs, hdl]
      have hlc : (vList (PC.vs d)).cells A3 c3 none 0 = [.int .i64 3, .int .i64 0, .string ⟨#[]⟩, .slice A3 k c3, .slice none 0 0] := by simp [vList, V.cells, V.kind, V.num, V.str, V.items, V.keys, hvl]
      have hln : (vList (PC.vs d)).cnt = 1 + V.cnts (PC.vs d) := by rw [V.cnt_eq]; rfl
      have hld : (vList (PC.vs d)).dep = V.deps (PC.vs d) + 1 := by rw [V.dep_eq]; rfl
      have HCO := Lib.hid (fun W (h : Below wr.heap.size wr W) => count_calls _ (vList (PC.vs d)) C1 W A3 c3 none 0 (Nat.le_refl _) (Cm.le_below hle1 h) hlr)
      have HDE := Lib.hid (fun W (h : Below wr.heap.size wr W) => depth_calls (vList (PC.vs d)).dep (by rw [hld]; omega) (vList (PC.vs d)) C1 W A3 c3 none 0 (Nat.le_refl _) (Cm.le_below hle1 h) hlr)
      have HAL := Lib.hid (fun W (h : Below wr.heap.size wr W) => alive11_calls W (HE.out.below (hb.trans (h.mono hbs))))
      have HMM := Lib.hid (fun W (h : Below wr.heap.size wr W) => HM W C1 (Cm.le_below hle1 h) (he1 _ (Nat.le_refl _)))
      rw [hlc, hln] at HCO
      rw [hlc, hld] at HDE
      have HCS : Hid (∀ ps : List (ByteArray × V), ps.Perm l2 → V.cnts (ps.map Prod.snd) = V.cnts (PC.vs d) ∧ V.deps (ps.map Prod.snd) = V.deps (PC.vs d)) := Lib.hid (by
        intro ps hps
        have h1 : (ps.map Prod.snd).Perm (PC.vs d) := by
          have := hps.map Prod.snd
          rw [← HD.out, List.map_map] at this
          exact this
        exact ⟨V.cnts_perm h1, V.deps_perm h1⟩)
      have HBW := Lib.hid hb
      clear hln hld hlc hlr hr1 hle1 he1 htk HM hb hl2 hdl
      generalize hg1 : V.cnts (PC.vs d) = q1 at *
      generalize hg2 : V.deps (PC.vs d) = q2 at *
      clear hg1 hg2
      go_wp2_with fail
      refine (list_calls _ _ _ _).mono ?_
      rintro e w1 ⟨rfl, hb1⟩
      have hnew := heap_alloc_new w1 (.cells #[.int .i64 3, .int .i64 0, .string ⟨#[]⟩, .slice A3 k c3, .slice none 0 0] 28)
      have hb2 := hb1.alloc hb1.size (.cells #[.int .i64 3, .int .i64 0, .string ⟨#[]⟩, .slice A3 k c3, .slice none 0 0] 28)
      have hn1 := hb1.size
      clear hb1
      go_wp2_with fail
      refine (HCO.out _ (by assumption)).mono ?_
      rintro e w2 ⟨rfl, hb3⟩
      have hnew2 := (hb3.block _ (by simp)).trans hnew
      have hb4 := hb2.trans (hb3.mono hb2.size)
      clear hb2 hb3 hnew HCO
      have p0 := boxCell hnew2 0
      have p1 := boxCell hnew2 1
      have p2 := boxCell hnew2 2
      have p3 := boxCell hnew2 3
      have p4 := boxCell hnew2 4
      simp only [List.getElem?_toArray, List.getElem?_cons_zero, List.getElem?_cons_succ] at p0 p1 p2 p3 p4
      have HNEW := Lib.hid hnew2
      clear hnew2
      have hwr : wrap64 ((1 + q1 : Nat) : Int) = 1 + (q1 : Int) := by unfold wrap64; omega
      rw [hwr]
      go_wp2_with fail
      refine (HDE.out _ (by assumption)).mono ?_
      rintro e w3 ⟨rfl, hb5⟩
      have hb6 := hb4.trans (hb5.mono hb4.size)
      clear hb4 hb5 HDE p0 p1 p2 p3 p4
      go_wp2_with fail
      refine (HAL.out _ (by assumption)).mono ?_
      rintro e w4 ⟨rfl, hb7⟩
      have hb8 := hb6.trans (hb7.mono hb6.size)
      clear hb6 hb7 HAL
      go_wp2_with fail
      refine (HMM.out _ (by assumption)).mono ?_
      rintro e w5 (⟨ps, hps, _, C', B3, d3, B4, d4, rfl, hpu, hprd⟩ | ⟨_, rfl, hb9⟩)
      · obtain ⟨hc1, hc2⟩ := HCS.out ps hps
        have hb9 := hb8.trans (hpu.below.mono hb8.size)
        have hpc : (V.ofPairs ps).cnt = 1 + q1 := by rw [V.cnt_eq, ← hc1]; rfl
        have hpd : (V.ofPairs ps).dep = q2 + 1 := by rw [V.dep_eq, ← hc2]; rfl
        have HCO := Lib.hid (fun W (h : Below w5.heap.size w5 W) => count_calls _ (V.ofPairs ps) C' W B3 d3 B4 d4 (Nat.le_refl _) (Cm.le_below hpu.le h) hprd)
        have HDE := Lib.hid (fun W (h : Below w5.heap.size w5 W) => depth_calls (V.ofPairs ps).dep (by rw [hpd]; omega) (V.ofPairs ps) C' W B3 d3 B4 d4 (Nat.le_refl _) (Cm.le_below hpu.le h) hprd)
        rw [hpc] at HCO
        rw [hpd] at HDE
        have hw5 := hb9.size
        unfold V.cells at HCO HDE ⊢
        generalize (V.ofPairs ps).items.length = z1 at *
        generalize (V.ofPairs ps).keys.length = z2 at *
        generalize (V.ofPairs ps).kind = z3 at *
        generalize (V.ofPairs ps).num = z4 at *
        generalize (V.ofPairs ps).str = z5 at *
        clear hpu hprd hc1 hc2 hpc hpd hb8 HMM
        have hnew := heap_alloc_new w5 (.cells #[.int .i64 z3, .int .i64 z4, .string z5, .slice B3 z1 d3, .slice B4 z2 d4] 28)
        have hb1 := (Below.refl w5.heap.size w5).alloc (Nat.le_refl _) (.cells #[.int .i64 z3, .int .i64 z4, .string z5, .slice B3 z1 d3, .slice B4 z2 d4] 28)
        go_wp2_with fail
        refine (HCO.out _ (by assumption)).mono ?_
        rintro e w6 ⟨rfl, hb3⟩
        have hnew2 := (hb3.block _ (by simp)).trans hnew
        have hb4 := hb1.trans (hb3.mono hb1.size)
        clear hb1 hb3 hnew HCO
        have p0 := boxCell hnew2 0
        have p1 := boxCell hnew2 1
        have p2 := boxCell hnew2 2
        have p3 := boxCell hnew2 3
        have p4 := boxCell hnew2 4
        simp only [List.getElem?_toArray, List.getElem?_cons_zero, List.getElem?_cons_succ] at p0 p1 p2 p3 p4
        clear hnew2
        rw [hwr]
        go_wp2_with fail
        refine (HDE.out _ (by assumption)).mono ?_
        rintro e w7 ⟨rfl, hb5⟩
        have hb6 := hb4.trans (hb5.mono hb4.size)
        have hb7 := HBW.out.trans ((hb9.trans (hb6.mono hb9.size)).mono hbs)
        clear hb4 hb5 HDE p0 p1 p2 p3 p4 hb6 hb9
        go_wp2_with fail
        go_ret
        exact ⟨rfl, hb7⟩
      · have hb10 := HBW.out.trans ((hb8.trans (hb9.mono hb8.size)).mono hbs)
        have hs10 := hb10.size
        clear hb8 hb9
        unfold zeroVal
        go_wp2_with fail
        go_ret
        refine ⟨rfl, ?_⟩
        go_grown
end Go.Proofs.YtbkoajipljjonaaDoor
