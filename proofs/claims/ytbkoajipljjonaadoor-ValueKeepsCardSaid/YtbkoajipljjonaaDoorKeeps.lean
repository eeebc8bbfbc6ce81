/- The law ValueKeeps: its walk. -/
import Derived.Test.YtbkoajipljjonaaDoorRefMap
import Derived.Test.YtbkoajipljjonaaDoorAlive
import Derived.Test.YtbkoajipljjonaaDoorRefCount
import Derived.Test.YtbkoajipljjonaaDoorRead
import Derived.Test.YtbkoajipljjonaaDoorHeld
import Derived.Test.YtbkoajipljjonaaDoorGetIs
import Derived.Test.YtbkoajipljjonaaDoorOwn2
import Derived.Deep.CutBlock
import Derived.Deep.DeepCutAuto
namespace Go.Proofs.YtbkoajipljjonaaDoor
open Go.RowKit Go.Shelf Go.Sort Go.Deep

/-- What Map answers. -/
def MapIs (l : List (ByteArray × V)) (M : V) (code : Int) : Prop :=
  (code = 0 ∧ (l.map Prod.fst).Nodup ∧ M = V.ofPairs (insAll l)) ∨ (code = 23 ∧ ¬ (l.map Prod.fst).Nodup ∧ M = V.zero)
theorem nodup_of_sorted {ps : List (ByteArray × V)} (hsd : ps.Pairwise (fun a b => ltB a.1 b.1 = true)) : (ps.map Prod.fst).Nodup := by
  rw [List.Nodup, List.pairwise_map]
  refine hsd.imp fun {a b} h e => ?_
  rw [e, ltB_irrefl] at h
  cases h
theorem map1_calls (C : Cm) (w : World) (A : Option Addr) (n c : Nat) (l : List (ByteArray × V)) (hn : l.length = n) (hC : C.le w) (hr : RdSl C A c 6 (pairsGv l)) (hlen : l.length ≤ 100000) :
    Calls Tryd.prog 17 #[.slice A n c] w fun e w' => ∃ (M : V) (code : Int) (C' : Cm) (A3 : Option Addr) (c3 : Nat) (A4 : Option Addr) (c4 : Nat),
      e = .returned (.tuple #[.agg #[.int .i64 M.kind, .int .i64 M.num, .string M.str, .slice A3 M.items.length c3, .slice A4 M.keys.length c4], .int .i64 code]) ∧ MapIs l M code ∧ Pure C w w' C' ∧ Rd C' M.gv (M.cells A3 c3 A4 c4) := by
  refine (map_calls C w A n c l hn hC hr hlen).mono ?_
  rintro e w' (⟨ps, hps, hsd, C', A3, c3, A4, c4, rfl, hp, hrd⟩ | ⟨hnd, rfl, hb⟩)
  · have hnod : (l.map Prod.fst).Nodup := (hps.map Prod.fst).nodup_iff.1 (nodup_of_sorted hsd)
    have hpe : ps = insAll l := sorted_unique (hps.trans (insAll_perm l).symm) hsd (insAll_sorted hnod)
    subst hpe
    exact ⟨_, 0, C', A3, c3, A4, c4, rfl, .inl ⟨rfl, hnod, rfl⟩, hp, hrd⟩
  · exact ⟨V.zero, 23, C, none, 0, none, 0, rfl, .inr ⟨rfl, hnd, rfl⟩, Pure.of_below hC hb, zero_rd C⟩
theorem MapIs.perm {l l' : List (ByteArray × V)} {M M' : V} {c c' : Int} (hp : l.Perm l') (h : MapIs l M c) (h' : MapIs l' M' c') : M = M' ∧ c = c' := by
  have hn : (l.map Prod.fst).Nodup ↔ (l'.map Prod.fst).Nodup := (hp.map Prod.fst).nodup_iff
  rcases h with ⟨h1, h2, h3⟩ | ⟨h1, h2, h3⟩ <;> rcases h' with ⟨k1, k2, k3⟩ | ⟨k1, k2, k3⟩
  · refine ⟨?_, h1.trans k1.symm⟩
    rw [h3, k3, sorted_unique ((insAll_perm l).trans (hp.trans (insAll_perm l').symm)) (insAll_sorted h2) (insAll_sorted k2)]
  · exact absurd (hn.1 h2) k2
  · exact absurd (hn.2 k2) h2
  · exact ⟨h3.trans k3.symm, h1.trans k1.symm⟩
/-- What Get finds in a map is the value that was handed in. -/
theorem MapIs.get {l : List (ByteArray × V)} {M : V} (h : MapIs l M 0) {key : ByteArray} {x v : V} {is : Bool} (hm : (key, v) ∈ l) (hg : GetIs M key x is) : is = true ∧ x = v := by
  rcases h with ⟨_, h2, rfl⟩ | ⟨h1, _⟩
  · have hmp : (key, v) ∈ insAll l := (insAll_perm l).mem_iff.2 hm
    have hnd : ((insAll l).map Prod.fst).Nodup := ((insAll_perm l).map Prod.fst).nodup_iff.2 h2
    rcases hg with ⟨h3, k, _, _, hk, _, hi⟩ | ⟨_, _, hno⟩
    · refine ⟨h3, ?_⟩
      have hk' : ((insAll l).map Prod.fst)[k]? = some key := hk
      have hi' : ((insAll l).map Prod.snd)[k]? = some x := hi
      obtain ⟨j, hj⟩ := List.mem_iff_getElem?.1 hmp
      have hjl := (List.getElem?_eq_some_iff.1 hj).1
      have hkl := (List.getElem?_eq_some_iff.1 hk').1
      have hkj : k = j := by
        have e1 : ((insAll l).map Prod.fst)[j]? = some key := by rw [List.getElem?_map, hj]; rfl
        exact (List.getElem?_inj hkl hnd).1 (hk'.trans e1.symm)
      subst hkj
      rw [List.getElem?_map, hj] at hi'
      exact (Option.some.inj hi').symm
    · refine absurd ⟨rfl, ?_, ?_⟩ hno
      · show ((insAll l).map Prod.fst).length = ((insAll l).map Prod.snd).length
        simp
      · show key ∈ (insAll l).map Prod.fst
        exact List.mem_map_of_mem (f := Prod.fst) hmp
  · cases h1
theorem get1_calls (v : V) (key : ByteArray) (C : Cm) (w : World) (A3 : Option Addr) (c3 : Nat) (A4 : Option Addr) (c4 : Nat) (hC : C.le w) (hr : Rd C v.gv (v.cells A3 c3 A4 c4)) :
    Calls Tryd.prog 18 #[.agg (v.cells A3 c3 A4 c4).toArray, .string key] w fun e w' => ∃ (x : V) (is : Bool) (B3 : Option Addr) (d3 : Nat) (B4 : Option Addr) (d4 : Nat),
      e = .returned (.tuple #[.agg #[.int .i64 x.kind, .int .i64 x.num, .string x.str, .slice B3 x.items.length d3, .slice B4 x.keys.length d4], .bool is]) ∧ GetIs v key x is ∧ Rd C x.gv (x.cells B3 d3 B4 d4) ∧ Below w.heap.size w w' := by
  refine (get_calls v key C w A3 c3 A4 c4 hC hr).mono ?_
  rintro e w' ⟨⟨k, x, h4, hlen, hk, hj, hx, B3, d3, B4, d4, rfl, hrx⟩ | ⟨hno, rfl⟩, hb⟩
  · exact ⟨x, true, B3, d3, B4, d4, rfl, .inl ⟨rfl, k, h4, hlen, hk, hj, hx⟩, hrx, hb⟩
  · exact ⟨V.zero, false, none, 0, none, 0, rfl, .inr ⟨rfl, rfl, hno⟩, zero_rd C, hb⟩

theorem OwnG.made_at (C : Cm) (w : World) (e : TypeId) (sz : Nat) {base k : Nat} (hk : k = w.heap.size) (hb : base ≤ w.heap.size) : OwnG C (w.alloc (.cells #[] e)) base e sz (.slice (some ⟨k, 0, none⟩) 0 0) [] := by subst hk; exact OwnG.made C w e sz hb
theorem rem_facts (b : Int) (m : Nat) (h1 : 1 ≤ m) (h2 : m ≤ 20) : ∃ q : Nat, q < m ∧ -20 < b.tmod m ∧ b.tmod m < 20 ∧ (b.tmod m + m).tmod m = q := by
  have hm0 : (0 : Int) < (m : Int) := by omega
  have a1 := Int.tmod_lt_of_pos b hm0
  have a2 : -(m : Int) < b.tmod m := by
    have := Int.lt_tmod_of_pos b hm0
    exact this
  have h3 : 0 ≤ (b.tmod m + m).tmod m := Int.tmod_nonneg _ (by omega)
  have h4 := Int.tmod_lt_of_pos (b.tmod m + m) hm0
  exact ⟨((b.tmod m + m).tmod m).toNat, by omega, by omega, by omega, by omega⟩

set_option maxHeartbeats 4000000 in
set_option maxRecDepth 100000 in
theorem keeps_calls (C : Cm) (w : World) (A : Option Addr) (n c : Nat) (l : List (ByteArray × V)) (bi : Int) (hn : l.length = n) (hC : C.le w) (hr : RdSl C A c 6 (pairsGv l)) (hA : A = none → c = 0) (hE : Env w) :
    Calls Tryd.prog 6 #[.slice A n c, .int .i64 bi] w fun e w' => e = .returned (.bool true) ∧ Below w.heap.size w w' := by
  have hnc : n ≤ c ∧ c ≤ maxLen := by have := hr.1; rw [pairsGv_length, hn] at this; exact ⟨this, hr.2.1⟩
  unfold maxLen at hnc
  have hr2 : RdSl C A c 6 (pairsGv (l.take (min n 20))) := by
    have := hr.take' (min n 20)
    rwa [show (pairsGv l).take (min n 20) = pairsGv (l.take (min n 20)) by simp [pairsGv]] at this
  have hl2 : (l.take (min n 20)).length = min n 20 := by rw [List.length_take, hn]; omega
  have hm20 : min n 20 ≤ 20 := Nat.min_le_right _ _
  have hmn : min n 20 ≤ n := Nat.min_le_left _ _
  have hmin : min (n : Int) 20 = ((min n 20 : Nat) : Int) := by omega
  generalize l.take (min n 20) = l2 at *
  generalize hmq : min n 20 = m at *
  have HC := Lib.hid hC
  have HR := Lib.hid hr2
  have HA := Lib.hid hA
  have HL2 := Lib.hid hl2
  have HAL := Lib.hid (fun W (h : Below w.heap.size w W) => alive11_calls W (hE.below h))
  have HPL : Hid ((pairsGv l2).length = m) := Lib.hid (by rw [pairsGv_length, hl2])
  clear hC hr hr2 hA hn hl2 hmq hE
  go_enter Tryd.func6, Tryd.ntmps6
  go_wp2_with (at_builtin; refine wpList_append_sl (C := C) (base := w.heap.size) _ _ 36 pairInfo Tryd.underlying36 (OwnG.made C w 38 6 (Nat.le_refl _)) HR.out (Cm.le_below HC.out (by go_grown)) HA.out rfl rfl rfl rfl (by decide) HPL.out ?c2 (by decide) ?c3 ?_)
  case c2 => simp; omega
  case c3 => simp
  intro v1 w1 hap
  have hB1 : Below w.heap.size w w1 := hap.below (OwnG.made C w 38 6 (Nat.le_refl _)) (by go_grown) (by simp) (Nat.le_refl _)
  have hO1 : OwnG C w1 w.heap.size 38 6 v1 (pairsGv l2) := by simpa using hap.own
  obtain ⟨A1, c1, hv1, hc1, hc1m, hA1⟩ := hO1.shape
  rw [HPL.out] at hv1 hc1
  subst hv1
  unfold maxLen at hc1m
  obtain ⟨C1, hx1, hle1, hrd1, hpl1⟩ := hO1.settle (Cm.le_below HC.out hB1) (fun g hg o => Cm.none_of HC.out hg o)
  have HB1 := Lib.hid hB1
  have HLE1 := Lib.hid hle1
  have HR1 := Lib.hid hrd1
  have HP1 := Lib.hid hpl1
  clear hap hB1 hO1 hx1 hle1 hrd1 hpl1 HR HA HC
  by_cases hm0 : m = 0
  · have hmi : (m : Int) = 0 := by omega
    have HA1 := Lib.hid hA1
    clear hA1
    go_wp2_with fail
    refine (HAL.out _ HB1.out).mono ?_
    rintro e w2 ⟨rfl, hb2⟩
    have hb3 := HB1.out.trans (hb2.mono HB1.out.size)
    clear hb2
    go_wp2_with fail
    go_ret
    exact ⟨rfl, hb3⟩
  · have hm1 : 1 ≤ m := by omega
    obtain ⟨b1, rfl⟩ : ∃ b1, A1 = some ⟨b1, 0, none⟩ := by
      rcases hA1 with ⟨_, h⟩ | h
      · omega
      · exact h
    have hmi : ((m : Int) == 0) = false := by simp; omega
    clear hA1
    obtain ⟨d, hd, hok, hcell⟩ := pairs_open HLE1.out HR1.out
    have hdl : d.length = m := by rw [← HL2.out, ← hd, List.length_map]
    have HOK := Lib.hid hok
    have HD := Lib.hid hd
    have HCELL : Hid (∀ (i : Nat) (hi : i < d.length) (j : Nat) v, (d[i]).enc[j]? = some v → w1.cell? ⟨b1, i * 6 + j, none⟩ = some v) := Lib.hid (by
      obtain ⟨b, o, hbo, hc⟩ := hcell (by intro e; have := HL2.out; rw [e] at this; simp at this; omega)
      injection hbo with hbo
      injection hbo with e1 e2 _
      subst e1 e2
      intro i hi j v hv
      have := hc i hi j v hv
      rwa [Nat.zero_add] at this)
    clear hok hd hcell
    go_wp2_with fail
    go_loopw [31] (fun i wr => ∃ k : Nat, k ≤ m ∧ i = .int .i64 k ∧ Hid (Below w1.heap.size w1 wr)) (fun i _ => m - (intOf i).toNat)
    case atStart => exact ⟨0, Nat.zero_le _, rfl, Lib.hid (Below.refl _ _)⟩
    case round =>
      obtain ⟨k, hk, rfl, HB⟩ := hrel
      have HBW := Lib.hid (HB1.out.trans (HB.out.mono HB1.out.size))
      by_cases hlt : k < m
      · have hkd : k < d.length := by omega
        obtain ⟨x, hx⟩ : ∃ x, x = d[k] := ⟨_, rfl⟩
        have hc' := HCELL.out k hkd
        rw [← hx] at hc'
        have e0 := hc' 0 (.string x.key) rfl
        have e1 := hc' 1 (.int .i64 x.v.kind) rfl
        have e2 := hc' 2 (.int .i64 x.v.num) rfl
        have e3 := hc' 3 (.string x.v.str) rfl
        have e4 := hc' 4 (.slice x.a3 x.v.items.length x.c3) rfl
        have e5 := hc' 5 (.slice x.a4 x.v.keys.length x.c4) rfl
        rw [Nat.add_zero] at e0
        replace e0 := (HB.out.cell (World.block_lt_of_cell? w1 _ e0)).trans e0
        replace e1 := (HB.out.cell (World.block_lt_of_cell? w1 _ e1)).trans e1
        replace e2 := (HB.out.cell (World.block_lt_of_cell? w1 _ e2)).trans e2
        replace e3 := (HB.out.cell (World.block_lt_of_cell? w1 _ e3)).trans e3
        replace e4 := (HB.out.cell (World.block_lt_of_cell? w1 _ e4)).trans e4
        replace e5 := (HB.out.cell (World.block_lt_of_cell? w1 _ e5)).trans e5
        have HXM : Hid (x ∈ d) := Lib.hid (by rw [hx]; exact List.getElem_mem hkd)
        have HXk : Hid (d[k]? = some x) := Lib.hid (by rw [hx]; exact List.getElem?_eq_getElem hkd)
        clear hc' hx
        have HB2 := Lib.hid (fun W (h : Below w1.heap.size w1 W) => big_calls x.v C1 W x.a3 x.c3 x.a4 x.c4 (Cm.le_below HLE1.out h) (HOK.out x HXM.out).2)
        simp only [V.cells] at HB2
        go_wp2_with fail
        refine (HB2.out _ (HB.out.alloc HB.out.size _)).mono ?_
        rintro e w4 ⟨rfl, hb4⟩
        have HB4 : Hid (Below w1.heap.size w1 w4) := Lib.hid (HB.out.trans (((Below.refl _ _).alloc (Nat.le_refl _) _).trans (hb4.mono (by simp)) |>.mono HB.out.size))
        clear hb4 e0 e1 e2 e3 e4 e5
        by_cases hbig : 2100 < x.v.cnt
        · have hbd : decide (2100 < x.v.cnt) = true := decide_eq_true hbig
          rw [hbd]
          go_wp2_with fail
          refine (HAL.out _ (HB1.out.trans (HB4.out.mono HB1.out.size))).mono ?_
          rintro e w5 ⟨rfl, hb5⟩
          have hb6 := (HB1.out.trans (HB4.out.mono HB1.out.size)).trans (hb5.mono (HB1.out.trans (HB4.out.mono HB1.out.size)).size)
          clear hb5
          go_wp2_with fail
          go_ret
          exact ⟨rfl, hb6⟩
        · have hbd : decide (2100 < x.v.cnt) = false := decide_eq_false hbig
          rw [hbd]
          go_wp2_with fail
          go_roundw
          case rel => exact ⟨k + 1, by omega, by go_num, HB4⟩
          case measure => simp [intOf]; omega
      · rename World => w2
        have hs2 := HB.out.size
        obtain ⟨q, hq, hr1, hr2, hrq⟩ := rem_facts bi m hm1 hm20
        go_wp2_with (at_builtin; refine wpList_append_sl (C := C1) (base := w2.heap.size) _ _ 36 pairInfo Tryd.underlying36 (OwnG.made C1 w2 38 6 (Nat.le_refl _)) HR1.out (Cm.le_below HLE1.out (HB.out.alloc HB.out.size _)) HP1.out.none rfl rfl rfl rfl (by decide) HPL.out ?c2 (by decide) ?c3 ?_)
        case c2 => simp; omega
        case c3 => simp
        intro v3 w3 hap
        have hB3' : Below w2.heap.size w2 w3 := hap.below (OwnG.made C1 w2 38 6 (Nat.le_refl _)) (by go_grown) (by simp) (Nat.le_refl _)
        have hB3 : Below w1.heap.size w1 w3 := HB.out.trans (hB3'.mono HB.out.size)
        have hO3 : OwnG C1 w3 w2.heap.size 38 6 v3 (pairsGv l2) := by simpa using hap.own
        obtain ⟨A3, c3, hv3, hc3, hc3m, hA3⟩ := hO3.shape
        rw [HPL.out] at hv3 hc3
        subst hv3
        unfold maxLen at hc3m
        obtain ⟨b3, rfl⟩ : ∃ b3, A3 = some ⟨b3, 0, none⟩ := by
          rcases hA3 with ⟨_, h⟩ | h
          · omega
          · exact h
        obtain ⟨C2, hx2, hle2, hrd2, _⟩ := hO3.settle (Cm.le_below HLE1.out hB3) (fun g hg o => by
          cases e : C1 g o with
          | none => rfl
          | some v => have := Cm.lt HLE1.out e; omega)
        have HB3 := Lib.hid hB3
        have HLE2 := Lib.hid hle2
        have HX2 := Lib.hid (hx2 w1.heap.size hs2)
        have HR2 := Lib.hid hrd2
        have HKEY3 : Hid (∀ (i : Nat) (hi : i < d.length), w3.cell? ⟨b3, i * 6, none⟩ = some (.string (d[i]).key)) := Lib.hid (by
          obtain ⟨d', hd', _, hcell'⟩ := pairs_open hle2 hrd2
          obtain ⟨b, o, hbo, hc⟩ := hcell' (by intro e; have := HL2.out; rw [e] at this; simp at this; omega)
          injection hbo with hbo
          injection hbo with e1 e2 _
          subst e1 e2
          intro i hi
          have hl' : d'.length = d.length := by have h1 := congrArg List.length hd'; have h2 := congrArg List.length HD.out; rw [List.length_map] at h1 h2; omega
          have h := hc i (by omega) 0 (.string (d'[i]'(by omega)).key) rfl
          have hk : (d'[i]'(by omega)).key = (d[i]).key := by
            have e1 : (d'.map PC.pair)[i]'(by rw [List.length_map]; omega) = (d.map PC.pair)[i]'(by rw [List.length_map]; omega) := by
              congr 1
              rw [hd', HD.out]
            rw [List.getElem_map, List.getElem_map] at e1
            exact congrArg Prod.fst e1
          rw [hk] at h
          rwa [Nat.zero_add, Nat.add_zero] at h)
        clear hap hB3 hB3' hO3 hx2 hle2 hrd2 hA3
        go_wp2_with fail
        refine (map1_calls C2 _ _ m c1 l2 HL2.out HLE2.out (HR1.out.ext HX2.out) (by rw [HL2.out]; omega)).mono ?_
        rintro e w4 ⟨M, ec, C3, M3, m3, M4, m4, rfl, hmi2, hpu, hrm⟩
        have HMI := Lib.hid hmi2
        have HPU := Lib.hid hpu
        have HRM := Lib.hid hrm
        clear hmi2 hpu hrm
        go_upto_region 14 with fail
        obtain ⟨w5, hw5⟩ : ∃ w5, w5 = w4.alloc (.cells #[.int .i64 M.kind, .int .i64 M.num, .string M.str, .slice M3 M.items.length m3, .slice M4 M.keys.length m4] 28) := ⟨_, rfl⟩
        rw [← hw5]
        have HB5 : Hid (Below w1.heap.size w1 w5) := Lib.hid (by rw [hw5]; exact ((HB3.out.trans (HPU.out.below.mono HB3.out.size)).alloc (by have h1 := HB3.out.size; have h2 := HPU.out.below.size; omega) _))
        have HLE3 : Hid (C3.le w5) := Lib.hid (by rw [hw5]; exact Cm.le_below HPU.out.le (by go_grown))
        have HBX : Hid (w5.heap[w4.heap.size]? = some (.cells #[.int .i64 M.kind, .int .i64 M.num, .string M.str, .slice M3 M.items.length m3, .slice M4 M.keys.length m4] 28 (0, 0))) := Lib.hid (by rw [hw5]; exact heap_alloc_new _ _)
        have hl45 : w4.heap.size < w5.heap.size := by rw [hw5]; simp
        have HX3 : Hid (Ext w1.heap.size C1 C3) := Lib.hid (HX2.out.trans (HPU.out.ext.mono HB3.out.size))
        have hs35 : w1.heap.size ≤ w5.heap.size := HB5.out.size
        have HB35 : Hid (Below w3.heap.size w3 w5) := Lib.hid (by rw [hw5]; exact HPU.out.below.alloc HPU.out.below.size _)
        clear hw5 HPU
        generalize w4.heap.size = g9 at HBX hl45 ⊢
        have hne : ¬ c1 = q := by omega
        have HDR : Hid (RdSl C3 (some ⟨b1, q * 6, none⟩) (c1 - q) 6 ((pairsGv l2).drop q)) := Lib.hid (by
          have h := (HR1.out.drop' (HP1.out) q (by omega)).1.ext HX3.out
          rw [if_neg hne] at h
          have hadd : (⟨b1, 0, none⟩ : Addr).add (q * 6) = ⟨b1, q * 6, none⟩ := by unfold Addr.add; split <;> simp_all
          simpa [hadd] using h)
        have HTK : Hid (RdSl C3 (some ⟨b1, 0, none⟩) c1 6 ((pairsGv l2).take q)) := Lib.hid ((HR1.out.take' q).ext HX3.out)
        have hqi : (0 : Int) ≤ (q : Int) := by omega
        have hqm : (q : Int) ≤ (m : Int) := by omega
        have hqc : (q : Int) ≤ (c1 : Int) := by omega
        have hqn : q ≤ m := by omega
        have HROT : Hid (((pairsGv l2).drop q ++ (pairsGv l2).take q) = pairsGv (l2.drop q ++ l2.take q)) := Lib.hid (by simp [pairsGv])
        have HRL : Hid ((l2.drop q ++ l2.take q).length = m) := Lib.hid (by have := HL2.out; simp; omega)
        go_cut [11, 12] (fun x11 i12 wx => ∃ (g : Nat) (fc : Int) (M' : V) (C5 : Cm) (N3 : Option Addr) (n3 : Nat) (N4 : Option Addr) (n4 : Nat), x11 = .pointer (some ⟨g, 0, none⟩) ∧ i12 = .int .i64 fc ∧ Hid (MapIs (l2.drop q ++ l2.take q) M' fc) ∧ Hid (wx.heap[g]? = some (.cells #[.int .i64 M'.kind, .int .i64 M'.num, .string M'.str, .slice N3 M'.items.length n3, .slice N4 M'.keys.length n4] 28 (0, 0))) ∧ Hid (Rd C5 M'.gv (M'.cells N3 n3 N4 n4)) ∧ Hid (Ext w5.heap.size C3 C5) ∧ Hid (C5.le wx) ∧ Hid (Below w5.heap.size w5 wx) ∧ w5.heap.size ≤ g)
        case first =>
          --[[
          go_wp2_with fail
          first
          | (go_region_law (first
            | (refine step_append_sl (C := C3) (base := w5.heap.size) (es := []) (.tmp 56) (.tmp 59) 36 pairInfo Tryd.underlying36 ((OwnG.made_at C3 (World.alloc w5 _) _ 6 (by simp) (by simp)).drew) HDR.out (Cm.le_below HLE3.out (by go_grown)) (fun e => by cases e) rfl rfl rfl rfl (by decide) (by rw [List.length_drop, HPL.out]) (by first | omega | (simp; done) | (simp; omega)) (by decide) (by first | omega | (simp; done) | (simp; omega)) ?_; rintro v6 w6 hap6; (have hb6 : Below w5.heap.size w5 w6 := (by go_grown : Below w5.heap.size w5 _).grown hap6.grown (by first | omega | (simp; done) | (simp; omega)) (fun j hj => by simp only [Value.ownBlock, Option.some.injEq] at hj; omega)); (have ho6 := hap6.own); (have hs6 := hb6.size); (have hbx6 : w6.heap[w5.heap.size]? = some (.cells #[.int .i64 0, .int .i64 0, .string ⟨#[]⟩, .slice none 0 0, .slice none 0 0] 28 (0, 0)) := (hap6.grown.block _ (by first | omega | (simp; done) | (simp; omega)) (by simp [Value.ownBlock])).trans ((Below.heap_alloc _ _ _ (by simp)).trans (heap_alloc_new w5 _))); (have hnx6 : ∀ k, v6.ownBlock = some k → k ≠ w5.heap.size := fun k hk e => by have h := hap6.fresh k hk; simp [Value.ownBlock] at h; omega); (have hkb : w5.heap.size < w6.heap.size := (Array.getElem?_eq_some_iff.1 hbx6).1); (have hkb5 : w5.heap.size ≤ w5.heap.size := Nat.le_refl _))
            | (refine step_append_sl (C := C3) (base := w5.heap.size) (es := []) (.tmp 56) (.tmp 59) 36 pairInfo Tryd.underlying36 (((OwnG.made_at C3 w5 _ 6 rfl (Nat.le_refl _)).alloc _).drew) HDR.out (Cm.le_below HLE3.out (by go_grown)) (fun e => by cases e) rfl rfl rfl rfl (by decide) (by rw [List.length_drop, HPL.out]) (by first | omega | (simp; done) | (simp; omega)) (by decide) (by first | omega | (simp; done) | (simp; omega)) ?_; rintro v6 w6 hap6; (have hb6 : Below w5.heap.size w5 w6 := (by go_grown : Below w5.heap.size w5 _).grown hap6.grown (by first | omega | (simp; done) | (simp; omega)) (fun j hj => by simp only [Value.ownBlock, Option.some.injEq] at hj; omega)); (have ho6 := hap6.own); (have hs6 := hb6.size); (have hbx6 : w6.heap[w5.heap.size + 1]? = some (.cells #[.int .i64 0, .int .i64 0, .string ⟨#[]⟩, .slice none 0 0, .slice none 0 0] 28 (0, 0)) := (hap6.grown.block _ (by first | omega | (simp; done) | (simp; omega)) (by simp [Value.ownBlock])).trans (heap_alloc_at (by simp) _)); (have hnx6 : ∀ k, v6.ownBlock = some k → k ≠ w5.heap.size + 1 := fun k hk e => by have h := hap6.fresh k hk; simp [Value.ownBlock] at h; omega); (have hkb : w5.heap.size + 1 < w6.heap.size := (Array.getElem?_eq_some_iff.1 hbx6).1); (have hkb5 : w5.heap.size ≤ w5.heap.size + 1 := Nat.le_succ _))
            | (refine step_append_sl (C := C3) (base := w5.heap.size) (es := []) (.tmp 56) (.tmp 59) 36 pairInfo Tryd.underlying36 ((OwnG.made_at C3 w5 _ 6 rfl (Nat.le_refl _)).drew) HDR.out (Cm.le_below HLE3.out (by go_grown)) (fun e => by cases e) rfl rfl rfl rfl (by decide) (by rw [List.length_drop, HPL.out]) (by first | omega | (simp; done) | (simp; omega)) (by decide) (by first | omega | (simp; done) | (simp; omega)) ?_; rintro v6 w6 hap6; (have hb6 : Below w5.heap.size w5 w6 := (by go_grown : Below w5.heap.size w5 _).grown hap6.grown (by first | omega | (simp; done) | (simp; omega)) (fun j hj => by simp only [Value.ownBlock, Option.some.injEq] at hj; omega)); (have ho6 := hap6.own); (have hs6 := hb6.size))
            | (refine step_append_sl (C := C3) (base := w5.heap.size) (.tmp 60) (.tmp 63) 36 pairInfo Tryd.underlying36 (ho6.alloc _) HTK.out (Cm.le_below HLE3.out (hb6.alloc hb6.size _)) (fun e => by cases e) rfl rfl rfl rfl (by decide) (by rw [List.length_take, HPL.out]; omega) (by simp [HPL.out]; omega) (by decide) (by first | omega | (simp; done) | (simp; omega)) ?_; rintro v7 w7 hap7; (have hb7 : Below w5.heap.size w5 w7 := (hb6.alloc hb6.size _).grown hap7.grown (by first | omega | (simp; done) | (simp; omega)) (fun j hj => (ho6.block j hj).1)); (have hs7 := hb7.size); (have ho7 : OwnG C3 w7 w5.heap.size 38 6 v7 (pairsGv (l2.drop q ++ l2.take q)) := by rw [← HROT.out]; simpa using hap7.own); (have hbx7 : w7.heap[w6.heap.size]? = some (.cells #[.int .i64 0, .int .i64 0, .string ⟨#[]⟩, .slice none 0 0, .slice none 0 0] 28 (0, 0)) := (hap7.grown.block _ (by simp) (fun e => by have h := ho6.block _ e.symm; omega)).trans (heap_alloc_new w6 _)); (have hkb7 : w6.heap.size < w7.heap.size := (Array.getElem?_eq_some_iff.1 hbx7).1); (have hkb5 : w5.heap.size ≤ w6.heap.size := hs6); (have hnx7 : ∀ k, v7.ownBlock = some k → k ≠ w6.heap.size := fun k hk e => (hap7.fresh k hk).elim (fun h => by have := ho6.block k h; omega) (fun h => absurd h (by rw [e]; simp))); (have z0 := (boxCell hbx7 0).trans rfl); (have y0 := boxFroz hbx7 0); (have z1 := (boxCell hbx7 1).trans rfl); (have y1 := boxFroz hbx7 1); (have z2 := (boxCell hbx7 2).trans rfl); (have y2 := boxFroz hbx7 2); (have z3 := (boxCell hbx7 3).trans rfl); (have y3 := boxFroz hbx7 3); (have z4 := (boxCell hbx7 4).trans rfl); (have y4 := boxFroz hbx7 4))
            | (refine step_append_sl (C := C3) (base := w5.heap.size) (.tmp 60) (.tmp 63) 36 pairInfo Tryd.underlying36 (ho6) HTK.out (Cm.le_below HLE3.out hb6) (fun e => by cases e) rfl rfl rfl rfl (by decide) (by rw [List.length_take, HPL.out]; omega) (by simp [HPL.out]; omega) (by decide) (by first | omega | (simp; done) | (simp; omega)) ?_; rintro v7 w7 hap7; (have hb7 : Below w5.heap.size w5 w7 := hb6.grown hap7.grown hb6.size (fun j hj => (ho6.block j hj).1)); (have hs7 := hb7.size); (have ho7 : OwnG C3 w7 w5.heap.size 38 6 v7 (pairsGv (l2.drop q ++ l2.take q)) := by rw [← HROT.out]; simpa using hap7.own); (have hbx7 := (hap7.grown.block _ hkb (fun e => hnx6 _ e.symm rfl)).trans hbx6); (have hkb7 := (Array.getElem?_eq_some_iff.1 hbx7).1); (have hnx7 := fun k (hk : v7.ownBlock = some k) e => (hap7.fresh k hk).elim (fun h => hnx6 k h e) (fun h => absurd hkb (by rw [← e]; omega))); (have z0 := (boxCell hbx7 0).trans rfl); (have y0 := boxFroz hbx7 0); (have z1 := (boxCell hbx7 1).trans rfl); (have y1 := boxFroz hbx7 1); (have z2 := (boxCell hbx7 2).trans rfl); (have y2 := boxFroz hbx7 2); (have z3 := (boxCell hbx7 3).trans rfl); (have y3 := boxFroz hbx7 3); (have z4 := (boxCell hbx7 4).trans rfl); (have y4 := boxFroz hbx7 4))
            | (refine step_append_sl (C := C3) (base := w5.heap.size) (.tmp 60) (.tmp 63) 36 pairInfo Tryd.underlying36 (ho6) HTK.out (Cm.le_below HLE3.out hb6) (fun e => by cases e) rfl rfl rfl rfl (by decide) (by rw [List.length_take, HPL.out]; omega) (by simp [HPL.out]; omega) (by decide) (by first | omega | (simp; done) | (simp; omega)) ?_; rintro v7 w7 hap7; (have hb7 : Below w5.heap.size w5 w7 := hb6.grown hap7.grown hb6.size (fun j hj => (ho6.block j hj).1)); (have hs7 := hb7.size); (have ho7 : OwnG C3 w7 w5.heap.size 38 6 v7 (pairsGv (l2.drop q ++ l2.take q)) := by rw [← HROT.out]; simpa using hap7.own))
            | (obtain ⟨A7, c7, hv7, hc7, hc7m, hA7⟩ := ho7.shape; rw [pairsGv_length, HRL.out] at hv7; subst hv7; obtain ⟨C4, hx4, hle4, hrd4, _, hoth4⟩ := ho7.settle2 (Cm.le_below HLE3.out hb7) (fun g hg o => Cm.none_of HLE3.out (ho7.block g hg).1 o); go_simp; go_at_call 17; refine (map1_calls C4 (w7.alloc _) A7 m c7 (l2.drop q ++ l2.take q) HRL.out (Cm.le_below hle4 (by go_grown)) hrd4 (by rw [HRL.out]; omega)).mono ?_; rintro e w8 ⟨M', fc, C5, N3, n3, N4, n4, rfl, hmi8, hpu8, hrm8⟩; (have hb8 : Below w5.heap.size w5 w8 := (hb7.alloc hb7.size _).trans (hpu8.below.mono (by first | omega | (simp; done) | (simp; omega)))); obtain ⟨hc8, hf8⟩ := bcell hpu8.below; (have hs8 := hpu8.below.size); (have hkb5 : w5.heap.size ≤ w7.heap.size := hs7); (have hbx8 := (hpu8.below.block w7.heap.size (by simp)).trans (heap_alloc_new w7 _)); (have hn5 : ∀ o, C5 w7.heap.size o = none := fun o => (hpu8.ext.old _ o (by simp)).trans ((hoth4 _ o (fun e => by have := (ho7.block _ e).2; omega)).trans (Cm.none_of HLE3.out hs7 o))))
            | (obtain ⟨A7, c7, hv7, hc7, hc7m, hA7⟩ := ho7.shape; rw [pairsGv_length, HRL.out] at hv7; subst hv7; obtain ⟨C4, hx4, hle4, hrd4, _, hoth4⟩ := ho7.settle2 (Cm.le_below HLE3.out hb7) (fun g hg o => Cm.none_of HLE3.out (ho7.block g hg).1 o); go_simp; go_at_call 17; refine (map1_calls C4 (w7) A7 m c7 (l2.drop q ++ l2.take q) HRL.out (hle4) hrd4 (by rw [HRL.out]; omega)).mono ?_; rintro e w8 ⟨M', fc, C5, N3, n3, N4, n4, rfl, hmi8, hpu8, hrm8⟩; (have hb8 : Below w5.heap.size w5 w8 := hb7.trans (hpu8.below.mono hb7.size)); (have hn5 := fun o => (hpu8.ext.old _ o hkb7).trans ((hoth4 _ o (fun e => hnx7 _ e rfl)).trans (Cm.none_of HLE3.out hkb5 o))); (have hbx8 := (hpu8.below.block _ hkb7).trans hbx7); obtain ⟨hc8, hf8⟩ := bcell hpu8.below; (have hs8 := hpu8.below.size))
            | (obtain ⟨A7, c7, hv7, hc7, hc7m, hA7⟩ := ho7.shape; rw [pairsGv_length, HRL.out] at hv7; subst hv7; obtain ⟨C4, hx4, hle4, hrd4, _, hoth4⟩ := ho7.settle2 (Cm.le_below HLE3.out hb7) (fun g hg o => Cm.none_of HLE3.out (ho7.block g hg).1 o); go_simp; go_at_call 17; refine (map1_calls C4 (w7) A7 m c7 (l2.drop q ++ l2.take q) HRL.out (hle4) hrd4 (by rw [HRL.out]; omega)).mono ?_; rintro e w8 ⟨M', fc, C5, N3, n3, N4, n4, rfl, hmi8, hpu8, hrm8⟩; (have hb8 : Below w5.heap.size w5 w8 := hb7.trans (hpu8.below.mono hb7.size)); obtain ⟨hc8, hf8⟩ := bcell hpu8.below; (have hs8 := hpu8.below.size))
            | fail))
          | fail
          all_goals
            have HMI8 := Lib.hid hmi8
            have HRM8 := Lib.hid hrm8
            have HX8 : Hid (Ext w5.heap.size C3 C5) := Lib.hid ((hx4 _ (Nat.le_refl _)).trans (hpu8.ext.mono (by first | exact hs7 | (simp; omega))))
            have HPU8 := Lib.hid hpu8.le
            have HB8 := Lib.hid hb8
          all_goals
            first
            | (have HBX8 := Lib.hid hbx8
               have HN5 := Lib.hid hn5
               have HKB := Lib.hid hkb5
               clear hmi8 hrm8 hpu8 hb8 hbx8 hn5 hx4 hle4 hrd4 hoth4 hap6 hap7 ho6 ho7
               go_wp2_with fail
               go_meet
               case rel => exact ⟨_, fc, M', C5, N3, n3, N4, n4, rfl, rfl, HMI8, Lib.hid (heap_setCell_own (heap_setCell_own (heap_setCell_own (heap_setCell_own (heap_setCell_own HBX8.out 0 _) 1 _) 2 _) 3 _) 4 _), HRM8, HX8,
                 Lib.hid (Cm.le_grown HPU8.out (grownBy_trans (grownBy_trans (grownBy_trans (grownBy_trans (grownBy_setCell _ _ _ _) (grownBy_setCell _ _ _ _)) (grownBy_setCell _ _ _ _)) (grownBy_setCell _ _ _ _)) (grownBy_setCell _ _ _ _)) (fun g e o => by injection e with e; rw [← e]; exact HN5.out o)),
                 Lib.hid (HB8.out.trans (below_of_grownBy (grownBy_trans (grownBy_trans (grownBy_trans (grownBy_trans (grownBy_setCell _ _ _ _) (grownBy_setCell _ _ _ _)) (grownBy_setCell _ _ _ _)) (grownBy_setCell _ _ _ _)) (grownBy_setCell _ _ _ _)) HB8.out.size HKB.out)), HKB.out⟩)
            | (clear hmi8 hrm8 hpu8 hb8 hx4 hle4 hrd4 hoth4 hap6 hap7 ho6 ho7
               go_wp2_with fail
               go_meet
               case rel => exact ⟨w8.heap.size, fc, M', C5, N3, n3, N4, n4, rfl, rfl, HMI8, Lib.hid (heap_alloc_new _ _), HRM8, HX8, Lib.hid (Cm.le_below HPU8.out (by go_grown)), Lib.hid (HB8.out.alloc HB8.out.size _), HB8.out.size⟩)
          --]]
        case rest =>
          obtain ⟨g11, fc, M', C5, N3, n3, N4, n4, rfl, rfl, HMI8, HBM, HRM8, HX8, HLE5, HB8, hg11⟩ := hcut
          rename World => w9
          have hpm : l2.Perm (l2.drop q ++ l2.take q) := by
            have := List.perm_append_comm (l₁ := l2.take q) (l₂ := l2.drop q)
            rwa [List.take_append_drop] at this
          obtain ⟨hMM, hcc⟩ := HMI.out.perm hpm HMI8.out
          subst hMM hcc
          clear hpm HMI8 HDR HTK HROT HRL
          have HRA := Lib.hid (HRM.out.ext HX8.out)
          clear HRM
          have hs9 := HB8.out.size
          have HBA : Hid (w9.heap[g9]? = some (.cells #[.int .i64 M.kind, .int .i64 M.num, .string M.str, .slice M3 M.items.length m3, .slice M4 M.keys.length m4] 28 (0, 0))) := Lib.hid ((HB8.out.block _ hl45).trans HBX.out)
          have HB9 : Hid (Below w1.heap.size w1 w9) := Lib.hid (HB5.out.trans (HB8.out.mono hs35))
          have HX9 : Hid (Ext w1.heap.size C1 C5) := Lib.hid (HX3.out.trans (HX8.out.mono hs35))
          have HB13 : Hid (w9.heap.size = w9.heap.size) := Lib.hid rfl
          have HB39 : Hid (Below w3.heap.size w3 w9) := Lib.hid (HB35.out.trans (HB8.out.mono HB35.out.size))
          clear HBX hne hqi hqm hqc hqn hrq hr1 hr2 hq
          go_wp2_with fail
          refine (HAL.out _ (HB1.out.trans (HB9.out.mono HB1.out.size))).mono ?_
          rintro e w10 ⟨rfl, hb10⟩
          have HB10 := Lib.hid (HB9.out.trans (hb10.mono HB9.out.size))
          have HBA2 := Lib.hid ((hb10.block _ (Array.getElem?_eq_some_iff.1 HBA.out).1).trans HBA.out)
          have HBM2 := Lib.hid ((hb10.block _ (Array.getElem?_eq_some_iff.1 HBM.out).1).trans HBM.out)
          have HLE10 := Lib.hid (Cm.le_below HLE5.out hb10)
          have HB310 : Hid (Below w3.heap.size w3 w10) := Lib.hid (HB39.out.trans (hb10.mono HB39.out.size))
          clear hb10 HBA HBM HB8 HLE5 HB39 HB13
          go_wp2_with fail
          go_loopw [77] (fun i wr => ∃ k : Nat, k ≤ m ∧ i = .int .i64 k ∧ Hid (Below w10.heap.size w10 wr)) (fun i _ => m - (intOf i).toNat)
          case atStart => exact ⟨0, Nat.zero_le _, rfl, Lib.hid (Below.refl _ _)⟩
          case round =>
            rename World => wo
            obtain ⟨k, hk, rfl, HB⟩ := hrel
            have HBW : Hid (Below w1.heap.size w1 wo) := Lib.hid (HB10.out.trans (HB.out.mono HB10.out.size))
            by_cases hlt : k < m
            · have hkd : k < d.length := by omega
              obtain ⟨x, hx⟩ : ∃ x, x = d[k] := ⟨_, rfl⟩
              have hc' := HCELL.out k hkd
              rw [← hx] at hc'
              have e0 := hc' 0 (.string x.key) rfl
              have e1 := hc' 1 (.int .i64 x.v.kind) rfl
              have e2 := hc' 2 (.int .i64 x.v.num) rfl
              have e3 := hc' 3 (.string x.v.str) rfl
              have e4 := hc' 4 (.slice x.a3 x.v.items.length x.c3) rfl
              have e5 := hc' 5 (.slice x.a4 x.v.keys.length x.c4) rfl
              rw [Nat.add_zero] at e0
              replace e0 := (HBW.out.cell (World.block_lt_of_cell? w1 _ e0)).trans e0
              replace e1 := (HBW.out.cell (World.block_lt_of_cell? w1 _ e1)).trans e1
              replace e2 := (HBW.out.cell (World.block_lt_of_cell? w1 _ e2)).trans e2
              replace e3 := (HBW.out.cell (World.block_lt_of_cell? w1 _ e3)).trans e3
              replace e4 := (HBW.out.cell (World.block_lt_of_cell? w1 _ e4)).trans e4
              replace e5 := (HBW.out.cell (World.block_lt_of_cell? w1 _ e5)).trans e5
              have HXM : Hid (x ∈ d) := Lib.hid (by rw [hx]; exact List.getElem_mem hkd)
              have HXk : Hid (d[k]? = some x) := Lib.hid (by rw [hx]; exact List.getElem?_eq_getElem hkd)
              clear hc' hx
              have hf0 := HKEY3.out k hkd
              have hxd : d[k] = x := by have := HXk.out; rw [List.getElem?_eq_getElem hkd] at this; injection this
              rw [hxd] at hf0
              have f0 := (HB310.out.cell (World.block_lt_of_cell? w3 _ hf0)).trans hf0
              have hfl := World.block_lt_of_cell? w10 _ f0
              replace f0 := (HB.out.cell hfl).trans f0
              have hfl2 : b3 < wo.heap.size := by have := HB.out.size; simp only at hfl; omega
              have hxm : (x.key, x.v) ∈ l2 := by rw [← HD.out]; exact List.mem_map_of_mem (f := PC.pair) HXM.out
              have HXL := Lib.hid hxm
              have hkc3 : k < c3 := by omega
              have hki : (0 : Int) ≤ (k : Int) := by omega
              have hkmi : (k : Int) < (m : Int) := by omega
              clear hf0 hxd hfl hxm
              go_wp2_with fail
              obtain ⟨wa, hwa⟩ : ∃ wa, wa = wo.alloc (.cells #[.string x.key, .int .i64 x.v.kind, .int .i64 x.v.num, .string x.v.str, .slice x.a3 x.v.items.length x.c3, .slice x.a4 x.v.keys.length x.c4] 38) := ⟨_, rfl⟩
              rw [← hwa]
              have hpk : wa.heap[wo.heap.size]? = some (.cells #[.string x.key, .int .i64 x.v.kind, .int .i64 x.v.num, .string x.v.str, .slice x.a3 x.v.items.length x.c3, .slice x.a4 x.v.keys.length x.c4] 38 (0, 0)) := by rw [hwa]; exact heap_alloc_new _ _
              have HPK := Lib.hid hpk
              have HBA3 : Hid (Below w10.heap.size w10 wa) := Lib.hid (by rw [hwa]; exact HB.out.alloc HB.out.size _)
              have f1 : wa.cell? ⟨b3, k * 6, none⟩ = some (.string x.key) := by rw [hwa, World.cell?_alloc_past _ _ _ hfl2]; exact f0
              have hoa : wo.heap.size < wa.heap.size := by rw [hwa]; simp
              clear hwa e0 e1 e2 e3 e4 e5 f0 HB HBW hfl2
              have p0 := boxCell hpk 0
              simp only [List.getElem?_toArray, List.getElem?_cons_zero] at p0
              clear hpk
              generalize wo.heap.size = gp at HPK hoa p0 ⊢
              go_quiet (fail)
              clear f1 p0
              have HGA := Lib.hid ((HBA3.out.block _ (Array.getElem?_eq_some_iff.1 HBA2.out).1).trans HBA2.out)
              have hga := (Array.getElem?_eq_some_iff.1 HGA.out).1
              have hbn : Below w10.heap.size w10 (wa.drewN nq) := below_pw HBA3.out nq
              have HGN : Hid ((wa.drewN nq).heap[g9]? = some (.cells #[.int .i64 M.kind, .int .i64 M.num, .string M.str, .slice M3 M.items.length m3, .slice M4 M.keys.length m4] 28 (0, 0))) := Lib.hid HGA.out
              have HPN : Hid ((wa.drewN nq).heap[gp]? = some (.cells #[.string x.key, .int .i64 x.v.kind, .int .i64 x.v.num, .string x.v.str, .slice x.a3 x.v.items.length x.c3, .slice x.a4 x.v.keys.length x.c4] 38 (0, 0))) := Lib.hid HPK.out
              have HBN := Lib.hid hbn
              have hsn : (wa.drewN nq).heap.size = wa.heap.size := rfl
              clear HGA HPK hbn HBA3
              generalize wa.drewN nq = wn at HGN HPN HBN hsn ⊢
              have q0 := boxCell HGN.out 0
              have q1 := boxCell HGN.out 1
              have q2 := boxCell HGN.out 2
              have q3 := boxCell HGN.out 3
              have q4 := boxCell HGN.out 4
              simp only [List.getElem?_toArray, List.getElem?_cons_zero, List.getElem?_cons_succ] at q0 q1 q2 q3 q4
              have p0 := boxCell HPN.out 0
              have p1 := boxCell HPN.out 1
              have p2 := boxCell HPN.out 2
              have p3 := boxCell HPN.out 3
              have p4 := boxCell HPN.out 4
              have p5 := boxCell HPN.out 5
              simp only [List.getElem?_toArray, List.getElem?_cons_zero, List.getElem?_cons_succ] at p0 p1 p2 p3 p4 p5
              go_wp2_with fail
              refine (get1_calls M x.key C5 _ M3 m3 M4 m4 (Cm.le_below HLE10.out HBN.out) HRA.out).mono ?_
              rintro e w11 ⟨X, is, X3, x3, X4, x4, rfl, hgi, hxr, hb11⟩
              have HBN2 := Lib.hid (HBN.out.trans (hb11.mono HBN.out.size))
              have HPN2 := Lib.hid ((hb11.block _ (by omega)).trans HPN.out)
              have hs11 := hb11.size
              have HGI := Lib.hid hgi
              have HXR := Lib.hid hxr
              clear q0 q1 q2 q3 q4 p0 p1 p2 p3 p4 p5 hgi hxr hb11 HBN HPN HGN
              rcases HMI.out with ⟨hec, hnd, hMe⟩ | ⟨hec, hnd, hMe⟩
              · obtain ⟨rfl, rfl⟩ := MapIs.get (Or.inl ⟨rfl, hnd, hMe⟩) HXL.out HGI.out
                clear hnd hMe
                subst hec
                have HSM := Lib.hid (fun W (h : Below w10.heap.size w10 W) => same_calls x.v.dep x.v x.v C5 W X3 x3 X4 x4 x.a3 x.c3 x.a4 x.c4 (Nat.le_refl _) (Cm.le_below HLE10.out h) HXR.out ((HOK.out x HXM.out).2.ext HX9.out))
                simp only [V.cells] at HSM
                have p0 := boxCell HPN2.out 0
                have p1 := boxCell HPN2.out 1
                have p2 := boxCell HPN2.out 2
                have p3 := boxCell HPN2.out 3
                have p4 := boxCell HPN2.out 4
                have p5 := boxCell HPN2.out 5
                simp only [List.getElem?_toArray, List.getElem?_cons_zero, List.getElem?_cons_succ] at p0 p1 p2 p3 p4 p5
                have hpl := (Array.getElem?_eq_some_iff.1 HPN2.out).1
                go_wp2_with fail
                refine (HSM.out _ (HBN2.out.alloc HBN2.out.size _)).mono ?_
                rintro e w12 ⟨⟨bb, rfl, hbb⟩, hb12⟩
                obtain rfl := hbb.2 trivial
                have HBN3 := Lib.hid ((HBN2.out.alloc HBN2.out.size _).trans (hb12.mono (by have := HBN2.out.size; simp; omega)))
                clear hbb hb12 p0 p1 p2 p3 p4 p5
                go_wp2_with fail
                go_roundw
                case rel => exact ⟨k + 1, by omega, by go_num, HBN3⟩
                case measure => simp [intOf]; omega
              · clear hnd hMe
                subst hec
                have HBN3 := Lib.hid (fun o => HBN2.out.alloc HBN2.out.size o)
                go_wp2_with fail
                go_roundw
                case rel => exact ⟨k + 1, by omega, by go_num, Lib.hid (HBN3.out _)⟩
                case measure => simp [intOf]; omega
            · have HBF := Lib.hid (HB1.out.trans (HB10.out.trans (HB.out.mono HB10.out.size) |>.mono HB1.out.size))
              rcases HMI.out with ⟨hec, hnd, hMe⟩ | ⟨hec, hnd, hMe⟩
              · clear hnd hMe
                subst hec
                have HGA := Lib.hid ((HB.out.block _ (Array.getElem?_eq_some_iff.1 HBA2.out).1).trans HBA2.out)
                have HGM := Lib.hid ((HB.out.block _ (Array.getElem?_eq_some_iff.1 HBM2.out).1).trans HBM2.out)
                have HSM := Lib.hid (fun W (h : Below w10.heap.size w10 W) => same_calls M.dep M M C5 W M3 m3 M4 m4 N3 n3 N4 n4 (Nat.le_refl _) (Cm.le_below HLE10.out h) HRA.out HRM8.out)
                simp only [V.cells] at HSM
                have p0 := boxCell HGA.out 0
                have p1 := boxCell HGA.out 1
                have p2 := boxCell HGA.out 2
                have p3 := boxCell HGA.out 3
                have p4 := boxCell HGA.out 4
                simp only [List.getElem?_toArray, List.getElem?_cons_zero, List.getElem?_cons_succ] at p0 p1 p2 p3 p4
                have q0 := boxCell HGM.out 0
                have q1 := boxCell HGM.out 1
                have q2 := boxCell HGM.out 2
                have q3 := boxCell HGM.out 3
                have q4 := boxCell HGM.out 4
                simp only [List.getElem?_toArray, List.getElem?_cons_zero, List.getElem?_cons_succ] at q0 q1 q2 q3 q4
                go_wp2_with fail
                refine (HSM.out _ HB.out).mono ?_
                rintro e w12 ⟨⟨bb, rfl, hbb⟩, hb12⟩
                obtain rfl := hbb.2 trivial
                have hbz := HBF.out.trans (hb12.mono HBF.out.size)
                clear hbb hb12 p0 p1 p2 p3 p4 q0 q1 q2 q3 q4
                go_wp2_with fail
                go_ret
                exact ⟨rfl, hbz⟩
              · clear hnd hMe
                subst hec
                go_wp2_with fail
                go_ret
                exact ⟨rfl, HBF.out⟩
end Go.Proofs.YtbkoajipljjonaaDoor
