/- The reference's Map: pairs put in, one by one, each at its place. -/
import Derived.Test.YtbkoajipljjonaaDoorIns
import Derived.Test.YtbkoajipljjonaaDoorLists
import Derived.Deep.CutBlock
import Derived.Deep.DeepCutAuto
namespace Go.Proofs.YtbkoajipljjonaaDoor
open Go.RowKit Go.Shelf Go.Sort Go.Deep

/-- What the loop has come to: the value so far lies settled, but for the variable itself. -/
structure RM (C : Cm) (w : World) (b2 b3 : Nat) (ps : List (ByteArray × V)) (k : Nat) (A3 : Option Addr) (c3 : Nat) (A4 : Option Addr) (c4 : Nat) (Ck : Cm) (wr : World) : Prop where
  ext : Ext w.heap.size C Ck
  le : Ck.le wr
  free : ∀ o, Ck b3 o = none
  free2 : ∀ o, Ck b2 o = none
  box : wr.heap[b3]? = some (.cells #[.int .i64 4, .int .i64 0, .string ⟨#[]⟩, .slice A3 k c3, .slice A4 k c4] 28 (0, 0))
  res : wr.heap[b2]? = some (.cells #[.int .i64 0, .int .i64 0, .string ⟨#[]⟩, .slice none 0 0, .slice none 0 0] 28 (0, 0))
  len : ps.length = k
  its : RdSl Ck A3 c3 5 (V.gvs (ps.map Prod.snd))
  kys : RdSl Ck A4 c4 1 (strsGv (ps.map Prod.fst))
  pl3 : Plain A3 c3
  pl4 : Plain A4 c4
  bel : Below w.heap.size w wr

set_option maxHeartbeats 4000000 in
set_option maxRecDepth 100000 in
theorem refMap_calls (C : Cm) (w : World) (A : Option Addr) (n c : Nat) (l : List (ByteArray × V)) (hn : l.length = n) (hC : C.le w) (hr : RdSl C A c 6 (pairsGv l)) (hlen : l.length ≤ 100000) :
    Calls Tryd.prog 20 #[.slice A n c] w fun e w' =>
      ∃ C' A3 c3 A4 c4, e = .returned (.agg ((V.ofPairs (insAll l)).cells A3 c3 A4 c4).toArray) ∧ Pure C w w' C' ∧ Rd C' (V.ofPairs (insAll l)).gv ((V.ofPairs (insAll l)).cells A3 c3 A4 c4) := by
  obtain ⟨i8, hi8, hz8⟩ : ∃ i, Tryd.prog.info? 28 = some i ∧ (i.zero.map Value.cells |>.map Array.size, i.size, i.bytes) = (some 5, 5, 80) := Option.map_eq_some_iff.1 info28
  simp only [Prod.mk.injEq, Option.map_eq_some_iff] at hz8
  obtain ⟨⟨_, ⟨z8, hz80, rfl⟩, hz8s⟩, hz81, hz82⟩ := hz8
  obtain ⟨i9, hi9, hz9⟩ : ∃ i, Tryd.prog.info? 9 = some i ∧ (i.zero.map Value.cells |>.map Array.size, i.size, i.bytes) = (some 1, 1, 16) := Option.map_eq_some_iff.1 info9
  simp only [Prod.mk.injEq, Option.map_eq_some_iff] at hz9
  obtain ⟨⟨_, ⟨z9, hz90, rfl⟩, hz9s⟩, hz91, hz92⟩ := hz9
  have hnc : n ≤ c ∧ c ≤ maxLen := by have := hr.1; rw [pairsGv_length, hn] at this; exact ⟨this, hr.2.1⟩
  unfold maxLen at hnc
  obtain ⟨d, hd, hok, hcell⟩ := pairs_open hC hr
  have hdl : d.length = n := by rw [← hn, ← hd, List.length_map]
  have hn1 : n ≤ 100000 := by omega
  have HC := Lib.hid hC
  have HN := Lib.hid hn
  have HOK := Lib.hid hok
  have HD := Lib.hid hd
  have HCELL := Lib.hid hcell
  clear hC hn hok hd hcell hr hlen
  go_enter Tryd.func20, Tryd.ntmps20
  go_wp2_with fail
  have hst : RM C w w.heap.size (w.heap.size + 1) (insAll (l.take 0)) 0 none 0 none 0 C ((w.alloc (.cells #[.int .i64 0, .int .i64 0, .string ⟨#[]⟩, .slice none 0 0, .slice none 0 0] 28)).alloc (.cells #[.int .i64 4, .int .i64 0, .string ⟨#[]⟩, .slice none 0 0, .slice none 0 0] 28)) := by
    have hb : Below w.heap.size w ((w.alloc (.cells #[.int .i64 0, .int .i64 0, .string ⟨#[]⟩, .slice none 0 0, .slice none 0 0] 28)).alloc (.cells #[.int .i64 4, .int .i64 0, .string ⟨#[]⟩, .slice none 0 0, .slice none 0 0] 28)) := by go_grown
    refine ⟨Ext.refl _ _, Cm.le_below HC.out hb, Cm.none_of HC.out (by omega), Cm.none_of HC.out (Nat.le_refl _), ?_, ?_, rfl, ⟨Nat.le_refl _, Nat.zero_le _, .inl rfl⟩, ⟨Nat.le_refl _, Nat.zero_le _, .inl rfl⟩, .inl ⟨rfl, rfl⟩, .inl ⟨rfl, rfl⟩, hb⟩
    · have := heap_alloc_new (w.alloc (.cells #[.int .i64 0, .int .i64 0, .string ⟨#[]⟩, .slice none 0 0, .slice none 0 0] 28)) (.cells #[.int .i64 4, .int .i64 0, .string ⟨#[]⟩, .slice none 0 0, .slice none 0 0] 28)
      simpa using this
    · rw [Below.heap_alloc _ _ _ (by simp)]
      exact heap_alloc_new w _
  have HST := Lib.hid hst
  clear hst
  go_loopw [12] (fun i wr => ∃ (k : Nat) (A3 : Option Addr) (c3 : Nat) (A4 : Option Addr) (c4 : Nat) (Ck : Cm), k ≤ n ∧ i = .int .i64 k ∧ Hid (RM C w w.heap.size (w.heap.size + 1) (insAll (l.take k)) k A3 c3 A4 c4 Ck wr)) (fun i _ => n - (intOf i).toNat)
  case atStart => exact ⟨0, _, _, _, _, _, Nat.zero_le _, rfl, HST⟩
  case round =>
    clear HST
    rename World => wo
    obtain ⟨k, A3, c3, A4, c4, Ck, hk, rfl, HM⟩ := hrel
    by_cases hlt : k < n
    · have hkd : k < d.length := by omega
      have hl0 : l ≠ [] := by intro e; have := HN.out; rw [e] at this; simp at this; omega
      obtain ⟨b, o, rfl, hc⟩ := HCELL.out hl0
      obtain ⟨x, hx⟩ : ∃ x, x = d[k] := ⟨_, rfl⟩
      have hc' := hc k hkd
      rw [← hx] at hc'
      have e0 := hc' 0 (.string x.key) rfl
      have e1 := hc' 1 (.int .i64 x.v.kind) rfl
      have e2 := hc' 2 (.int .i64 x.v.num) rfl
      have e3 := hc' 3 (.string x.v.str) rfl
      have e4 := hc' 4 (.slice x.a3 x.v.items.length x.c3) rfl
      have e5 := hc' 5 (.slice x.a4 x.v.keys.length x.c4) rfl
      rw [Nat.add_zero] at e0
      have hb := HM.out.bel
      replace e0 := (hb.cell (World.block_lt_of_cell? w _ e0)).trans e0
      replace e1 := (hb.cell (World.block_lt_of_cell? w _ e1)).trans e1
      replace e2 := (hb.cell (World.block_lt_of_cell? w _ e2)).trans e2
      replace e3 := (hb.cell (World.block_lt_of_cell? w _ e3)).trans e3
      replace e4 := (hb.cell (World.block_lt_of_cell? w _ e4)).trans e4
      replace e5 := (hb.cell (World.block_lt_of_cell? w _ e5)).trans e5
      have hxm : x ∈ d := by rw [hx]; exact List.getElem_mem hkd
      have HXO := Lib.hid (HOK.out x hxm)
      have HXk : Hid (d[k]? = some x) := Lib.hid (by rw [hx]; exact List.getElem?_eq_getElem hkd)
      clear hc hc' hx hxm hb
      go_upto_block 2 with fail
      have hwr3 : w.heap.size + 1 < wo.heap.size := (Array.getElem?_eq_some_iff.1 HM.out.box).1
      have hpb := heap_alloc_new wo (.cells #[.string x.key, .int .i64 x.v.kind, .int .i64 x.v.num, .string x.v.str, .slice x.a3 x.v.items.length x.c3, .slice x.a4 x.v.keys.length x.c4] 38)
      have hbelA := (Below.refl wo.heap.size wo).alloc (Nat.le_refl _) (.cells #[.string x.key, .int .i64 x.v.kind, .int .i64 x.v.num, .string x.v.str, .slice x.a3 x.v.items.length x.c3, .slice x.a4 x.v.keys.length x.c4] 38)
      have hboxA := (hbelA.block _ hwr3).trans HM.out.box
      have hresA := (hbelA.block _ (by omega)).trans HM.out.res
      have hszA : (wo.alloc (.cells #[.string x.key, .int .i64 x.v.kind, .int .i64 x.v.num, .string x.v.str, .slice x.a3 x.v.items.length x.c3, .slice x.a4 x.v.keys.length x.c4] 38)).heap.size = wo.heap.size + 1 := by simp
      have HPB := Lib.hid hpb
      have HBELA := Lib.hid hbelA
      have HBOXA := Lib.hid hboxA
      have HRESA := Lib.hid hresA
      clear hpb hbelA hboxA hresA e0 e1 e2 e3 e4 e5
      generalize wo.alloc (.cells #[.string x.key, .int .i64 x.v.kind, .int .i64 x.v.num, .string x.v.str, .slice x.a3 x.v.items.length x.c3, .slice x.a4 x.v.keys.length x.c4] 38) = wa at HPB HBELA HBOXA HRESA hszA ⊢
      have hps : (insAll (l.take k)).length = k := HM.out.len
      have HPS : Hid (∃ ps, ps = insAll (l.take k)) := Lib.hid ⟨_, rfl⟩
      obtain ⟨ps, hpse⟩ := HPS.out
      clear HPS
      rw [← hpse] at HM hps
      have HPSE := Lib.hid hpse
      clear hpse
      go_cut [6] (fun i W => ∃ j : Nat, i = .int .i64 j ∧ j ≤ k ∧ Hid (ps.takeWhile (fun q => ltB q.1 x.key) = ps.take j ∧ ps.dropWhile (fun q => ltB q.1 x.key) = ps.drop j) ∧ Hid (Below wa.heap.size wa W))
      case first =>
        go_wp2_with fail
        go_loopw [6] (fun i W => ∃ j : Nat, j ≤ k ∧ i = .int .i64 j ∧ Hid (∀ q ∈ ps.take j, ltB q.1 x.key = true) ∧ Hid (Below wa.heap.size wa W)) (fun i _ => k - (intOf i).toNat)
        case atStart => exact ⟨0, Nat.zero_le _, rfl, Lib.hid (by simp), Lib.hid (Below.refl _ _)⟩
        case round =>
          obtain ⟨j, hj, rfl, HJ, HB⟩ := hrel
          have hp := (HB.out.block _ (by omega)).trans HPB.out
          have hq := (HB.out.block _ (by omega)).trans HBOXA.out
          have p0 := boxCell hp 0
          have q4 := boxCell hq 4
          simp only [List.getElem?_toArray, List.getElem?_cons_zero, List.getElem?_cons_succ] at p0 q4
          clear hp hq
          have hs1 := HB.out.size
          have hpl : (ps.map Prod.fst).length = k := by simp [hps]
          by_cases hjk : j < k
          · obtain ⟨b4, o4, rfl, f0, fo⟩ := scal_elem (enc := fun x => Value.string x) HM.out.le HM.out.kys j (by omega)
            replace f0 := (HB.out.cell (by have := World.block_lt_of_cell? wo _ f0; simp only at this ⊢; omega)).trans ((HBELA.out.cell (World.block_lt_of_cell? wo _ f0)).trans f0)
            have hjp : j < ps.length := by omega
            have HG : Hid (ps.map Prod.fst = ps.map Prod.fst ∧ (ps.map Prod.fst)[j]'(by omega) = (ps[j]).1) := Lib.hid ⟨rfl, by simp⟩
            rw [HG.out.2] at f0 fo
            have HLE := Lib.hid (fun W => less_calls (ps[j]).1 x.key W fo HXO.out.1)
            have HTS : Hid (ps.take (j + 1) = ps.take j ++ [ps[j]]) := Lib.hid (List.take_succ_eq_append_getElem hjp)
            have HTW : ltB (ps[j]).1 x.key = false → Hid (ps.takeWhile (fun q => ltB q.1 x.key) = ps.take j ∧ ps.dropWhile (fun q => ltB q.1 x.key) = ps.drop j) := fun h => Lib.hid (tw_at ps j hjp HJ.out h)
            have hcl : ((j : Int) < (k : Int)) := by omega
            clear HG fo
            generalize hqe : ps[j] = q at f0 HLE HTS HTW
            have HQE := Lib.hid hqe
            clear hqe
            cases hlt2 : ltB q.1 x.key
            · rw [hlt2] at HLE
              have HT := HTW hlt2
              clear HTW hlt2
              go_wp2_with fail
              go_region_held3 (fun w' => w'.cell? ⟨w.heap.size + 1, 4, none⟩ = some (.slice (some ⟨b4, o4, none⟩) k c4) ∧ w'.cell? ⟨b4, o4 + j, none⟩ = some (.string q.1) ∧ w'.cell? ⟨wo.heap.size, 0, none⟩ = some (.string x.key))
                (first
                  | (go_keep; done)
                  | (refine ⟨?_, ?_, ?_⟩ <;> (refine (hb2.cell (World.block_lt_of_cell? wr _ (by assumption))).trans (by assumption))))
                (first
                  | (go_at_call 34; refine (HLE.out _).mono ?_; rintro e w2 ⟨rfl, hb2⟩))
              have HB2 : Hid (Below wa.heap.size wa w2) := Lib.hid (HB.out.trans ((show Below wr.heap.size wr w2 from ⟨hb2.os, hb2.tape, hb2.output, hb2.size, hb2.block⟩).mono HB.out.size))
              clear hb2 f0 p0 q4
              go_wp2_with fail
              go_meet
              case rel => exact ⟨j, rfl, hj, HT, HB2⟩
            · rw [hlt2] at HLE
              have HJ2 : Hid (∀ q ∈ ps.take (j + 1), ltB q.1 x.key = true) := Lib.hid (by
                rw [HTS.out]
                intro y hy
                rcases List.mem_append.1 hy with hy | hy
                · exact HJ.out y hy
                · rw [List.mem_singleton] at hy; rw [hy]; exact hlt2)
              clear HTW hlt2
              go_wp2_with fail
              go_region_held3 (fun w' => w'.cell? ⟨w.heap.size + 1, 4, none⟩ = some (.slice (some ⟨b4, o4, none⟩) k c4) ∧ w'.cell? ⟨b4, o4 + j, none⟩ = some (.string q.1) ∧ w'.cell? ⟨wo.heap.size, 0, none⟩ = some (.string x.key))
                (first
                  | (go_keep; done)
                  | (refine ⟨?_, ?_, ?_⟩ <;> (refine (hb2.cell (World.block_lt_of_cell? wr _ (by assumption))).trans (by assumption))))
                (first
                  | (go_at_call 34; refine (HLE.out _).mono ?_; rintro e w2 ⟨rfl, hb2⟩))
              have HB2 : Hid (Below wa.heap.size wa w2) := Lib.hid (HB.out.trans ((show Below wr.heap.size wr w2 from ⟨hb2.os, hb2.tape, hb2.output, hb2.size, hb2.block⟩).mono HB.out.size))
              clear hb2 f0 p0 q4
              go_wp2_with fail
              go_roundw
              case rel => exact ⟨j + 1, by omega, by go_num, HJ2, HB2⟩
              case measure => simp [intOf]; omega
          · have hjk' : j = k := by omega
            have HT : Hid (ps.takeWhile (fun q => ltB q.1 x.key) = ps.take j ∧ ps.dropWhile (fun q => ltB q.1 x.key) = ps.drop j) := Lib.hid (tw_all ps j (by omega) HJ.out)
            have hcl : ¬ ((j : Int) < (k : Int)) := by omega
            clear hjk'
            go_wp2_with fail
            go_quiet (fail)
            go_wp2_with fail
            go_meet
            case rel => exact ⟨j, rfl, hj, HT, Lib.hid (below_pw HB.out _)⟩
      case rest =>
        obtain ⟨j, rfl, hjk, HTW, HB⟩ := hcut
        have hsz1 := HB.out.size
        have hp := (HB.out.block _ (by omega)).trans HPB.out
        have hq := (HB.out.block _ (by omega)).trans HBOXA.out
        have hBo : Below wo.heap.size wo wc := HBELA.out.trans (HB.out.mono HBELA.out.size)
        have HLE : Hid (Ck.le wc) := Lib.hid (Cm.le_below HM.out.le hBo)
        have HBOX := Lib.hid hq
        have HRES : Hid (wc.heap[w.heap.size]? = some (.cells #[.int .i64 0, .int .i64 0, .string ⟨#[]⟩, .slice none 0 0, .slice none 0 0] 28 (0, 0))) := Lib.hid ((HB.out.block _ (by omega)).trans HRESA.out)
        have p0 := boxCell hp 0
        have p1 := boxCell hp 1
        have p2 := boxCell hp 2
        have p3 := boxCell hp 3
        have p4 := boxCell hp 4
        have p5 := boxCell hp 5
        have q3 := boxCell hq 3
        have q4 := boxCell hq 4
        simp only [List.getElem?_toArray, List.getElem?_cons_zero, List.getElem?_cons_succ] at p0 p1 p2 p3 p4 p5 q3 q4
        have HK := HM.out.kys
        have HI := HM.out.its
        have hck4 : k ≤ c4 ∧ c4 ≤ maxLen := by have h1 := HK.1; have h2 := HK.2.1; simp at h1; exact ⟨by omega, h2⟩
        have hck3 : k ≤ c3 ∧ c3 ≤ maxLen := by have h1 := HI.1; have h2 := HI.2.1; simp at h1; exact ⟨by omega, h2⟩
        unfold maxLen at hck4 hck3
        have HK := Lib.hid HK
        have HI := Lib.hid HI
        have HP3 := Lib.hid HM.out.pl3
        have HP4 := Lib.hid HM.out.pl4
        obtain ⟨B4, hB4⟩ : ∃ A, (if c4 = j then A4 else Option.map (fun x => x.add j) A4) = A := ⟨_, rfl⟩
        have HD4 := HK.out.drop' HP4.out j (by omega)
        rw [Nat.mul_one, hB4] at HD4
        have HD4 := Lib.hid HD4
        obtain ⟨B3, hB3⟩ : ∃ A, (if c3 = j then A3 else Option.map (fun x => x.add (j * 5)) A3) = A := ⟨_, rfl⟩
        have HD3 := HI.out.drop' HP3.out j (by omega)
        rw [hB3] at HD3
        have HD3 := Lib.hid HD3
        have HEXT := Lib.hid HM.out.ext
        have HFR : Hid (∀ o, Ck (w.heap.size + 1) o = none) := Lib.hid HM.out.free
        have HFR2 : Hid (∀ o, Ck w.heap.size o = none) := Lib.hid HM.out.free2
        have HBEL : Hid (Below w.heap.size w wc) := Lib.hid (HM.out.bel.trans (hBo.mono HM.out.bel.size))
        have hb1 : w.heap.size + 1 < wc.heap.size := by have := HBELA.out.size; omega
        have hb2 : wo.heap.size < wc.heap.size := by omega
        have hb3 : w.heap.size < wc.heap.size := by omega
        clear hp hq hBo HM HPB HBELA HBOXA HRESA HB
        go_wp2_with (at_builtin; refine wpList_append_sl (C := Ck) (base := wc.heap.size) _ _ 22 info9 Tryd.underlying22 (OwnG.made Ck wc 9 1 (Nat.le_refl _)) (HK.out.take' j) (Cm.le_below HLE.out (by go_grown)) (fun e => HP4.out.none e) rfl rfl rfl rfl (by decide) ?c1 ?c2 (by decide) ?c3 ?_)
        case c1 => simp; omega
        case c2 => simp; omega
        case c3 => simp
        intro v1 w1 hap
        have hB1 : Below wc.heap.size wc w1 := hap.below (OwnG.made Ck wc 9 1 (Nat.le_refl _)) (by go_grown) (by simp) (Nat.le_refl _)
        have HO1 := Lib.hid hap.own
        have hs_w1 := hB1.size
        have hb1_w1 : w.heap.size + 1 < w1.heap.size := by omega
        have hb2_w1 : wo.heap.size < w1.heap.size := by omega
        have hb3_w1 : w.heap.size < w1.heap.size := by omega
        obtain ⟨hc, hf⟩ := bcell hB1
        have HB_w1 := Lib.hid hB1
        clear hB1
        clear hap
        go_wp2_with (at_builtin; refine wpList_append_one (C := Ck) _ _ 22 info9 Tryd.underlying22 (HO1.out.alloc _) (heap_alloc_at (by simp) _) (g := .at (.string x.key)) (Rd_at HXO.out.1) rfl rfl rfl rfl (by decide) rfl ?c1 (by decide) ?c2 ?_)
        case c1 => simp; omega
        case c2 => simp; omega
        intro v2 w2 hap
        have hB2 : Below wc.heap.size wc w2 := hap.below (HO1.out.alloc _) (HB_w1.out.alloc HB_w1.out.size _) (by simp; omega) (Nat.le_refl _)
        have HO2 := Lib.hid hap.own
        clear hc hf
        have hs_w2 := hB2.size
        have hb1_w2 : w.heap.size + 1 < w2.heap.size := by omega
        have hb2_w2 : wo.heap.size < w2.heap.size := by omega
        have hb3_w2 : w.heap.size < w2.heap.size := by omega
        obtain ⟨hc, hf⟩ := bcell hB2
        have HB_w2 := Lib.hid hB2
        clear hB2
        clear hap
        go_wp2_with (at_builtin; refine wpList_append_sl (C := Ck) (base := wc.heap.size) _ _ 22 info9 Tryd.underlying22 HO2.out HD4.out.1 (Cm.le_below HLE.out HB_w2.out) (fun e => HD4.out.2.none e) rfl rfl rfl rfl (by decide) ?c1 ?c2 (by decide) ?c3 ?_)
        case c1 => simp; omega
        case c2 => simp; omega
        case c3 => omega
        intro v3 w3 hap
        have hB3 : Below wc.heap.size wc w3 := hap.below HO2.out HB_w2.out (by omega) (Nat.le_refl _)
        have HO3 := Lib.hid hap.own
        clear hc hf
        have hs_w3 := hB3.size
        have hb1_w3 : w.heap.size + 1 < w3.heap.size := by omega
        have hb2_w3 : wo.heap.size < w3.heap.size := by omega
        have hb3_w3 : w.heap.size < w3.heap.size := by omega
        obtain ⟨hc, hf⟩ := bcell hB3
        have HB_w3 := Lib.hid hB3
        clear hB3
        clear hap
        obtain ⟨pn, hpn⟩ : ∃ pn, pn = ps.take j ++ (x.key, x.v) :: ps.drop j := ⟨_, rfl⟩
        have hpnl : pn.length = k + 1 := by rw [hpn]; simp; omega
        have HPN : Hid (insAll (l.take (k + 1)) = pn) := Lib.hid (by
          have hkl : k < l.length := by have := HN.out; omega
          have hlk : l[k] = (x.key, x.v) := by
            have h1 : (d.map PC.pair)[k]'(by rw [List.length_map]; exact hkd) = x.pair := by rw [List.getElem_map]; have := HXk.out; rw [List.getElem?_eq_getElem hkd] at this; injection this with this; rw [this]
            have h2 : l[k] = (d.map PC.pair)[k]'(by rw [List.length_map]; exact hkd) := by congr 1; exact HD.out.symm
            rw [h2, h1]
            rfl
          rw [List.take_succ_eq_append_getElem hkl, insAll_snoc, hlk, ← HPSE.out, hpn]
          unfold insP
          rw [HTW.out.1, HTW.out.2])
        have hke : ([] ++ (strsGv (ps.map Prod.fst)).take j) ++ [GV.at (.string x.key)] ++ (strsGv (ps.map Prod.fst)).drop j = strsGv (pn.map Prod.fst) := by
          rw [hpn]; simp [strsGv, List.map_take, List.map_drop]
        replace HO3 : Hid (OwnG Ck w3 wc.heap.size 9 1 v3 (strsGv (pn.map Prod.fst))) := Lib.hid (by have h := HO3.out; rw [← hke]; simpa using h)
        obtain ⟨A4n, c4n, hv3, _, _, _⟩ := HO3.out.shape
        rw [strsGv_length, List.length_map, hpnl] at hv3
        subst hv3
        obtain ⟨Ck1, hext1, hle1, hrd4, hpl4⟩ := HO3.out.settle (Cm.le_below HLE.out HB_w3.out) (fun g hg o => Cm.none_of HLE.out hg o)
        have HX1 := Lib.hid hext1
        have HL1 := Lib.hid hle1
        have HR4 := Lib.hid hrd4
        have HQ4 := Lib.hid hpl4
        clear hext1 hle1 hrd4 hpl4 hke
        have HI1 : Hid (RdSl Ck1 A3 c3 5 (V.gvs (ps.map Prod.snd))) := Lib.hid (HI.out.ext (HX1.out 0 (Nat.zero_le _)))
        have HD31 : Hid (RdSl Ck1 B3 (c3 - j) 5 ((V.gvs (ps.map Prod.snd)).drop j)) := Lib.hid (HD3.out.1.ext (HX1.out 0 (Nat.zero_le _)))
        have HXR : Hid (Rd Ck1 x.v.gv [.int .i64 x.v.kind, .int .i64 x.v.num, .string x.v.str, .slice x.a3 x.v.items.length x.c3, .slice x.a4 x.v.keys.length x.c4]) := Lib.hid ((HXO.out.2.ext HEXT.out).ext (HX1.out 0 (Nat.zero_le _)))
        go_wp2_with (at_builtin; refine wpList_append_sl (C := Ck1) (base := w3.heap.size) _ _ 26 info28 Tryd.underlying26 (OwnG.made Ck1 w3 28 5 (Nat.le_refl _)) (HI1.out.take' j) (Cm.le_below HL1.out (by go_grown)) (fun e => HP3.out.none e) rfl rfl rfl rfl (by decide) ?c1 ?c2 (by decide) ?c3 ?_)
        case c1 => simp; omega
        case c2 => simp; omega
        case c3 => simp
        intro v4 w4 hap
        have hB4' : Below w3.heap.size w3 w4 := hap.below (OwnG.made Ck1 w3 28 5 (Nat.le_refl _)) (by go_grown) (by simp) (Nat.le_refl _)
        have hB4 : Below wc.heap.size wc w4 := HB_w3.out.trans (hB4'.mono hs_w3)
        have HB43 := Lib.hid hB4'
        have hs43 := hB4'.size
        clear hB4'
        have HO4 := Lib.hid hap.own
        clear hc hf
        have hs_w4 := hB4.size
        have hb1_w4 : w.heap.size + 1 < w4.heap.size := by omega
        have hb2_w4 : wo.heap.size < w4.heap.size := by omega
        have hb3_w4 : w.heap.size < w4.heap.size := by omega
        obtain ⟨hc, hf⟩ := bcell hB4
        have HB_w4 := Lib.hid hB4
        clear hB4
        clear hap
        go_wp2_with (at_builtin; refine wpList_append_one (C := Ck1) _ _ 26 info28 Tryd.underlying26 (HO4.out.alloc _) (heap_alloc_at (by simp) _) (g := x.v.gv) HXR.out rfl rfl rfl rfl (by decide) rfl ?c1 (by decide) ?c2 ?_)
        case c1 => simp; omega
        case c2 => simp; omega
        intro v5 w5 hap
        have hB5' : Below w3.heap.size w3 w5 := hap.below (HO4.out.alloc _) (HB43.out.alloc HB43.out.size _) (by simp; omega) (Nat.le_refl _)
        have hB5 : Below wc.heap.size wc w5 := HB_w3.out.trans (hB5'.mono hs_w3)
        have HB53 := Lib.hid hB5'
        have hs53 := hB5'.size
        clear hB5'
        have HO5 := Lib.hid hap.own
        clear hc hf
        have hs_w5 := hB5.size
        have hb1_w5 : w.heap.size + 1 < w5.heap.size := by omega
        have hb2_w5 : wo.heap.size < w5.heap.size := by omega
        have hb3_w5 : w.heap.size < w5.heap.size := by omega
        obtain ⟨hc, hf⟩ := bcell hB5
        have HB_w5 := Lib.hid hB5
        clear hB5
        clear hap
        go_wp2_with (at_builtin; refine wpList_append_sl (C := Ck1) (base := w3.heap.size) _ _ 26 info28 Tryd.underlying26 HO5.out HD31.out (Cm.le_below HL1.out HB53.out) (fun e => HD3.out.2.none e) rfl rfl rfl rfl (by decide) ?c1 ?c2 (by decide) ?c3 ?_)
        case c1 => simp; omega
        case c2 => simp; omega
        case c3 => omega
        intro v6 w6 hap
        have hB6' : Below w3.heap.size w3 w6 := hap.below HO5.out HB53.out (by omega) (Nat.le_refl _)
        have hB6 : Below wc.heap.size wc w6 := HB_w3.out.trans (hB6'.mono hs_w3)
        have HB63 := Lib.hid hB6'
        have hs63 := hB6'.size
        clear hB6'
        have HO6 := Lib.hid hap.own
        clear hc hf
        have hs_w6 := hB6.size
        have hb1_w6 : w.heap.size + 1 < w6.heap.size := by omega
        have hb2_w6 : wo.heap.size < w6.heap.size := by omega
        have hb3_w6 : w.heap.size < w6.heap.size := by omega
        obtain ⟨hc, hf⟩ := bcell hB6
        have HB_w6 := Lib.hid hB6
        clear hB6
        clear hap
        have hie : ([] ++ (V.gvs (ps.map Prod.snd)).take j) ++ [x.v.gv] ++ (V.gvs (ps.map Prod.snd)).drop j = V.gvs (pn.map Prod.snd) := by
          rw [hpn]; simp [V.gvs_eq, List.map_take, List.map_drop]
        replace HO6 : Hid (OwnG Ck1 w6 w3.heap.size 28 5 v6 (V.gvs (pn.map Prod.snd))) := Lib.hid (by have h := HO6.out; rw [← hie]; simpa using h)
        obtain ⟨A3n, c3n, hv6, _, _, _⟩ := HO6.out.shape
        rw [V.gvs_length, List.length_map, hpnl] at hv6
        subst hv6
        obtain ⟨Ck2, hext2, hle2, hrd3, hpl3⟩ := HO6.out.settle (Cm.le_below HL1.out HB63.out) (fun g hg o => Cm.none_of HL1.out hg o)
        have HBX6 : Hid (w6.heap[w.heap.size + 1]? = some (.cells #[.int .i64 4, .int .i64 0, .string ⟨#[]⟩, .slice A3 k c3, .slice A4 k c4] 28 (0, 0))) := Lib.hid ((HB_w6.out.block _ hb1).trans HBOX.out)
        have HRS6 : Hid (w6.heap[w.heap.size]? = some (.cells #[.int .i64 0, .int .i64 0, .string ⟨#[]⟩, .slice none 0 0, .slice none 0 0] 28 (0, 0))) := Lib.hid ((HB_w6.out.block _ hb3).trans HRES.out)
        have f3 := boxFroz HBX6.out 3
        have f4 := boxFroz HBX6.out 4
        have g3 := boxCell HBX6.out 3
        have g4 := boxCell HBX6.out 4
        simp only [List.getElem?_toArray, List.getElem?_cons_zero, List.getElem?_cons_succ] at g3 g4
        have HRMN : Hid (RM C w w.heap.size (w.heap.size + 1) (insAll (l.take (k + 1))) (k + 1) A3n c3n A4n c4n Ck2 ((w6.setCell ⟨w.heap.size + 1, 4, none⟩ (.slice A4n (k + 1) c4n)).setCell ⟨w.heap.size + 1, 3, none⟩ (.slice A3n (k + 1) c3n))) := by
          have hfree : ∀ b, b < wc.heap.size → ∀ o, Ck2 b o = Ck b o := fun b hb o => (hext2 _ (Nat.le_refl _)).old b o (by omega) |>.trans ((HX1.out _ (Nat.le_refl _)).old b o hb)
          have hgr : w6.grownBy ((w6.setCell ⟨w.heap.size + 1, 4, none⟩ (.slice A4n (k + 1) c4n)).setCell ⟨w.heap.size + 1, 3, none⟩ (.slice A3n (k + 1) c3n)) (some (w.heap.size + 1)) := grownBy_trans (grownBy_setCell _ _ _ _) (grownBy_setCell _ _ _ _)
          rw [HPN.out]
          refine Lib.hid ⟨?_, ?_, ?_, ?_, ?_, ?_, hpnl, ?_, ?_, hpl3, HQ4.out, ?_⟩
          · exact HEXT.out.trans ((HX1.out _ (by omega)).trans (hext2 _ (by omega)))
          · exact Cm.le_grown hle2 hgr (fun g e o => by injection e with e; rw [← e, hfree _ hb1]; exact HFR.out o)
          · intro o; rw [hfree _ hb1]; exact HFR.out o
          · intro o; rw [hfree _ hb3]; exact HFR2.out o
          · exact heap_setCell_own (heap_setCell_own HBX6.out 4 _) 3 _
          · exact (hgr.block _ (by omega) (by intro e; injection e with e; omega)).trans HRS6.out
          · exact hrd3
          · exact HR4.out.ext (hext2 0 (Nat.zero_le _))
          · exact (HBEL.out.trans (HB_w6.out.mono HBEL.out.size)).trans (below_of_grownBy hgr (by have := HBEL.out.size; omega) (by omega))
        clear hext2 hle2 hrd3 hpl3 hc hf p0 p1 p2 p3 p4 p5 q3 q4 hpn hpnl hie
        go_wp2_with fail
        go_roundw
        case rel => exact ⟨k + 1, _, _, _, _, _, by omega, by go_num, HRMN⟩
        case measure => simp [intOf]; omega
    · have hkn : k = n := by omega
      subst hkn
      have hlk : l.take k = l := List.take_of_length_le (by have := HN.out; omega)
      rw [hlk] at HM
      have hq := HM.out.box
      have hr := HM.out.res
      have hwr3 : w.heap.size + 1 < wo.heap.size := (Array.getElem?_eq_some_iff.1 hq).1
      have p0 := boxCell hq 0
      have p1 := boxCell hq 1
      have p2 := boxCell hq 2
      have p3 := boxCell hq 3
      have p4 := boxCell hq 4
      have q0 := boxCell hr 0
      have q1 := boxCell hr 1
      have q2 := boxCell hr 2
      have q3 := boxCell hr 3
      have q4 := boxCell hr 4
      have r0 := boxFroz hr 0
      have r1 := boxFroz hr 1
      have r2 := boxFroz hr 2
      have r3 := boxFroz hr 3
      have r4 := boxFroz hr 4
      simp only [List.getElem?_toArray, List.getElem?_cons_zero, List.getElem?_cons_succ] at p0 p1 p2 p3 p4 q0 q1 q2 q3 q4
      have HLEN := HM.out.len
      have HE : Hid ((V.ofPairs (insAll l)).cells A3 c3 A4 c4 = [.int .i64 4, .int .i64 0, .string ⟨#[]⟩, .slice A3 k c3, .slice A4 k c4]) := Lib.hid (by
        simp [V.ofPairs, V.cells, V.kind, V.num, V.str, V.items, V.keys, HLEN])
      have HRD : Hid (Rd Ck (V.ofPairs (insAll l)).gv ((V.ofPairs (insAll l)).cells A3 c3 A4 c4)) := Lib.hid (V.mk_rd _ (by simp [V.ofPairs, V.kind, okAt]; decide) (by simp [V.ofPairs, V.num, okAt]; decide) (by simp [V.ofPairs, V.str, okAt, ByteArray.size]) HM.out.its HM.out.kys)
      have hW : ∀ W : World, wo.grownBy W (some w.heap.size) → Pure C w W Ck := fun W hg => ⟨HM.out.bel.trans (below_of_grownBy hg HM.out.bel.size (Nat.le_refl _)), HM.out.ext, Cm.le_grown HM.out.le hg (fun g e o => by injection e with e; rw [← e]; exact HM.out.free2 o)⟩
      have HWP := Lib.hid hW
      clear hq hr HLEN hW hlk
      go_wp2_with fail
      (try simp only [Exit.inBlock, Exit.then]); refine bodyPost_ret (by simp [results, Tryd.results20, q0, q1, q2, q3, q4, go_sem]; try rfl) rfl ?_
      refine ⟨Ck, A3, c3, A4, c4, by rw [HE.out], HWP.out _ ?_, HRD.out⟩
      exact grownBy_trans (grownBy_trans (grownBy_trans (grownBy_trans (grownBy_setCell _ _ _ _) (grownBy_setCell _ _ _ _)) (grownBy_setCell _ _ _ _)) (grownBy_setCell _ _ _ _)) (grownBy_setCell _ _ _ _)
end Go.Proofs.YtbkoajipljjonaaDoor
