/- slices.Clone over pairs: a new row of the same pairs. -/
import Derived.Test.YtbkoajipljjonaaDoorPair
import Derived.WalkSpells
import Derived.Lib.LazyBuf
namespace Go.Proofs.YtbkoajipljjonaaDoor
open Go.RowKit Go.Shelf Go.Sort

theorem pairInfo : (Tryd.prog.info? 38).map (fun i => (i.zero.map Value.cells |>.map Array.size, i.size, i.bytes)) = some (some 6, 6, 96) := by kernel_rfl

/-- The cells of a row of pairs, one behind the other. -/
def pcCells (d : List PC) : List Value := (flatK PC.enc 6 d.toArray).toList
theorem pcCells_length (d : List PC) : (pcCells d).length = d.length * 6 := by simp [pcCells]
theorem pcCells_at (d : List PC) (j : Nat) (u : Value) (h : (pcCells d)[j]? = some u) : ∃ hi : j / 6 < d.length, (d[j / 6]).enc[j % 6]? = some u := by
  obtain ⟨hj, he⟩ := List.getElem?_eq_some_iff.1 h
  rw [pcCells_length] at hj
  have hi : j / 6 < d.length := by omega
  refine ⟨hi, ?_⟩
  have hg := get_flatK PC.enc 6 d.toArray j (by simpa using hj)
  have h1 : (flatK PC.enc 6 d.toArray)[j]! = u := by
    rw [getElem!_pos _ j (by simpa using hj)]
    simpa [pcCells] using he
  have h2 : d.toArray[j / 6]! = d[j / 6] := by
    rw [getElem!_pos d.toArray (j / 6) (by simpa using hi)]
    simp
  have hm : j % 6 < (d[j / 6]).enc.length := by rw [PC.enc_length]; omega
  rw [h1, h2, getElem!_pos (d[j / 6]).enc (j % 6) hm] at hg
  rw [hg, List.getElem?_eq_getElem hm]
theorem pcCells_one (d : List PC) : ∀ u ∈ pcCells d, u.oneCell' = true := by
  intro u hu
  obtain ⟨j, hj, rfl⟩ := List.getElem_of_mem hu
  obtain ⟨hi, he⟩ := pcCells_at d j _ (List.getElem?_eq_getElem hj)
  exact PC.enc_one _ _ (List.mem_of_getElem? he)
/-- A row that is owned and holds these cells. -/
theorem holds_of_own {w : World} {base g n cap : Nat} {d : List PC} (h : w.ownsRow base 38 6 (.slice (some ⟨g, 0, none⟩) n cap) n (pcCells d)) : HoldsK PC.enc 6 w g 0 d.toArray := by
  rcases h.2 with ⟨hv, _⟩ | ⟨g', cap', cur, hv, _, hg, _, _, _, ht⟩
  · cases hv
  · simp only [Value.slice.injEq, Option.some.injEq, Addr.mk.injEq] at hv
    obtain ⟨⟨rfl, _⟩, _, rfl⟩ := hv
    intro j hj
    have hj2 : j < (pcCells d).length := by rw [pcCells_length]; simpa using hj
    rw [Nat.zero_add]
    constructor
    · rw [cell_of_row w g j cur _ _ hg]
      have h1 : (cur.toList.take (n * 6))[j]? = (pcCells d)[j]? := by rw [ht]
      have hjn : j < n * 6 := by have := h.1; omega
      rw [List.getElem?_take, if_pos hjn, Array.getElem?_toList] at h1
      rw [h1, List.getElem?_eq_getElem hj2, getElem!_pos _ j hj]
      rfl
    · simp [World.frozen?, hg]

set_option maxHeartbeats 1000000 in
set_option maxRecDepth 100000 in
theorem clonePairs_calls (C : Cm) (w : World) (A : Option Addr) (n c : Nat) (l : List (ByteArray × V)) (hn : l.length = n) (hC : C.le w) (hr : RdSl C A c 6 (pairsGv l)) (hlen : l.length ≤ 100000) :
    Calls Tryd.prog 29 #[.slice A n c] w fun e w' => ∃ A' c', e = .returned (.slice A' n c') ∧ Below w.heap.size w w' ∧ ∃ d : List PC, d.map PC.pair = l ∧ (∀ x ∈ d, x.ok C) ∧ (l ≠ [] → ∃ blk, A' = some ⟨blk, 0, none⟩ ∧ w.heap.size ≤ blk ∧ blk < w'.heap.size ∧ HoldsK PC.enc 6 w' blk 0 d.toArray) := by
  subst hn
  obtain ⟨d, hd, hok, hcell⟩ := pairs_open hC hr
  have hdl : d.length = l.length := by rw [← hd, List.length_map]
  obtain ⟨i0, hi, hz⟩ : ∃ i, Tryd.prog.info? 38 = some i ∧ (i.zero.map Value.cells |>.map Array.size, i.size, i.bytes) = (some 6, 6, 96) := Option.map_eq_some_iff.1 pairInfo
  simp only [Prod.mk.injEq, Option.map_eq_some_iff] at hz
  obtain ⟨⟨_, ⟨z, hz0, rfl⟩, hzs⟩, hz1, hz2⟩ := hz
  have hnil := fun W => Lib.run_eql_slice_nil (P := Tryd.prog) W 36 38 A l.length c 0 0 Tryd.underlying36
  cases A with
  | none =>
    have hl0 : l = [] := by
      rcases hr.2.2 with h | ⟨b, o, h, _⟩
      · simpa [pairsGv] using h
      · cases h
    have HL := Lib.hid hl0
    have HD := Lib.hid hd
    have HO := Lib.hid hok
    clear hcell hr hC hd hok hdl hl0
    go_enter Tryd.func29, Tryd.ntmps29
    go_wp2
    go_ret
    exact ⟨none, 0, by rw [HL.out]; rfl, Below.refl _ _, d, HD.out, HO.out, fun h => absurd HL.out h⟩
  | some a =>
    have HC := Lib.hid hcell
    have HD := Lib.hid hd
    have HO := Lib.hid hok
    have HDL := Lib.hid hdl
    clear hcell hr hC hd hok hdl
    go_enter Tryd.func29, Tryd.ntmps29
    have hown : (w.alloc (.cells #[] 38)).ownsRow w.heap.size 38 6 (.slice (some ⟨w.heap.size, 0, none⟩) 0 0) 0 [] := World.ownsRow_made w #[] 0 (Nat.le_refl _) (Nat.zero_le _) rfl
    have hnews : ∀ j u, (pcCells d)[j]? = some u → (w.alloc (.cells #[] 38)).cell? (a.add j) = some u := by
      intro j u hj
      obtain ⟨hi6, he⟩ := pcCells_at d j u hj
      have hne : l ≠ [] := by
        intro e
        have := HDL.out
        rw [e] at this
        simp at this
        rw [this] at hi6
        simp at hi6
      obtain ⟨b, o, hbo, hcc⟩ := HC.out hne
      cases hbo
      have hc1 := hcc (j / 6) hi6 (j % 6) u he
      have hadd : (⟨b, o, none⟩ : Addr).add j = ⟨b, o + j, none⟩ := by unfold Addr.add; split <;> simp_all
      rw [hadd, show o + j = o + j / 6 * 6 + j % 6 by omega]
      exact (((Below.refl w.heap.size w).alloc (Nat.le_refl _) _).cell (World.block_lt_of_cell? w _ hc1)).trans hc1
    have HN := Lib.hid hnews
    have hlen6 : (pcCells d).length = l.length * 6 := by rw [pcCells_length, HDL.out]
    have HL6 := Lib.hid hlen6
    clear hnews hlen6
    go_wp2_with (at_builtin; refine wpList_append_own _ rfl _ _ 36 rfl w.heap.size 38 i0 z 6 96 Tryd.underlying36 hi hz0 hz1 hz2 hzs (by decide) _ 0 [] rfl hown a l.length c (pcCells d) rfl HL6.out HN.out (pcCells_one d) ?c1 ?c2 ?c3 ?_)
    case c1 => unfold maxLen; omega
    case c2 => omega
    case c3 => simp
    intro v' w1 hown' hgrow hnil2
    have hbel : Below w.heap.size w w1 := ((Below.refl _ w).alloc (Nat.le_refl _) _).grown hgrow (by simp) (fun k hk => by simp [Value.ownBlock] at hk; omega)
    clear hgrow
    rcases hown'.2 with ⟨rfl, _⟩ | ⟨g, cap, cur, rfl, hg, hgg, _⟩
    · exact (hnil2 rfl).elim
    · have HOWN := Lib.hid hown'
      have hglt : g < w1.heap.size := (Array.getElem?_eq_some_iff.1 hgg).1
      clear hown' hnil2 hgg
      go_wp2_with fail
      go_ret
      exact ⟨_, cap, rfl, hbel, d, HD.out, HO.out, fun _ => ⟨g, rfl, hg, hglt, holds_of_own HOWN.out⟩⟩
end Go.Proofs.YtbkoajipljjonaaDoor
