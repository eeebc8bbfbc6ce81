/- value.write writes a value's one text behind what a builder holds. -/
import Derived.Test.YtbkoajipljjonaaDoorTxt
import Derived.Test.YtbkoajipljjonaaDoorQuote
namespace Go.Proofs.YtbkoajipljjonaaDoor
open Go.RowKit Go.Shelf

theorem below_grownBy {w w' : World} (h : Below w.heap.size w w') : w.grownBy w' none := ⟨h.os, h.tape, h.output, h.size, fun k hk _ => h.block k hk⟩
theorem IsB.lt {B b : Nat} {l : List UInt8} {w : World} (h : IsB B b l w) : b < w.heap.size := by
  rcases h with h | h <;> exact h.lt
theorem IsB.ge {B b : Nat} {l : List UInt8} {w : World} (h : IsB B b l w) : B ≤ b := by
  rcases h with h | h <;> exact h.1
theorem BuilderAtF.below {T e : TypeId} {B b : Nat} {p : Value} {bs : List Value} {w w' : World} (h : Lib.BuilderAtF T e B b p bs w) (hb : Below w.heap.size w w') : Lib.BuilderAtF T e B b p bs w' := by
  have hlt := h.lt
  obtain ⟨hB, v, hbk, hown, hne⟩ := h
  refine ⟨hB, v, ?_, ?_, hne⟩
  · rw [hb.block b hlt]
    exact hbk
  · exact hown.kept (below_grownBy hb) (by cases v.ownBlock <;> simp)
theorem IsB.below {B b : Nat} {l : List UInt8} {w w' : World} (h : IsB B b l w) (hb : Below w.heap.size w w') : IsB B b l w' := by
  rcases h with h | h
  · exact .inl (BuilderAtF.below h hb)
  · exact .inr (BuilderAtF.below h hb)
theorem OthersB.of_below {b : Nat} {w w' : World} (hb : Below w.heap.size w w') : OthersB b w w' := fun k o h _ _ => by
  rw [hb.block k (Array.getElem?_eq_some_iff.1 h).1]
  exact h
/-- A block of cells that are no bytes, and not the builder's, stands. -/
theorem OthersB.blk {b : Nat} {w w' : World} (h : OthersB b w w') {k : Nat} {cs : Array Value} {t : TypeId} {fz : Nat × Nat} (hk : w.heap[k]? = some (.cells cs t fz)) (hkb : k ≠ b) (ht : t ≠ 5) : w'.heap[k]? = some (.cells cs t fz) :=
  h k _ hk (by simpa using hkb) (fun c fz' e => by cases e; exact ht rfl)

theorem formatInt_calls (n : Int) (h0 : -9223372036854775808 ≤ n) (h1 : n ≤ 9223372036854775807) (w : World) (he : Env w) :
    Calls Tryd.prog 38 #[.int .i64 n, .int .i64 10] w fun e w' => e = .returned (.string ⟨(Lib.itoa n).toArray⟩) ∧ Below w.heap.size w w' := by
  refine (Tryd.strconv_FormatInt_10 n h0 h1 w he.tab).mono ?_
  rintro e w' ⟨rfl, k, os, rfl⟩
  refine ⟨rfl, rfl, rfl, rfl, by simp, fun i hi => ?_⟩
  show (w.heap ++ os)[i]? = w.heap[i]?
  rw [Array.getElem?_append, if_pos hi]

/-- What writing has come to: the builder holds L, and the rest stands (w: at the begin; w1: with the parameter's box). -/
structure WSt (B b : Nat) (w w1 : World) (L : List UInt8) (w' : World) : Prop where
  isb : IsB B b L w'
  bel : Below B w w'
  oth : OthersB b w1 w'
theorem WSt.below {B b : Nat} {w w1 : World} {L : List UInt8} {w' w'' : World} (h : WSt B b w w1 L w') (hB : B ≤ w'.heap.size) (hb : Below w'.heap.size w' w'') : WSt B b w w1 L w'' :=
  ⟨h.isb.below hb, h.bel.trans (hb.mono hB), Lib.OthersKept.trans h.oth (OthersB.of_below hb)⟩
theorem WSt.le {B b : Nat} {w w1 : World} {L : List UInt8} {w' : World} {C : Cm} (hC : C.le w) (hCB : ∀ b o v, C b o = some v → b < B) (h : WSt B b w w1 L w') : C.le w' := fun k o v e => by
  rw [h.bel.cell (p := ⟨k, o, none⟩) (hCB k o v e)]
  exact hC k o v e
theorem WSt.box {B b : Nat} {w w1 : World} {L : List UInt8} {w' : World} (h : WSt B b w w1 L w') {g : Nat} {y0 y1 y2 y3 y4 : Value} (hbox : w1.heap[g]? = some (.cells #[y0, y1, y2, y3, y4] 28 (0, 0))) (hne : g ≠ b) :
    w'.cell? ⟨g, 0, none⟩ = some y0 ∧ w'.cell? ⟨g, 3, none⟩ = some y3 ∧ w'.cell? ⟨g, 4, none⟩ = some y4 := by
  have hb := OthersB.blk h.oth hbox hne (by decide)
  refine ⟨?_, ?_, ?_⟩ <;> (rw [cell_of_row _ _ _ _ _ _ hb]; rfl)
theorem V.cnts_take_le : ∀ (l : List V) (k : Nat), V.cnts (l.take k) ≤ V.cnts l
  | [], k => by simp
  | v :: vs, 0 => by simp [V.cnts]
  | v :: vs, k + 1 => by
    have := V.cnts_take_le vs k
    simp only [List.take_succ_cons, V.cnts]
    omega
theorem keysOk_size {l : List ByteArray} (h : keysOk l = true) (j : Nat) : (l.getD j ⟨#[]⟩).size ≤ 4000 := by
  by_cases hj : j < l.length
  · rw [List.getD_eq_getElem?_getD, List.getElem?_eq_getElem hj, Option.getD_some]
    exact textOk_size (keysOk_text h j hj)
  · rw [List.getD_eq_getElem?_getD, List.getElem?_eq_none (by omega)]
    decide
/-- Ahead of item k there is room for it. -/
theorem V.txts_length2 (m : Bool) (keys : List ByteArray) (l : List V) (k : Nat) (hk : k < l.length) (h : ∀ x ∈ l, x.all = true) (hs : m = true → ∀ j, j < l.length → (keys.getD j ⟨#[]⟩).size ≤ 4000) :
    (V.txts m keys 0 (l.take k)).length + 16100 * l[k].cnt ≤ 16100 * V.cnts l := by
  have h1 := V.txts_length m keys (l.take k) 0 (fun x hx => h x (List.mem_of_mem_take hx)) (fun hm j hj => hs hm j (by rw [List.length_take] at hj; omega))
  have h2 := V.cnts_take l k hk
  have h3 := V.cnts_take_le l (k + 1)
  omega

set_option maxHeartbeats 2000000 in
set_option maxRecDepth 100000 in
theorem write_calls (n : Nat) : ∀ (v : V) (C : Cm) (B b : Nat) (l : List UInt8) (w : World) (A3 : Option Addr) (c3 : Nat) (A4 : Option Addr) (c4 : Nat), v.dep ≤ n → C.le w → (∀ b o v, C b o = some v → b < B) → Rd C v.gv (v.cells A3 c3 A4 c4) → v.all = true →
    IsB B b l w → l.length + 16100 * v.cnt ≤ 100000000000 → B ≤ w.heap.size → Env w → 3 < B → 0 < B →
    Calls Tryd.prog 23 #[.pointer (some ⟨b, 0, none⟩), .agg (v.cells A3 c3 A4 c4).toArray] w fun e w' => e = .returned (.tuple #[]) ∧ IsB B b (l ++ v.txt) w' ∧ Below B w w' ∧ OthersB b w w' := by
  induction n with
  | zero => intro v _ _ _ _ _ _ _ _ _ h; rw [V.dep_eq] at h; omega
  | succ n ih =>
  intro v C B b l w A3 c3 A4 c4 hd hC hCB hr hall hB hl hBw hE hg1 hg2
  have hm := V.all_may hall
  have htxt := V.txt_length v hall
  have hblt := hB.lt
  have hbge := hB.ge
  by_cases hk1 : v.kind = 1
  · have hnum := V.may_num hm hk1
    have HT : Hid (v.txt = Lib.itoa v.num) := Lib.hid (by rw [V.txt_eq, if_pos hk1])
    have hil := Lib.itoa_length_le v.num (by omega) (by omega)
    have HB := Lib.hid hB
    have HE := Lib.hid hE
    have HL : Hid (l.length ≤ 100000000000) := Lib.hid (by omega)
    have HIL := Lib.hid hil
    have hk : (v.kind == 1) = true := by simp [hk1]
    have HC : Hid (v.cells A3 c3 A4 c4 = v.cells A3 c3 A4 c4) := Lib.hid rfl
    clear hC hCB hr hall hB hl hE hm htxt hd ih hk1 hil
    unfold V.cells
    go_enter Tryd.func23, Tryd.ntmps23
    go_wp2_with fail
    refine (formatInt_calls v.num (by omega) (by omega) _ ?_).mono ?_
    · exact HE.out.below (by go_grown)
    · rintro e w2 ⟨rfl, hb2⟩
      have hbw : Below w.heap.size w w2 := (by go_grown : Below w.heap.size w _).trans (hb2.mono (by simp))
      have HB2 := Lib.hid (HB.out.below hbw)
      have hs2 := hbw.size
      clear hb2
      have HLen : Hid ((⟨(Lib.itoa v.num).toArray⟩ : ByteArray).size = (Lib.itoa v.num).length) := Lib.hid (size_mk _)
      generalize Lib.itoa v.num = lt at HT HIL HLen ⊢
      go_wp2_with fail
      refine (writeString_calls B b l _ _ HB2.out ?_ ?_).mono ?_
      · have h1 := HL.out; have h2 := HIL.out; have h3 := HLen.out; omega
      · omega
      · rintro e w3 ⟨rfl, hb3, hbb, hoo⟩
        have HB3 : Hid (IsB B b (l ++ v.txt) w3) := Lib.hid (by rw [HT.out]; simpa using hb3)
        have HO : Hid (OthersB b w w3) := Lib.hid ((OthersB.of_below hbw).trans hoo)
        have HBL : Hid (Below B w w3) := Lib.hid ((hbw.mono hBw).trans hbb)
        clear hb3 hbb hoo
        go_wp2_with fail
        go_returns
        exact ⟨rfl, HB3.out, HBL.out, HO.out⟩
  by_cases hk2 : v.kind = 2
  · have hstr := V.may_str hm hk2
    have HT : Hid (v.txt = quoL v.str.data.toList) := Lib.hid (by rw [V.txt_eq, if_neg hk1, if_pos hk2])
    have hil := quoL_size v.str
    have HB := Lib.hid hB
    have HE := Lib.hid hE
    have HL : Hid (l.length ≤ 100000000000) := Lib.hid (by omega)
    have HIL : Hid ((quoL v.str.data.toList).length ≤ 8002) := Lib.hid (by omega)
    have hk : (v.kind == 1) = false := by simp [hk1]
    have hk' : (v.kind == 2) = true := by simp [hk2]
    clear hC hCB hr hall hB hl hE hm htxt hd ih hk1 hk2 hil
    unfold V.cells
    go_enter Tryd.func23, Tryd.ntmps23
    go_wp2_with fail
    refine (quoted_calls v.str _ (by omega) ?_).mono ?_
    · exact HE.out.below (by go_grown)
    · rintro e w2 ⟨rfl, hb2⟩
      have hbw : Below w.heap.size w w2 := (by go_grown : Below w.heap.size w _).trans (hb2.mono (by simp))
      have HB2 := Lib.hid (HB.out.below hbw)
      have hs2 := hbw.size
      clear hb2
      have HLen : Hid ((⟨(quoL v.str.data.toList).toArray⟩ : ByteArray).size = (quoL v.str.data.toList).length) := Lib.hid (size_mk _)
      generalize quoL v.str.data.toList = lt at HT HIL HLen ⊢
      go_wp2_with fail
      refine (writeString_calls B b l _ _ HB2.out ?_ ?_).mono ?_
      · have h1 := HL.out; have h2 := HIL.out; have h3 := HLen.out; omega
      · omega
      · rintro e w3 ⟨rfl, hb3, hbb, hoo⟩
        have HB3 : Hid (IsB B b (l ++ v.txt) w3) := Lib.hid (by rw [HT.out]; simpa using hb3)
        have HO : Hid (OthersB b w w3) := Lib.hid ((OthersB.of_below hbw).trans hoo)
        have HBL : Hid (Below B w w3) := Lib.hid ((hbw.mono hBw).trans hbb)
        clear hb3 hbb hoo
        go_wp2_with fail
        go_returns
        exact ⟨rfl, HB3.out, HBL.out, HO.out⟩
  -- A LIST OR A MAP
  obtain ⟨_, _, _, _, he, o1, o2, o3, r3, r4⟩ := V.open hr
  simp only [V.cells, List.cons.injEq, Value.slice.injEq, and_true, true_and] at he
  obtain ⟨⟨rfl, rfl⟩, rfl, rfl⟩ := he
  have hlen : v.items.length ≤ c3 ∧ c3 ≤ maxLen := by have := r3.1; rw [V.gvs_length] at this; exact ⟨this, r3.2.1⟩
  unfold maxLen at hlen
  clear hr o1 o2 o3
  by_cases hk3 : v.kind = 4
  · have HT : Hid (v.txt = 123 :: (V.txts true v.keys 0 v.items ++ [125])) := Lib.hid (by rw [V.txt_eq, if_neg hk1, if_neg hk2]; simp [hk3])
    have hlen0 : (V.txts true v.keys 0 v.items).length ≤ 16100 * v.cnt := by have h1 := HT.out; rw [h1] at htxt; simp only [List.length_cons, List.length_append] at htxt; omega
    have hk1' : (v.kind == 1) = false := by simp [hk1]
    have hk2' : (v.kind == 2) = false := by simp [hk2]
    have hk4' : (v.kind == 4) = true := by simp [hk3]
    have hkl := V.may_keys hm hk3
    have HKL := Lib.hid hkl.1
    have HKO := Lib.hid hkl.2
    clear hkl
    have hlen4 : v.keys.length ≤ c4 ∧ c4 ≤ maxLen := by have := r4.1; rw [strsGv_length] at this; exact ⟨this, r4.2.1⟩
    unfold maxLen at hlen4
    have R4 := Lib.hid r4
    have HL : Hid (l.length + 16100 * v.cnt ≤ 100000000000) := Lib.hid hl
    have HIL := Lib.hid hlen0
    have HE := Lib.hid hE
    have HI0 : Hid (IsB B b l w) := Lib.hid hB
    have HALL := Lib.hid hall
    clear hall hB hl hE hm htxt hk1 hk2 hk3 r4 hlen0
    unfold V.cells
    go_enter Tryd.func23, Tryd.ntmps23
    go_wp2_with fail
    have hb0 : Below w.heap.size w (w.alloc (.cells #[.int .i64 v.kind, .int .i64 v.num, .string v.str, .slice A3 v.items.length c3, .slice A4 v.keys.length c4] 28)) := (Below.refl _ _).alloc (Nat.le_refl _) _
    refine (writeString_calls B b l _ _ (HI0.out.below hb0) ?_ ?_).mono ?_
    · have h1 := HL.out
      simp
      omega
    · simp; omega
    rintro e w2 ⟨rfl, hb3, hbb, hoo⟩
    have HW2 : Hid (WSt B b w (w.alloc (.cells #[.int .i64 v.kind, .int .i64 v.num, .string v.str, .slice A3 v.items.length c3, .slice A4 v.keys.length c4] 28)) (l ++ [123]) w2) := Lib.hid ⟨hb3, (hb0.mono hBw).trans hbb, hoo⟩
    clear hb3 hbb hoo hb0
    obtain ⟨w1, hw1⟩ : ∃ w1, w1 = w.alloc (.cells #[.int .i64 v.kind, .int .i64 v.num, .string v.str, .slice A3 v.items.length c3, .slice A4 v.keys.length c4] 28) := ⟨_, rfl⟩
    have hbox : w1.heap[w.heap.size]? = some (.cells #[.int .i64 v.kind, .int .i64 v.num, .string v.str, .slice A3 v.items.length c3, .slice A4 v.keys.length c4] 28 (0, 0)) := by rw [hw1]; exact heap_alloc_new w _
    rw [← hw1] at HW2
    have HW1 : Hid (OthersB b w w1) := Lib.hid (by rw [hw1]; exact (Lib.OthersKept.refl _ _ w).alloc _)
    clear hw1
    have hbne : w.heap.size ≠ b := by omega
    obtain ⟨x0, x3, x4⟩ := WSt.box HW2.out hbox hbne
    go_wp2_with fail
    go_loopw [33] (fun i wr => ∃ k : Nat, k ≤ v.items.length ∧ i = .int .i64 k ∧ Hid (WSt B b w w1 (l ++ 123 :: V.txts true v.keys 0 (v.items.take k)) wr)) (fun i _ => v.items.length - (intOf i).toNat)
    case atStart => exact ⟨0, Nat.zero_le _, rfl, Lib.hid (by have h := HW2.out; simpa [V.txts] using h)⟩
    case round =>
      clear x0 x3 x4 HW2
      obtain ⟨k, hk, rfl, HW⟩ := hrel
      obtain ⟨x0, x3, x4⟩ := WSt.box HW.out hbox hbne
      have hbel : w.heap.size < wr.heap.size := World.block_lt_of_cell? wr _ x0
      by_cases hlt : k < v.items.length
      · have hCr : C.le wr := WSt.le hC hCB HW.out
        obtain ⟨bb, o, hbo, B3, d3, B4, d4, hx, e0, e1, e2, e3, e4⟩ := V.elem hCr r3 k hlt
        obtain rfl := hbo
        obtain ⟨b', o', hbo', y0, yo⟩ := scal_elem hCr R4.out k (by have := HKL.out; omega)
        obtain rfl := hbo'
        have hby : b' < wr.heap.size := World.block_lt_of_cell? wr _ y0
        have hkk : k < v.keys.length := by have := HKL.out; omega
        have HKT : Hid (v.keys[k].size ≤ 4000) := Lib.hid (textOk_size (keysOk_text HKO.out k hkk))
        have HPK : Hid (v.keys.getD k ⟨#[]⟩ = v.keys[k]) := Lib.hid (by rw [List.getD_eq_getElem?_getD, List.getElem?_eq_getElem hkk, Option.getD_some])
        clear yo
        have HX := Lib.hid hx
        have HTK := Lib.hid (V.txts_take true v.keys v.items 0 k hlt)
        have hcnt := V.cnts_take v.items k hlt
        have hcnt2 := V.cnts_take_le v.items (k + 1)
        have hvc := V.cnt_eq v
        have htl := V.txts_length true v.keys (v.items.take k) 0 (fun x hx => V.all_mem HALL.out (List.mem_of_mem_take hx)) (fun hm j hj => keysOk_size HKO.out j)
        have HBD : Hid ((l ++ 123 :: V.txts true v.keys 0 (v.items.take k)).length + 8004 + 16100 * v.items[k].cnt ≤ 100000000000) := Lib.hid (by
          have h1 := HL.out
          have h2 := V.txts_length2 true v.keys v.items k hlt (fun x hx => V.all_mem HALL.out hx) (fun hm j hj => keysOk_size HKO.out j)
          simp only [List.length_append, List.length_cons]
          omega)
        have hdep : v.items[k].dep ≤ n := by rw [V.dep_eq] at hd; have h2 := V.deps_mem (List.getElem_mem hlt); omega
        have HALLX : Hid (v.items[k].all = true) := Lib.hid (V.all_mem HALL.out (List.getElem_mem hlt))
        clear hx hcnt hcnt2 hvc htl hCr
        by_cases hk0 : 0 < k
        · have hd0 : decide ((0 : Int) < k) = true := by simp; omega
          have HP : Hid (itemPre true v.keys (0 + k) = [44] ++ (quoL v.keys[k].data.toList ++ [58])) := Lib.hid (by simp [itemPre, hk0, hkk])
          go_wp2_with fail
          have hbx : Below wr.heap.size wr (wr.alloc (.cells #[.int .i64 v.items[k].kind, .int .i64 v.items[k].num, .string v.items[k].str, .slice B3 v.items[k].items.length d3, .slice B4 v.items[k].keys.length d4] 28)) := (Below.refl _ _).alloc (Nat.le_refl _) _
          have HX0 : Hid (WSt B b w w1 (l ++ 123 :: V.txts true v.keys 0 (v.items.take k)) (wr.alloc (.cells #[.int .i64 v.items[k].kind, .int .i64 v.items[k].num, .string v.items[k].str, .slice B3 v.items[k].items.length d3, .slice B4 v.items[k].keys.length d4] 28))) := Lib.hid (HW.out.below (by omega) hbx)
          have hxb : (wr.alloc (.cells #[.int .i64 v.items[k].kind, .int .i64 v.items[k].num, .string v.items[k].str, .slice B3 v.items[k].items.length d3, .slice B4 v.items[k].keys.length d4] 28)).heap[wr.heap.size]? = some (.cells #[.int .i64 v.items[k].kind, .int .i64 v.items[k].num, .string v.items[k].str, .slice B3 v.items[k].items.length d3, .slice B4 v.items[k].keys.length d4] 28 (0, 0)) := heap_alloc_new wr _
          have HXB := Lib.hid hxb
          have hxs : wr.heap.size < (wr.alloc (.cells #[.int .i64 v.items[k].kind, .int .i64 v.items[k].num, .string v.items[k].str, .slice B3 v.items[k].items.length d3, .slice B4 v.items[k].keys.length d4] 28)).heap.size := by simp
          clear hbx hxb x0 x3 x4 e0 e1 e2 e3 e4 y0
          generalize wr.alloc (.cells #[.int .i64 v.items[k].kind, .int .i64 v.items[k].num, .string v.items[k].str, .slice B3 v.items[k].items.length d3, .slice B4 v.items[k].keys.length d4] 28) = wa at HX0 HXB hxs ⊢
          refine (writeString_calls B b (l ++ 123 :: V.txts true v.keys 0 (v.items.take k)) _ _ HX0.out.isb ?_ ?_).mono ?_
          · have h1 := HBD.out
            simp [ByteArray.size]; simp at h1; omega
          · omega
          rintro e wb ⟨rfl, hb3, hbb, hoo⟩
          have wbW : Hid (WSt B b w w1 ((l ++ 123 :: V.txts true v.keys 0 (v.items.take k)) ++ [44]) wb) := Lib.hid ⟨by simpa using hb3, HX0.out.bel.trans hbb, Lib.OthersKept.trans HX0.out.oth hoo⟩
          have wbB := Lib.hid (OthersB.blk hoo HXB.out (by omega) (by decide))
          have wbs : wr.heap.size < wb.heap.size := Nat.lt_of_lt_of_le hxs hbb.size
          clear hb3 hbb hoo
          obtain ⟨x0, x3, x4⟩ := WSt.box wbW.out hbox hbne
          obtain ⟨b2, o2, hbo2, y0, yo⟩ := scal_elem (WSt.le hC hCB wbW.out) R4.out k (by have := HKL.out; omega)
          obtain ⟨rfl, rfl⟩ : b' = b2 ∧ o' = o2 := by simpa using hbo2
          clear hbo2 yo
          go_wp2_with fail
          refine (quoted_calls v.keys[k] _ (by have := HKT.out; omega) (HE.out.belowB hg1 hg2 wbW.out.bel)).mono ?_
          rintro e wq ⟨rfl, hbq⟩
          have HWQ : Hid (WSt B b w w1 ((l ++ 123 :: V.txts true v.keys 0 (v.items.take k)) ++ [44]) wq) := Lib.hid (wbW.out.below (by omega) hbq)
          have HBQ : Hid (wq.heap[wr.heap.size]? = some (.cells #[.int .i64 v.items[k].kind, .int .i64 v.items[k].num, .string v.items[k].str, .slice B3 v.items[k].items.length d3, .slice B4 v.items[k].keys.length d4] 28 (0, 0))) := Lib.hid (by rw [hbq.block _ wbs]; exact wbB.out)
          have hsq : wr.heap.size < wq.heap.size := Nat.lt_of_lt_of_le wbs hbq.size
          clear hbq x0 x3 x4 y0
          go_wp2_with fail
          refine (writeString_calls B b ((l ++ 123 :: V.txts true v.keys 0 (v.items.take k)) ++ [44]) _ _ HWQ.out.isb ?_ ?_).mono ?_
          · have h1 := HBD.out
            have h2 := quoL_size v.keys[k]
            have h3 := HKT.out
            rw [size_mk]
            simp; simp at h1 h2; omega
          · omega
          rintro e wc ⟨rfl, hb3, hbb, hoo⟩
          have wcW : Hid (WSt B b w w1 (((l ++ 123 :: V.txts true v.keys 0 (v.items.take k)) ++ [44]) ++ quoL v.keys[k].data.toList) wc) := Lib.hid ⟨by simpa using hb3, HWQ.out.bel.trans hbb, Lib.OthersKept.trans HWQ.out.oth hoo⟩
          have wcB := Lib.hid (OthersB.blk hoo HBQ.out (by omega) (by decide))
          have wcs : wr.heap.size < wc.heap.size := Nat.lt_of_lt_of_le hsq hbb.size
          clear hb3 hbb hoo
          go_wp2_with fail
          refine (writeString_calls B b (((l ++ 123 :: V.txts true v.keys 0 (v.items.take k)) ++ [44]) ++ quoL v.keys[k].data.toList) _ _ wcW.out.isb ?_ ?_).mono ?_
          · have h1 := HBD.out
            have h2 := quoL_size v.keys[k]
            have h3 := HKT.out
            simp [ByteArray.size]; simp at h1 h2; omega
          · omega
          rintro e wd ⟨rfl, hb3, hbb, hoo⟩
          have wdW : Hid (WSt B b w w1 ((((l ++ 123 :: V.txts true v.keys 0 (v.items.take k)) ++ [44]) ++ quoL v.keys[k].data.toList) ++ [58]) wd) := Lib.hid ⟨by simpa using hb3, wcW.out.bel.trans hbb, Lib.OthersKept.trans wcW.out.oth hoo⟩
          have wdB := Lib.hid (OthersB.blk hoo wcB.out (by omega) (by decide))
          have wds : wr.heap.size < wd.heap.size := Nat.lt_of_lt_of_le wcs hbb.size
          clear hb3 hbb hoo
          have HXC := wdB.out
          have z0 := cell_of_row _ _ 0 _ _ _ HXC
          have z1 := cell_of_row _ _ 1 _ _ _ HXC
          have z2 := cell_of_row _ _ 2 _ _ _ HXC
          have z3 := cell_of_row _ _ 3 _ _ _ HXC
          have z4 := cell_of_row _ _ 4 _ _ _ HXC
          simp only [List.getElem?_toArray, List.getElem?_cons_zero, List.getElem?_cons_succ] at z0 z1 z2 z3 z4
          clear HXC
          go_wp2_with fail
          have HIH := ih v.items[k] C B b ((((l ++ 123 :: V.txts true v.keys 0 (v.items.take k)) ++ [44]) ++ quoL v.keys[k].data.toList) ++ [58]) _ B3 d3 B4 d4 hdep (WSt.le hC hCB wdW.out) hCB HX.out HALLX.out wdW.out.isb ?_ (by omega) (HE.out.belowB hg1 hg2 wdW.out.bel) hg1 hg2
          unfold V.cells at HIH
          refine HIH.mono ?_
          rintro e wz ⟨rfl, hb3, hbb, hoo⟩
          have HWZ : Hid (WSt B b w w1 (l ++ 123 :: V.txts true v.keys 0 (v.items.take (k + 1))) wz) := Lib.hid ⟨by rw [HTK.out, HP.out]; simpa using hb3, wdW.out.bel.trans hbb, Lib.OthersKept.trans wdW.out.oth hoo⟩
          clear hb3 hbb hoo z0 z1 z2 z3 z4 HIH
          go_wp2_with fail
          go_roundw
          case rel => exact ⟨k + 1, by omega, by go_num, HWZ⟩
          case measure => simp [intOf]; omega
          have h1 := HBD.out
          have h2 := quoL_size v.keys[k]
          have h3 := HKT.out
          simp; simp at h1 h2; omega
        · have hd0 : decide ((0 : Int) < k) = false := by simp; omega
          have HP : Hid (itemPre true v.keys (0 + k) = [] ++ (quoL v.keys[k].data.toList ++ [58])) := Lib.hid (by simp [itemPre, hk0, hkk])
          go_wp2_with fail
          have hbx : Below wr.heap.size wr (wr.alloc (.cells #[.int .i64 v.items[k].kind, .int .i64 v.items[k].num, .string v.items[k].str, .slice B3 v.items[k].items.length d3, .slice B4 v.items[k].keys.length d4] 28)) := (Below.refl _ _).alloc (Nat.le_refl _) _
          have HX0 : Hid (WSt B b w w1 (l ++ 123 :: V.txts true v.keys 0 (v.items.take k)) (wr.alloc (.cells #[.int .i64 v.items[k].kind, .int .i64 v.items[k].num, .string v.items[k].str, .slice B3 v.items[k].items.length d3, .slice B4 v.items[k].keys.length d4] 28))) := Lib.hid (HW.out.below (by omega) hbx)
          have hxb : (wr.alloc (.cells #[.int .i64 v.items[k].kind, .int .i64 v.items[k].num, .string v.items[k].str, .slice B3 v.items[k].items.length d3, .slice B4 v.items[k].keys.length d4] 28)).heap[wr.heap.size]? = some (.cells #[.int .i64 v.items[k].kind, .int .i64 v.items[k].num, .string v.items[k].str, .slice B3 v.items[k].items.length d3, .slice B4 v.items[k].keys.length d4] 28 (0, 0)) := heap_alloc_new wr _
          have HXB := Lib.hid hxb
          have hxs : wr.heap.size < (wr.alloc (.cells #[.int .i64 v.items[k].kind, .int .i64 v.items[k].num, .string v.items[k].str, .slice B3 v.items[k].items.length d3, .slice B4 v.items[k].keys.length d4] 28)).heap.size := by simp
          clear hbx hxb x0 x3 x4 e0 e1 e2 e3 e4 y0
          generalize wr.alloc (.cells #[.int .i64 v.items[k].kind, .int .i64 v.items[k].num, .string v.items[k].str, .slice B3 v.items[k].items.length d3, .slice B4 v.items[k].keys.length d4] 28) = wa at HX0 HXB hxs ⊢
          obtain ⟨x0, x3, x4⟩ := WSt.box HX0.out hbox hbne
          obtain ⟨b2, o2, hbo2, y0, yo⟩ := scal_elem (WSt.le hC hCB HX0.out) R4.out k (by have := HKL.out; omega)
          obtain ⟨rfl, rfl⟩ : b' = b2 ∧ o' = o2 := by simpa using hbo2
          clear hbo2 yo
          go_wp2_with fail
          refine (quoted_calls v.keys[k] _ (by have := HKT.out; omega) (HE.out.belowB hg1 hg2 HX0.out.bel)).mono ?_
          rintro e wq ⟨rfl, hbq⟩
          have HWQ : Hid (WSt B b w w1 (l ++ 123 :: V.txts true v.keys 0 (v.items.take k)) wq) := Lib.hid (HX0.out.below (by omega) hbq)
          have HBQ : Hid (wq.heap[wr.heap.size]? = some (.cells #[.int .i64 v.items[k].kind, .int .i64 v.items[k].num, .string v.items[k].str, .slice B3 v.items[k].items.length d3, .slice B4 v.items[k].keys.length d4] 28 (0, 0))) := Lib.hid (by rw [hbq.block _ hxs]; exact HXB.out)
          have hsq : wr.heap.size < wq.heap.size := Nat.lt_of_lt_of_le hxs hbq.size
          clear hbq x0 x3 x4 y0
          go_wp2_with fail
          refine (writeString_calls B b (l ++ 123 :: V.txts true v.keys 0 (v.items.take k)) _ _ HWQ.out.isb ?_ ?_).mono ?_
          · have h1 := HBD.out
            have h2 := quoL_size v.keys[k]
            have h3 := HKT.out
            rw [size_mk]
            simp; simp at h1 h2; omega
          · omega
          rintro e wc ⟨rfl, hb3, hbb, hoo⟩
          have wcW : Hid (WSt B b w w1 ((l ++ 123 :: V.txts true v.keys 0 (v.items.take k)) ++ quoL v.keys[k].data.toList) wc) := Lib.hid ⟨by simpa using hb3, HWQ.out.bel.trans hbb, Lib.OthersKept.trans HWQ.out.oth hoo⟩
          have wcB := Lib.hid (OthersB.blk hoo HBQ.out (by omega) (by decide))
          have wcs : wr.heap.size < wc.heap.size := Nat.lt_of_lt_of_le hsq hbb.size
          clear hb3 hbb hoo
          go_wp2_with fail
          refine (writeString_calls B b ((l ++ 123 :: V.txts true v.keys 0 (v.items.take k)) ++ quoL v.keys[k].data.toList) _ _ wcW.out.isb ?_ ?_).mono ?_
          · have h1 := HBD.out
            have h2 := quoL_size v.keys[k]
            have h3 := HKT.out
            simp [ByteArray.size]; simp at h1 h2; omega
          · omega
          rintro e wd ⟨rfl, hb3, hbb, hoo⟩
          have wdW : Hid (WSt B b w w1 (((l ++ 123 :: V.txts true v.keys 0 (v.items.take k)) ++ quoL v.keys[k].data.toList) ++ [58]) wd) := Lib.hid ⟨by simpa using hb3, wcW.out.bel.trans hbb, Lib.OthersKept.trans wcW.out.oth hoo⟩
          have wdB := Lib.hid (OthersB.blk hoo wcB.out (by omega) (by decide))
          have wds : wr.heap.size < wd.heap.size := Nat.lt_of_lt_of_le wcs hbb.size
          clear hb3 hbb hoo
          have HXC := wdB.out
          have z0 := cell_of_row _ _ 0 _ _ _ HXC
          have z1 := cell_of_row _ _ 1 _ _ _ HXC
          have z2 := cell_of_row _ _ 2 _ _ _ HXC
          have z3 := cell_of_row _ _ 3 _ _ _ HXC
          have z4 := cell_of_row _ _ 4 _ _ _ HXC
          simp only [List.getElem?_toArray, List.getElem?_cons_zero, List.getElem?_cons_succ] at z0 z1 z2 z3 z4
          clear HXC
          go_wp2_with fail
          have HIH := ih v.items[k] C B b (((l ++ 123 :: V.txts true v.keys 0 (v.items.take k)) ++ quoL v.keys[k].data.toList) ++ [58]) _ B3 d3 B4 d4 hdep (WSt.le hC hCB wdW.out) hCB HX.out HALLX.out wdW.out.isb ?_ (by omega) (HE.out.belowB hg1 hg2 wdW.out.bel) hg1 hg2
          unfold V.cells at HIH
          refine HIH.mono ?_
          rintro e wz ⟨rfl, hb3, hbb, hoo⟩
          have HWZ : Hid (WSt B b w w1 (l ++ 123 :: V.txts true v.keys 0 (v.items.take (k + 1))) wz) := Lib.hid ⟨by rw [HTK.out, HP.out]; simpa using hb3, wdW.out.bel.trans hbb, Lib.OthersKept.trans wdW.out.oth hoo⟩
          clear hb3 hbb hoo z0 z1 z2 z3 z4 HIH
          go_wp2_with fail
          go_roundw
          case rel => exact ⟨k + 1, by omega, by go_num, HWZ⟩
          case measure => simp [intOf]; omega
          have h1 := HBD.out
          have h2 := quoL_size v.keys[k]
          have h3 := HKT.out
          simp; simp at h1 h2; omega
      · have hge : v.items.length ≤ k := by omega
        have HTE := Lib.hid (List.take_of_length_le hge)
        go_wp2_with fail
        refine (writeString_calls B b _ _ _ HW.out.isb ?_ ?_).mono ?_
        · have h1 := HL.out
          have h2 := HIL.out
          rw [HTE.out]
          simp
          omega
        · omega
        rintro e wz ⟨rfl, hb3, hbb, hoo⟩
        have HI3 : Hid (IsB B b (l ++ v.txt) wz) := Lib.hid (by rw [HTE.out] at hb3; rw [HT.out]; simpa using hb3)
        have HB3 : Hid (Below B w wz) := Lib.hid (HW.out.bel.trans hbb)
        have HO3 : Hid (OthersB b w wz) := Lib.hid (Lib.OthersKept.trans HW1.out (Lib.OthersKept.trans HW.out.oth hoo))
        clear hb3 hbb hoo
        go_wp2_with fail
        go_returns
        exact ⟨rfl, HI3.out, HB3.out, HO3.out⟩
  · have HT : Hid (v.txt = 91 :: (V.txts false v.keys 0 v.items ++ [93])) := Lib.hid (by rw [V.txt_eq, if_neg hk1, if_neg hk2]; simp [hk3])
    have hlen0 : (V.txts false v.keys 0 v.items).length ≤ 16100 * v.cnt := by have h1 := HT.out; rw [h1] at htxt; simp only [List.length_cons, List.length_append] at htxt; omega
    have hk1' : (v.kind == 1) = false := by simp [hk1]
    have hk2' : (v.kind == 2) = false := by simp [hk2]
    have hk4' : (v.kind == 4) = false := by simp [hk3]
    have HL : Hid (l.length + 16100 * v.cnt ≤ 100000000000) := Lib.hid hl
    have HIL := Lib.hid hlen0
    have HE := Lib.hid hE
    have HI0 : Hid (IsB B b l w) := Lib.hid hB
    have HALL := Lib.hid hall
    clear hall hB hl hE hm htxt hk1 hk2 hk3 r4 hlen0
    unfold V.cells
    go_enter Tryd.func23, Tryd.ntmps23
    go_wp2_with fail
    have hb0 : Below w.heap.size w (w.alloc (.cells #[.int .i64 v.kind, .int .i64 v.num, .string v.str, .slice A3 v.items.length c3, .slice A4 v.keys.length c4] 28)) := (Below.refl _ _).alloc (Nat.le_refl _) _
    refine (writeString_calls B b l _ _ (HI0.out.below hb0) ?_ ?_).mono ?_
    · have h1 := HL.out
      simp
      omega
    · simp; omega
    rintro e w2 ⟨rfl, hb3, hbb, hoo⟩
    have HW2 : Hid (WSt B b w (w.alloc (.cells #[.int .i64 v.kind, .int .i64 v.num, .string v.str, .slice A3 v.items.length c3, .slice A4 v.keys.length c4] 28)) (l ++ [91]) w2) := Lib.hid ⟨hb3, (hb0.mono hBw).trans hbb, hoo⟩
    clear hb3 hbb hoo hb0
    obtain ⟨w1, hw1⟩ : ∃ w1, w1 = w.alloc (.cells #[.int .i64 v.kind, .int .i64 v.num, .string v.str, .slice A3 v.items.length c3, .slice A4 v.keys.length c4] 28) := ⟨_, rfl⟩
    have hbox : w1.heap[w.heap.size]? = some (.cells #[.int .i64 v.kind, .int .i64 v.num, .string v.str, .slice A3 v.items.length c3, .slice A4 v.keys.length c4] 28 (0, 0)) := by rw [hw1]; exact heap_alloc_new w _
    rw [← hw1] at HW2
    have HW1 : Hid (OthersB b w w1) := Lib.hid (by rw [hw1]; exact (Lib.OthersKept.refl _ _ w).alloc _)
    clear hw1
    have hbne : w.heap.size ≠ b := by omega
    obtain ⟨x0, x3, x4⟩ := WSt.box HW2.out hbox hbne
    go_wp2_with fail
    go_loopw [33] (fun i wr => ∃ k : Nat, k ≤ v.items.length ∧ i = .int .i64 k ∧ Hid (WSt B b w w1 (l ++ 91 :: V.txts false v.keys 0 (v.items.take k)) wr)) (fun i _ => v.items.length - (intOf i).toNat)
    case atStart => exact ⟨0, Nat.zero_le _, rfl, Lib.hid (by have h := HW2.out; simpa [V.txts] using h)⟩
    case round =>
      clear x0 x3 x4 HW2
      obtain ⟨k, hk, rfl, HW⟩ := hrel
      obtain ⟨x0, x3, x4⟩ := WSt.box HW.out hbox hbne
      have hbel : w.heap.size < wr.heap.size := World.block_lt_of_cell? wr _ x0
      by_cases hlt : k < v.items.length
      · have hCr : C.le wr := WSt.le hC hCB HW.out
        obtain ⟨bb, o, hbo, B3, d3, B4, d4, hx, e0, e1, e2, e3, e4⟩ := V.elem hCr r3 k hlt
        obtain rfl := hbo
        have HX := Lib.hid hx
        have HTK := Lib.hid (V.txts_take false v.keys v.items 0 k hlt)
        have hcnt := V.cnts_take v.items k hlt
        have hcnt2 := V.cnts_take_le v.items (k + 1)
        have hvc := V.cnt_eq v
        have htl := V.txts_length false v.keys (v.items.take k) 0 (fun x hx => V.all_mem HALL.out (List.mem_of_mem_take hx)) (fun hm j hj => by cases hm)
        have HBD : Hid ((l ++ 91 :: V.txts false v.keys 0 (v.items.take k)).length + 8004 + 16100 * v.items[k].cnt ≤ 100000000000) := Lib.hid (by
          have h1 := HL.out
          have h2 := V.txts_length2 false v.keys v.items k hlt (fun x hx => V.all_mem HALL.out hx) (fun hm j hj => by cases hm)
          simp only [List.length_append, List.length_cons]
          omega)
        have hdep : v.items[k].dep ≤ n := by rw [V.dep_eq] at hd; have h2 := V.deps_mem (List.getElem_mem hlt); omega
        have HALLX : Hid (v.items[k].all = true) := Lib.hid (V.all_mem HALL.out (List.getElem_mem hlt))
        clear hx hcnt hcnt2 hvc htl hCr
        by_cases hk0 : 0 < k
        · have hd0 : decide ((0 : Int) < k) = true := by simp; omega
          have HP : Hid (itemPre false v.keys (0 + k) = [44]) := Lib.hid (by simp [itemPre, hk0])
          go_wp2_with fail
          have hbx : Below wr.heap.size wr (wr.alloc (.cells #[.int .i64 v.items[k].kind, .int .i64 v.items[k].num, .string v.items[k].str, .slice B3 v.items[k].items.length d3, .slice B4 v.items[k].keys.length d4] 28)) := (Below.refl _ _).alloc (Nat.le_refl _) _
          have HX0 : Hid (WSt B b w w1 (l ++ 91 :: V.txts false v.keys 0 (v.items.take k)) (wr.alloc (.cells #[.int .i64 v.items[k].kind, .int .i64 v.items[k].num, .string v.items[k].str, .slice B3 v.items[k].items.length d3, .slice B4 v.items[k].keys.length d4] 28))) := Lib.hid (HW.out.below (by omega) hbx)
          have hxb : (wr.alloc (.cells #[.int .i64 v.items[k].kind, .int .i64 v.items[k].num, .string v.items[k].str, .slice B3 v.items[k].items.length d3, .slice B4 v.items[k].keys.length d4] 28)).heap[wr.heap.size]? = some (.cells #[.int .i64 v.items[k].kind, .int .i64 v.items[k].num, .string v.items[k].str, .slice B3 v.items[k].items.length d3, .slice B4 v.items[k].keys.length d4] 28 (0, 0)) := heap_alloc_new wr _
          have HXB := Lib.hid hxb
          have hxs : wr.heap.size < (wr.alloc (.cells #[.int .i64 v.items[k].kind, .int .i64 v.items[k].num, .string v.items[k].str, .slice B3 v.items[k].items.length d3, .slice B4 v.items[k].keys.length d4] 28)).heap.size := by simp
          clear hbx hxb x0 x3 x4 e0 e1 e2 e3 e4
          generalize wr.alloc (.cells #[.int .i64 v.items[k].kind, .int .i64 v.items[k].num, .string v.items[k].str, .slice B3 v.items[k].items.length d3, .slice B4 v.items[k].keys.length d4] 28) = wa at HX0 HXB hxs ⊢
          refine (writeString_calls B b (l ++ 91 :: V.txts false v.keys 0 (v.items.take k)) _ _ HX0.out.isb ?_ ?_).mono ?_
          · have h1 := HBD.out
            simp [ByteArray.size]; simp at h1; omega
          · omega
          rintro e wb ⟨rfl, hb3, hbb, hoo⟩
          have wbW : Hid (WSt B b w w1 ((l ++ 91 :: V.txts false v.keys 0 (v.items.take k)) ++ [44]) wb) := Lib.hid ⟨by simpa using hb3, HX0.out.bel.trans hbb, Lib.OthersKept.trans HX0.out.oth hoo⟩
          have wbB := Lib.hid (OthersB.blk hoo HXB.out (by omega) (by decide))
          have wbs : wr.heap.size < wb.heap.size := Nat.lt_of_lt_of_le hxs hbb.size
          clear hb3 hbb hoo
          obtain ⟨x0, x3, x4⟩ := WSt.box wbW.out hbox hbne
          have HXC := wbB.out
          have z0 := cell_of_row _ _ 0 _ _ _ HXC
          have z1 := cell_of_row _ _ 1 _ _ _ HXC
          have z2 := cell_of_row _ _ 2 _ _ _ HXC
          have z3 := cell_of_row _ _ 3 _ _ _ HXC
          have z4 := cell_of_row _ _ 4 _ _ _ HXC
          simp only [List.getElem?_toArray, List.getElem?_cons_zero, List.getElem?_cons_succ] at z0 z1 z2 z3 z4
          clear HXC
          go_wp2_with fail
          have HIH := ih v.items[k] C B b ((l ++ 91 :: V.txts false v.keys 0 (v.items.take k)) ++ [44]) _ B3 d3 B4 d4 hdep (WSt.le hC hCB wbW.out) hCB HX.out HALLX.out wbW.out.isb ?_ (by omega) (HE.out.belowB hg1 hg2 wbW.out.bel) hg1 hg2
          unfold V.cells at HIH
          refine HIH.mono ?_
          rintro e wz ⟨rfl, hb3, hbb, hoo⟩
          have HWZ : Hid (WSt B b w w1 (l ++ 91 :: V.txts false v.keys 0 (v.items.take (k + 1))) wz) := Lib.hid ⟨by rw [HTK.out, HP.out]; simpa using hb3, wbW.out.bel.trans hbb, Lib.OthersKept.trans wbW.out.oth hoo⟩
          clear hb3 hbb hoo z0 z1 z2 z3 z4 HIH
          go_wp2_with fail
          go_roundw
          case rel => exact ⟨k + 1, by omega, by go_num, HWZ⟩
          case measure => simp [intOf]; omega
          have h1 := HBD.out
          simp; simp at h1; omega
        · have hd0 : decide ((0 : Int) < k) = false := by simp; omega
          have HP : Hid (itemPre false v.keys (0 + k) = []) := Lib.hid (by simp [itemPre, hk0])
          go_wp2_with fail
          have hbx : Below wr.heap.size wr (wr.alloc (.cells #[.int .i64 v.items[k].kind, .int .i64 v.items[k].num, .string v.items[k].str, .slice B3 v.items[k].items.length d3, .slice B4 v.items[k].keys.length d4] 28)) := (Below.refl _ _).alloc (Nat.le_refl _) _
          have HX0 : Hid (WSt B b w w1 (l ++ 91 :: V.txts false v.keys 0 (v.items.take k)) (wr.alloc (.cells #[.int .i64 v.items[k].kind, .int .i64 v.items[k].num, .string v.items[k].str, .slice B3 v.items[k].items.length d3, .slice B4 v.items[k].keys.length d4] 28))) := Lib.hid (HW.out.below (by omega) hbx)
          have hxb : (wr.alloc (.cells #[.int .i64 v.items[k].kind, .int .i64 v.items[k].num, .string v.items[k].str, .slice B3 v.items[k].items.length d3, .slice B4 v.items[k].keys.length d4] 28)).heap[wr.heap.size]? = some (.cells #[.int .i64 v.items[k].kind, .int .i64 v.items[k].num, .string v.items[k].str, .slice B3 v.items[k].items.length d3, .slice B4 v.items[k].keys.length d4] 28 (0, 0)) := heap_alloc_new wr _
          have HXB := Lib.hid hxb
          have hxs : wr.heap.size < (wr.alloc (.cells #[.int .i64 v.items[k].kind, .int .i64 v.items[k].num, .string v.items[k].str, .slice B3 v.items[k].items.length d3, .slice B4 v.items[k].keys.length d4] 28)).heap.size := by simp
          clear hbx hxb x0 x3 x4 e0 e1 e2 e3 e4
          generalize wr.alloc (.cells #[.int .i64 v.items[k].kind, .int .i64 v.items[k].num, .string v.items[k].str, .slice B3 v.items[k].items.length d3, .slice B4 v.items[k].keys.length d4] 28) = wa at HX0 HXB hxs ⊢
          obtain ⟨x0, x3, x4⟩ := WSt.box HX0.out hbox hbne
          have HXC := HXB.out
          have z0 := cell_of_row _ _ 0 _ _ _ HXC
          have z1 := cell_of_row _ _ 1 _ _ _ HXC
          have z2 := cell_of_row _ _ 2 _ _ _ HXC
          have z3 := cell_of_row _ _ 3 _ _ _ HXC
          have z4 := cell_of_row _ _ 4 _ _ _ HXC
          simp only [List.getElem?_toArray, List.getElem?_cons_zero, List.getElem?_cons_succ] at z0 z1 z2 z3 z4
          clear HXC
          go_wp2_with fail
          have HIH := ih v.items[k] C B b (l ++ 91 :: V.txts false v.keys 0 (v.items.take k)) _ B3 d3 B4 d4 hdep (WSt.le hC hCB HX0.out) hCB HX.out HALLX.out HX0.out.isb ?_ (by omega) (HE.out.belowB hg1 hg2 HX0.out.bel) hg1 hg2
          unfold V.cells at HIH
          refine HIH.mono ?_
          rintro e wz ⟨rfl, hb3, hbb, hoo⟩
          have HWZ : Hid (WSt B b w w1 (l ++ 91 :: V.txts false v.keys 0 (v.items.take (k + 1))) wz) := Lib.hid ⟨by rw [HTK.out, HP.out]; simpa using hb3, HX0.out.bel.trans hbb, Lib.OthersKept.trans HX0.out.oth hoo⟩
          clear hb3 hbb hoo z0 z1 z2 z3 z4 HIH
          go_wp2_with fail
          go_roundw
          case rel => exact ⟨k + 1, by omega, by go_num, HWZ⟩
          case measure => simp [intOf]; omega
          have h1 := HBD.out
          simp; simp at h1; omega
      · have hge : v.items.length ≤ k := by omega
        have HTE := Lib.hid (List.take_of_length_le hge)
        go_wp2_with fail
        refine (writeString_calls B b _ _ _ HW.out.isb ?_ ?_).mono ?_
        · have h1 := HL.out
          have h2 := HIL.out
          rw [HTE.out]
          simp
          omega
        · omega
        rintro e wz ⟨rfl, hb3, hbb, hoo⟩
        have HI3 : Hid (IsB B b (l ++ v.txt) wz) := Lib.hid (by rw [HTE.out] at hb3; rw [HT.out]; simpa using hb3)
        have HB3 : Hid (Below B w wz) := Lib.hid (HW.out.bel.trans hbb)
        have HO3 : Hid (OthersB b w wz) := Lib.hid (Lib.OthersKept.trans HW1.out (Lib.OthersKept.trans HW.out.oth hoo))
        clear hb3 hbb hoo
        go_wp2_with fail
        go_returns
        exact ⟨rfl, HI3.out, HB3.out, HO3.out⟩
end Go.Proofs.YtbkoajipljjonaaDoor
