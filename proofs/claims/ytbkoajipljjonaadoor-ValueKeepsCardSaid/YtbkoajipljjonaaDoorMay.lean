/- value.keys and value.may: which keys may be, which value may be but for its items. -/
import Derived.Test.YtbkoajipljjonaaDoorText
import Derived.WalkLawsBesides
namespace Go.Proofs.YtbkoajipljjonaaDoor
open Go.RowKit Go.Shelf

/-- Byte by byte. -/
def ltB (a b : ByteArray) : Bool := Op.bytesLess a.toList b.toList
def keyBad (l : List ByteArray) (i : Nat) : Bool := !textOk (l.getD i ⟨#[]⟩) || (decide (0 < i) && !ltB (l.getD (i - 1) ⟨#[]⟩) (l.getD i ⟨#[]⟩))
/-- May keys be? -/
def keysOk (l : List ByteArray) : Bool := (List.range l.length).all fun i => !keyBad l i
theorem keysOk_true {l : List ByteArray} (h : ∀ i, i < l.length → keyBad l i = false) : keysOk l = true := by
  simp only [keysOk, List.all_eq_true, List.mem_range]
  intro i hi
  rw [h i hi]
  rfl
theorem keysOk_false {l : List ByteArray} (i : Nat) (hi : i < l.length) (h : keyBad l i = true) : keysOk l = false := by
  rw [← Bool.not_eq_true]
  intro ht
  simp only [keysOk, List.all_eq_true, List.mem_range] at ht
  have := ht i hi
  rw [h] at this
  cases this

set_option maxHeartbeats 1000000 in
theorem keys_calls (C : Cm) (w : World) (A : Option Addr) (c : Nat) (l : List ByteArray) (hC : C.le w) (hr : RdSl C A c 1 (strsGv l)) :
    Calls Tryd.prog 52 #[.slice A l.length c] w fun e w' => e = .returned (.bool (keysOk l)) ∧ Below w.heap.size w w' := by
  have hlen : l.length ≤ c ∧ c ≤ maxLen := by have := hr.1; rw [strsGv_length] at this; exact ⟨this, hr.2.1⟩
  unfold maxLen at hlen
  have HC := Lib.hid hC
  have HR := Lib.hid hr
  clear hC hr
  go_enter Tryd.func52, Tryd.ntmps52
  go_wp2_with fail
  go_loopw [7] (fun i wr => ∃ k : Nat, k ≤ l.length ∧ i = .int .i64 k ∧ Hid (∀ j, j < k → keyBad l j = false) ∧ Below w.heap.size w wr) (fun i _ => l.length - (intOf i).toNat)
  case atStart => exact ⟨0, Nat.zero_le _, rfl, fun j hj => by omega, Below.refl _ _⟩
  case round =>
    obtain ⟨k, hk, rfl, hno, hb⟩ := hrel
    have hbs := hb.size
    by_cases hlt : k < l.length
    · obtain ⟨b, o, rfl, e0, ho⟩ := scal_elem HC.out HR.out k hlt
      replace e0 := (hb.cell (World.block_lt_of_cell? w _ e0)).trans e0
      have HO := Lib.hid ho
      clear ho
      go_wp2_with fail
      refine (text_calls l[k] wr HO.out).mono ?_
      rintro e w2 ⟨rfl, hb2⟩
      have hb3 : Below w.heap.size w w2 := hb.trans (hb2.mono hbs)
      have hbs3 := hb3.size
      clear hb hb2 e0
      cases hpx : textOk l[k]
      · have HX := Lib.hid (keysOk_false k hlt (by simp [keyBad, hlt, hpx]))
        clear hpx
        go_wp2_with fail
        go_ret
        exact ⟨ret_bool HX.out.symm, hb3⟩
      · by_cases hk0 : 0 < k
        · obtain ⟨b', o', hbo, e1, _⟩ := scal_elem HC.out HR.out (k - 1) (by omega)
          obtain ⟨rfl, rfl⟩ : b = b' ∧ o = o' := by simpa using hbo
          replace e1 := (hb3.cell (World.block_lt_of_cell? w _ e1)).trans e1
          have HPX := Lib.hid hpx
          have hd0 : decide ((0 : Int) < k) = true := by simp; omega
          clear hpx hbo
          cases hlt2 : ltB l[k - 1] l[k]
          · have HX := Lib.hid (keysOk_false k hlt (by simp [keyBad, hlt, hk0, hlt2, show k - 1 < l.length by omega]))
            unfold ltB at hlt2
            go_wp2_with fail
            go_ret
            exact ⟨ret_bool HX.out.symm, hb3⟩
          · have HN : Hid (keyBad l k = false) := Lib.hid (by simp [keyBad, hlt, hk0, hlt2, HPX.out, show k - 1 < l.length by omega])
            unfold ltB at hlt2
            go_wp2_with fail
            go_roundw
            case rel => exact ⟨k + 1, by omega, by go_num, fun j hj => by
              by_cases hjk : j = k
              · subst hjk; exact HN.out
              · exact hno.out j (by omega), hb3⟩
            case measure => simp [intOf]; omega
        · have HN : Hid (keyBad l k = false) := Lib.hid (by simp [keyBad, hlt, hpx, hk0])
          have hd0 : decide ((0 : Int) < k) = false := by simp; omega
          clear hpx
          go_wp2_with fail
          go_roundw
          case rel => exact ⟨k + 1, by omega, by go_num, fun j hj => by
            by_cases hjk : j = k
            · subst hjk; exact HN.out
            · exact hno.out j (by omega), hb3⟩
          case measure => simp [intOf]; omega
    · have HX := Lib.hid (keysOk_true (fun j hj => hno.out j (by omega)))
      go_wp2_with fail
      go_ret
      exact ⟨ret_bool HX.out.symm, hb⟩

def V.bare (v : V) : Bool := v.items.length == 0 && v.keys.length == 0
/-- May a value be, but for how deep and how many it is, and its items? -/
def V.may (v : V) : Bool :=
  if v.kind = 1 then v.bare && v.str.toList.isEmpty && decide (-1099511627776 ≤ v.num) && decide (v.num ≤ 1099511627776)
  else if v.kind = 2 then v.bare && v.num == 0 && textOk v.str
  else if v.kind = 3 then v.num == 0 && v.str.toList.isEmpty && v.keys.length == 0
  else if v.kind = 4 then v.num == 0 && v.str.toList.isEmpty && v.keys.length == v.items.length && keysOk v.keys
  else false

set_option linter.unusedSimpArgs false in
set_option maxHeartbeats 1000000 in
set_option maxRecDepth 100000 in
theorem may_calls (v : V) (C : Cm) (w : World) (A3 : Option Addr) (c3 : Nat) (A4 : Option Addr) (c4 : Nat) (hC : C.le w) (hr : Rd C v.gv (v.cells A3 c3 A4 c4)) :
    Calls Tryd.prog 36 #[.agg (v.cells A3 c3 A4 c4).toArray] w fun e w' => e = .returned (.bool v.may) ∧ Below w.heap.size w w' := by
  obtain ⟨_, _, _, _, he, o1, o2, o3, r3, r4⟩ := V.open hr
  simp only [V.cells, List.cons.injEq, Value.slice.injEq, and_true, true_and] at he
  obtain ⟨⟨rfl, rfl⟩, rfl, rfl⟩ := he
  have hb0 : Below w.heap.size w w := Below.refl _ _
  have HT := fun W => text_calls v.str W o3
  have HK : ∀ (n : Nat) (W : World), v.keys.length = n → Below w.heap.size w W → Calls Tryd.prog 52 #[.slice A4 n c4] W fun e w' => e = .returned (.bool (keysOk v.keys)) ∧ Below W.heap.size W w' :=
    fun n W hn hb => by subst hn; exact keys_calls C W A4 c4 v.keys (Cm.le_below hC hb) r4
  have HTT := Lib.hid HT
  have HKK := Lib.hid HK
  clear hr o1 o2 o3 r3 r4 hC HT HK
  unfold V.cells
  obtain ⟨n3, hn3⟩ : ∃ n, v.items.length = n := ⟨_, rfl⟩
  obtain ⟨n4, hn4⟩ : ∃ n, v.keys.length = n := ⟨_, rfl⟩
  rw [hn3, hn4]
  have HN3 := Lib.hid hn3
  have HN4 := Lib.hid hn4
  clear hn3 hn4
  by_cases h1 : v.kind = 1
  · have H : Hid (v.may = (v.bare && v.str.toList.isEmpty && decide (-1099511627776 ≤ v.num) && decide (v.num ≤ 1099511627776))) := Lib.hid (by simp [V.may, h1])
    have hk : (v.kind == 1) = true := by simp [h1]
    clear h1
    go_enter Tryd.func36, Tryd.ntmps36
    go_wp2_with fail
    all_goals (go_ret; refine ⟨ret_bool ?_, by go_grown⟩; rw [H.out]; first | (simp [V.bare, HN3.out, HN4.out, *]; done) | (simp [V.bare, HN3.out, HN4.out, *]; intros; omega) | (rw [Bool.eq_iff_iff]; simp [V.bare, HN3.out, HN4.out, *]; done) | (rw [Bool.eq_iff_iff]; simp [V.bare, HN3.out, HN4.out, *]; omega))
  by_cases h2 : v.kind = 2
  · have H : Hid (v.may = (v.bare && v.num == 0 && textOk v.str)) := Lib.hid (by simp [V.may, h2])
    have hk1 : (v.kind == 1) = false := by simp [h2]
    have hk2 : (v.kind == 2) = true := by simp [h2]
    clear h2
    go_enter Tryd.func36, Tryd.ntmps36
    go_wp2_with (go_at_call 51; refine (HTT.out _).mono ?_; rintro e w2 ⟨rfl, hb2⟩; have hb3 : Below w.heap.size w w2 := (by go_grown : Below w.heap.size w _).trans (hb2.mono (by simp)); clear hb2)
    all_goals (go_ret; refine ⟨ret_bool ?_, by go_grown⟩; rw [H.out]; first | (simp [V.bare, HN3.out, HN4.out, *]; done) | (simp [V.bare, HN3.out, HN4.out, *]; intros; omega) | (rw [Bool.eq_iff_iff]; simp [V.bare, HN3.out, HN4.out, *]; done) | (rw [Bool.eq_iff_iff]; simp [V.bare, HN3.out, HN4.out, *]; omega))
  by_cases h3 : v.kind = 3
  · have H : Hid (v.may = (v.num == 0 && v.str.toList.isEmpty && v.keys.length == 0)) := Lib.hid (by simp [V.may, h3])
    have hk1 : (v.kind == 1) = false := by simp [h3]
    have hk2 : (v.kind == 2) = false := by simp [h3]
    have hk3 : (v.kind == 3) = true := by simp [h3]
    clear h3
    go_enter Tryd.func36, Tryd.ntmps36
    go_wp2_with fail
    all_goals (go_ret; refine ⟨ret_bool ?_, by go_grown⟩; rw [H.out]; first | (simp [V.bare, HN3.out, HN4.out, *]; done) | (simp [V.bare, HN3.out, HN4.out, *]; intros; omega) | (rw [Bool.eq_iff_iff]; simp [V.bare, HN3.out, HN4.out, *]; done) | (rw [Bool.eq_iff_iff]; simp [V.bare, HN3.out, HN4.out, *]; omega))
  by_cases h4 : v.kind = 4
  · have H : Hid (v.may = (v.num == 0 && v.str.toList.isEmpty && v.keys.length == v.items.length && keysOk v.keys)) := Lib.hid (by simp [V.may, h4])
    have hk1 : (v.kind == 1) = false := by simp [h4]
    have hk2 : (v.kind == 2) = false := by simp [h4]
    have hk3 : (v.kind == 3) = false := by simp [h4]
    have hk4 : (v.kind == 4) = true := by simp [h4]
    clear h4
    by_cases hq : v.num = 0 ∧ v.str.toList = [] ∧ n4 = n3
    · obtain ⟨q1, q2, rfl⟩ := hq
      have H2 : Hid (v.may = keysOk v.keys) := Lib.hid (by rw [H.out, HN3.out, HN4.out]; simp [q1, q2])
      clear H
      go_enter Tryd.func36, Tryd.ntmps36
      go_wp2_with fail
      all_goals
        refine (HKK.out _ _ ?_ ?_).mono ?_
        · have h4 := HN4.out
          omega
        · go_grown
        · rintro e w2 ⟨rfl, hb2⟩
          have hb3 : Below w.heap.size w w2 := (by go_grown : Below w.heap.size w _).trans (hb2.mono (by simp))
          clear hb2
          go_wp2_with fail
          go_ret
          exact ⟨ret_bool H2.out.symm, hb3⟩
    · have H2 : Hid (v.may = false) := Lib.hid (by
        rw [H.out, HN3.out, HN4.out, ← Bool.not_eq_true]
        intro h
        simp only [Bool.and_eq_true, beq_iff_eq, List.isEmpty_iff] at h
        exact hq ⟨h.1.1.1, h.1.1.2, h.1.2⟩)
      clear H
      have HQ := Lib.hid hq
      clear hq
      go_enter Tryd.func36, Tryd.ntmps36
      go_wp2_with fail
      all_goals first | (go_ret; exact ⟨ret_bool H2.out.symm, by go_grown⟩) | (exfalso; exact HQ.out ⟨by first | assumption | omega, by assumption, by omega⟩)
  have H : Hid (v.may = false) := Lib.hid (by simp [V.may, *])
  have hk1 : (v.kind == 1) = false := by simp [*]
  have hk2 : (v.kind == 2) = false := by simp [*]
  have hk3 : (v.kind == 3) = false := by simp [*]
  have hk4 : (v.kind == 4) = false := by simp [*]
  clear h1 h2 h3 h4
  go_enter Tryd.func36, Tryd.ntmps36
  go_wp2_with fail
  all_goals (go_ret; refine ⟨ret_bool ?_, by go_grown⟩; rw [H.out])
end Go.Proofs.YtbkoajipljjonaaDoor
