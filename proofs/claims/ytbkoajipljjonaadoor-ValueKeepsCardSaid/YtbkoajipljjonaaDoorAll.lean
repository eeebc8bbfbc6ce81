/- value.all, value.Right: whether a value and all within it may be. -/
import Derived.Test.YtbkoajipljjonaaDoorMay
import Derived.Test.YtbkoajipljjonaaDoorCount
import Derived.Test.YtbkoajipljjonaaDoorDepth
namespace Go.Proofs.YtbkoajipljjonaaDoor
open Go.RowKit Go.Shelf

mutual
/-- May a value and all within it be? -/
def V.all : V → Bool
  | .mk k n s is ks => V.may (.mk k n s is ks) && V.alls is
def V.alls : List V → Bool
  | [] => true
  | v :: vs => v.all && V.alls vs
end
theorem V.all_eq (v : V) : v.all = (v.may && V.alls v.items) := by cases v; simp [V.all, V.items]
theorem V.alls_eq : ∀ l : List V, V.alls l = l.all V.all
  | [] => by simp [V.alls]
  | v :: vs => by simp [V.alls, V.alls_eq vs]
theorem V.any_not_all (l : List V) : l.any (fun x => !x.all) = !V.alls l := by
  rw [V.alls_eq]
  induction l with
  | nil => rfl
  | cons v vs ih => simp only [List.any_cons, List.all_cons, ih, Bool.not_and]

/-- A function value that tells of each of some values whether p holds. -/
def TellsV (P : Program) (g : FuncId) (cap : Array Value) (C : Cm) (l : List V) (p : V → Bool) (w : World) : Prop :=
  ∀ x ∈ l, ∀ (A3 : Option Addr) (c3 : Nat) (A4 : Option Addr) (c4 : Nat) (W : World), Below w.heap.size w W → Rd C x.gv (x.cells A3 c3 A4 c4) →
    Calls P g (#[.agg (x.cells A3 c3 A4 c4).toArray] ++ cap) W fun e W' => e = .returned (.bool (p x)) ∧ Below W.heap.size W W'

set_option maxHeartbeats 1000000 in
set_option maxRecDepth 100000 in
theorem valsIndexFunc_calls (g : FuncId) (cap : Array Value) (eg : ∀ args w, (callFunc g args).run Tryd.prog w = .ok (.enter g args) w) (p : V → Bool) (C : Cm) (w : World) (A : Option Addr) (c : Nat) (l : List V)
    (hC : C.le w) (hr : RdSl C A c 5 (V.gvs l)) (hp : TellsV Tryd.prog g cap C l p w) :
    Calls Tryd.prog 72 #[.slice A l.length c, .func (.func g) #[] cap] w fun e w' => e = .returned (.int .i64 (ixF p l)) ∧ Below w.heap.size w w' := by
  have hlen : l.length ≤ c ∧ c ≤ maxLen := by have := hr.1; rw [V.gvs_length] at this; exact ⟨this, hr.2.1⟩
  unfold maxLen at hlen
  have HC := Lib.hid hC
  have HP := Lib.hid hp
  have HR := Lib.hid hr
  clear hC hp hr
  go_enter Tryd.func72, Tryd.ntmps72
  go_wp2_with fail
  go_loopw [8] (fun i wr => ∃ k : Nat, k ≤ l.length ∧ i = .int .i64 k ∧ Hid (∀ j (hj : j < k) (hk : k ≤ l.length), p (l[j]'(by omega)) = false) ∧ Below w.heap.size w wr) (fun i _ => l.length - (intOf i).toNat)
  case atStart => exact ⟨0, Nat.zero_le _, rfl, fun j hj => by omega, Below.refl _ _⟩
  case round =>
    obtain ⟨k, hk, rfl, hno, hb⟩ := hrel
    have hbs := hb.size
    by_cases hlt : k < l.length
    · obtain ⟨b, o, rfl, B3, d3, B4, d4, hx, e0, e1, e2, e3, e4⟩ := V.elem HC.out HR.out k hlt
      replace e0 := (hb.cell (World.block_lt_of_cell? w _ e0)).trans e0
      replace e1 := (hb.cell (World.block_lt_of_cell? w _ e1)).trans e1
      replace e2 := (hb.cell (World.block_lt_of_cell? w _ e2)).trans e2
      replace e3 := (hb.cell (World.block_lt_of_cell? w _ e3)).trans e3
      replace e4 := (hb.cell (World.block_lt_of_cell? w _ e4)).trans e4
      have HX := Lib.hid hx
      clear hx
      go_wp2_with fail
      refine (HP.out l[k] (List.getElem_mem hlt) B3 d3 B4 d4 _ hb HX.out).mono ?_
      rintro e w2 ⟨rfl, hb2⟩
      have hb3 : Below w.heap.size w w2 := hb.trans (hb2.mono hbs)
      clear hb hb2 e0 e1 e2 e3 e4
      cases hpx : p l[k]
      · have HPX := Lib.hid hpx
        clear hpx
        go_wp2_with fail
        go_roundw
        case rel => exact ⟨k + 1, by omega, by go_num, fun j hj _ => by
            by_cases hjk : j = k
            · subst hjk; exact HPX.out
            · exact hno.out j (by omega) hk, hb3⟩
        case measure => simp [intOf]; omega
      · have HX := Lib.hid (ixF_at p l k hlt (fun j hj => hno.out j hj hk) hpx)
        clear hpx
        go_wp2_with fail
        go_ret
        exact ⟨ret_int HX.out.symm, hb3⟩
    · have HX := Lib.hid (ixF_none p l (fun x hx => by
        obtain ⟨j, hj, rfl⟩ := List.getElem_of_mem hx
        exact hno.out j (by omega) hk))
      go_wp2_with fail
      go_ret
      exact ⟨ret_int HX.out.symm, hb⟩

set_option maxHeartbeats 1000000 in
theorem valsContainsFunc_calls (g : FuncId) (cap : Array Value) (eg : ∀ args w, (callFunc g args).run Tryd.prog w = .ok (.enter g args) w) (p : V → Bool) (C : Cm) (w : World) (A : Option Addr) (n c : Nat) (l : List V) (hn : l.length = n)
    (hC : C.le w) (hr : RdSl C A c 5 (V.gvs l)) (hp : TellsV Tryd.prog g cap C l p w) :
    Calls Tryd.prog 49 #[.slice A n c, .func (.func g) #[] cap] w fun e w' => e = .returned (.bool (l.any p)) ∧ Below w.heap.size w w' := by
  subst hn
  have H := Lib.hid (valsIndexFunc_calls g cap eg p C w A c l hC hr hp)
  have HX := Lib.hid (ixF_any p l)
  clear hp hr hC
  go_enter Tryd.func49, Tryd.ntmps49
  go_wp2_with fail
  refine H.out.mono ?_
  rintro e w2 ⟨rfl, hb⟩
  go_wp2_with fail
  go_ret
  exact ⟨ret_bool HX.out, hb⟩

set_option maxHeartbeats 1000000 in
set_option maxRecDepth 100000 in
theorem all_calls (n : Nat) : ∀ (v : V) (C : Cm) (w : World) (A3 : Option Addr) (c3 : Nat) (A4 : Option Addr) (c4 : Nat), v.dep ≤ n → C.le w → Rd C v.gv (v.cells A3 c3 A4 c4) →
    Calls Tryd.prog 35 #[.agg (v.cells A3 c3 A4 c4).toArray, .func (.func 36) #[] #[]] w fun e w' => e = .returned (.bool v.all) ∧ Below w.heap.size w w' := by
  induction n with
  | zero => intro v _ _ _ _ _ _ h; rw [V.dep_eq] at h; omega
  | succ n ih =>
  intro v C w A3 c3 A4 c4 hd hC hr
  have hclo : ∀ (bx : Nat) (W0 : World), Below w.heap.size w W0 → W0.cell? ⟨bx, 0, none⟩ = some (.func (.func 36) #[] #[]) → TellsV Tryd.prog 50 #[.pointer (some ⟨bx, 0, none⟩)] C v.items (fun x => !x.all) W0 := by
    intro bx W0 hb0 hbx x hx B3 d3 B4 d4 W hb hxr
    have hcx : W.cell? ⟨bx, 0, none⟩ = some (.func (.func 36) #[] #[]) := (hb.cell (World.block_lt_of_cell? _ _ hbx)).trans hbx
    have hdx : x.dep ≤ n := by have := V.deps_mem hx; rw [V.dep_eq] at hd; omega
    have HI := Lib.hid (fun W' (h : Below w.heap.size w W') => ih x C W' B3 d3 B4 d4 hdx (Cm.le_below hC h) hxr)
    have hb1 : Below w.heap.size w W := hb0.trans (hb.mono hb0.size)
    have hbs := hb1.size
    have hbsz := World.block_lt_of_cell? _ _ hcx
    simp only at hbsz
    clear hbx ih hC hr hdx hxr hb hx hd hb0
    show Calls _ _ #[_, _] _ _
    unfold V.cells
    go_enter Tryd.func50, Tryd.ntmps50
    go_wp2_with fail
    refine (HI.out _ ?_).mono ?_
    · go_grown
    · rintro e w2 ⟨rfl, hb2⟩
      have hb3 : Below W.heap.size W w2 := (by go_grown : Below W.heap.size W _).trans (hb2.mono (by simp))
      clear hb2
      go_wp2_with fail
      go_ret
      exact ⟨rfl, hb3⟩
  have eg : ∀ args w, (callFunc 50 args).run Tryd.prog w = .ok (.enter 50 args) w := enters_of Tryd.func50 (by kernel_rfl) rfl
  have hmf : ∀ (fn : Fn) (first cap : Array Value) (w : World), (Instr.makeFunc fn first cap).run Tryd.prog w = .ok (.func fn first cap) w := fun _ _ _ _ => rfl
  have HM := Lib.hid (fun W' (h : Below w.heap.size w W') => may_calls v C W' A3 c3 A4 c4 (Cm.le_below hC h) hr)
  obtain ⟨_, _, _, _, he, o1, o2, o3, r3, r4⟩ := V.open hr
  simp only [V.cells, List.cons.injEq, Value.slice.injEq, and_true, true_and] at he
  obtain ⟨⟨rfl, rfl⟩, rfl, rfl⟩ := he
  have HCF := Lib.hid (fun (W' : World) (bx : Nat) (h : Below w.heap.size w W') hbx => valsContainsFunc_calls 50 #[.pointer (some ⟨bx, 0, none⟩)] eg (fun x => !x.all) C W' A3 _ c3 v.items rfl (Cm.le_below hC h) r3 (hclo bx W' h hbx))
  have HA := Lib.hid (V.any_not_all v.items)
  have HE := Lib.hid (V.all_eq v)
  clear hclo hC hr hd ih o1 o2 o3 r3 r4 eg
  unfold V.cells at HM ⊢
  go_enter Tryd.func35, Tryd.ntmps35
  go_wp2_with fail
  refine (HM.out _ ?_).mono ?_
  · go_grown
  · rintro e w2 ⟨rfl, hb2⟩
    have hb3 : Below w.heap.size w w2 := (by go_grown : Below w.heap.size w _).trans (hb2.mono (by simp; omega))
    have hbs := hb3.size
    have hc1 : w2.cell? ⟨w.heap.size + 1, 0, none⟩ = some (.func (.func 36) #[] #[]) := by
      rw [hb2.cell (by simp)]
      simp
    have hc0 : w2.cell? ⟨w.heap.size, 3, none⟩ = some (.slice A3 v.items.length c3) := by
      rw [hb2.cell (by simp; omega)]
      simp
    clear hb2
    cases hv : v.may
    · have H : Hid (v.all = false) := Lib.hid (by rw [HE.out, hv]; rfl)
      clear hv
      go_wp2_with fail
      go_ret
      exact ⟨ret_bool H.out.symm, hb3⟩
    · have H : Hid (v.all = V.alls v.items) := Lib.hid (by rw [HE.out, hv]; rfl)
      clear hv
      have HC0 := Lib.hid hc1
      clear hc1
      go_wp2_with fail
      refine (HCF.out _ _ ?_ HC0.out).mono ?_
      · exact hb3
      · rintro e w3 ⟨rfl, hb4⟩
        have hb5 : Below w.heap.size w w3 := hb3.trans (hb4.mono hbs)
        clear hb4 hb3
        go_wp2_with fail
        go_ret
        exact ⟨ret_bool (by rw [HA.out, H.out]; simp), hb5⟩

set_option maxHeartbeats 1000000 in
set_option maxRecDepth 100000 in
/-- May a value be? -/
theorem right_calls (v : V) (C : Cm) (w : World) (A3 : Option Addr) (c3 : Nat) (A4 : Option Addr) (c4 : Nat) (hd : v.dep ≤ 4611686018427387904) (hn : v.cnt ≤ 4611686018427387904) (hC : C.le w) (hr : Rd C v.gv (v.cells A3 c3 A4 c4)) :
    Calls Tryd.prog 22 #[.agg (v.cells A3 c3 A4 c4).toArray] w fun e w' => e = .returned (.bool (decide (v.dep ≤ 12) && decide (v.cnt ≤ 2000) && v.all)) ∧ Below w.heap.size w w' := by
  have H1 := Lib.hid (fun W' (h : Below w.heap.size w W') => depth_calls v.dep (by omega) v C W' A3 c3 A4 c4 (Nat.le_refl _) (Cm.le_below hC h) hr)
  have H2 := Lib.hid (fun W' (h : Below w.heap.size w W') => count_calls v.dep v C W' A3 c3 A4 c4 (Nat.le_refl _) (Cm.le_below hC h) hr)
  have H3 := Lib.hid (fun W' (h : Below w.heap.size w W') => all_calls v.dep v C W' A3 c3 A4 c4 (Nat.le_refl _) (Cm.le_below hC h) hr)
  have hcw : wrap64 (v.cnt : Int) = v.cnt := by unfold wrap64; omega
  have HW := Lib.hid hcw
  clear hC hr hcw
  unfold V.cells at H1 H2 H3 ⊢
  go_enter Tryd.func22, Tryd.ntmps22
  go_wp2_with fail
  refine (H1.out _ ?_).mono ?_
  · go_grown
  · rintro e w2 ⟨rfl, hb2⟩
    have hb3 : Below w.heap.size w w2 := (by go_grown : Below w.heap.size w _).trans (hb2.mono (by simp))
    have hc0 : w2.cell? ⟨w.heap.size, 0, none⟩ = some (.int .i64 v.kind) := by rw [hb2.cell (by simp)]; simp
    have hc1 : w2.cell? ⟨w.heap.size, 1, none⟩ = some (.int .i64 v.num) := by rw [hb2.cell (by simp)]; simp
    have hc2 : w2.cell? ⟨w.heap.size, 2, none⟩ = some (.string v.str) := by rw [hb2.cell (by simp)]; simp
    have hc3 : w2.cell? ⟨w.heap.size, 3, none⟩ = some (.slice A3 v.items.length c3) := by rw [hb2.cell (by simp)]; simp
    have hc4 : w2.cell? ⟨w.heap.size, 4, none⟩ = some (.slice A4 v.keys.length c4) := by rw [hb2.cell (by simp)]; simp
    have hsz : w.heap.size + 1 ≤ w2.heap.size := by have := hb2.size; simpa using this
    clear hb2
    by_cases h12 : v.dep ≤ 12
    · have hd12 : decide ((v.dep : Int) ≤ 12) = true := by simp; omega
      have HX : Hid ((decide (v.dep ≤ 12) && decide (v.cnt ≤ 2000) && v.all) = (decide (v.cnt ≤ 2000) && v.all)) := Lib.hid (by simp [h12])
      clear h12
      go_wp2_with fail
      refine (H2.out _ hb3).mono ?_
      rintro e w3 ⟨rfl, hb4⟩
      rw [HW.out]
      have hb5 : Below w.heap.size w w3 := hb3.trans (hb4.mono (by omega))
      replace hc0 := (hb4.cell (World.block_lt_of_cell? _ _ hc0)).trans hc0
      replace hc1 := (hb4.cell (World.block_lt_of_cell? _ _ hc1)).trans hc1
      replace hc2 := (hb4.cell (World.block_lt_of_cell? _ _ hc2)).trans hc2
      replace hc3 := (hb4.cell (World.block_lt_of_cell? _ _ hc3)).trans hc3
      replace hc4 := (hb4.cell (World.block_lt_of_cell? _ _ hc4)).trans hc4
      have hsz3 : w.heap.size + 1 ≤ w3.heap.size := by have := hb4.size; omega
      clear hb3 hb4 hsz
      by_cases h20 : v.cnt ≤ 2000
      · have hd20 : decide ((v.cnt : Int) ≤ 2000) = true := by simp; omega
        have HY : Hid ((decide (v.cnt ≤ 2000) && v.all) = v.all) := Lib.hid (by simp [h20])
        clear h20
        go_wp2_with fail
        refine (H3.out _ hb5).mono ?_
        rintro e w4 ⟨rfl, hb6⟩
        have hb7 : Below w.heap.size w w4 := hb5.trans (hb6.mono (by omega))
        clear hb5 hb6 hc0 hc1 hc2 hc3 hc4
        go_wp2_with fail
        go_ret
        exact ⟨ret_bool (by rw [HX.out, HY.out]), hb7⟩
      · have hd20 : decide ((v.cnt : Int) ≤ 2000) = false := by simp; omega
        have HY : Hid ((decide (v.cnt ≤ 2000) && v.all) = false) := Lib.hid (by simp [h20])
        clear h20
        go_wp2_with fail
        go_ret
        exact ⟨ret_bool (by rw [HX.out, HY.out]), hb5⟩
    · have hd12 : decide ((v.dep : Int) ≤ 12) = false := by simp; omega
      have HX : Hid ((decide (v.dep ≤ 12) && decide (v.cnt ≤ 2000) && v.all) = false) := Lib.hid (by simp [h12])
      clear h12
      go_wp2_with fail
      go_ret
      exact ⟨ret_bool HX.out.symm, hb3⟩
end Go.Proofs.YtbkoajipljjonaaDoor
