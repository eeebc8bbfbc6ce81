/- value.text tells whether a text may be: of at most 4000 bytes, none below 32. -/
import Derived.Test.YtbkoajipljjonaaDoorBytesF
import Derived.Lib.ConvBytes
import Derived.Lib.SmallJoins
import Derived.Lib.AtoiErrMem
namespace Go.Proofs.YtbkoajipljjonaaDoor
open Go.RowKit Go.Shelf

theorem byt_inj {x : UInt8} : okAt (byt x) := by
  have := x.toNat_lt
  simp only [okAt, byt, Lit.wf, Bool.and_eq_true, decide_eq_true_eq]
  exact ⟨by show (0 : Int) ≤ _; omega, by show _ ≤ (255 : Int); omega⟩

/-- The bytes of a text, as a new row. -/
theorem bytesWorld_rd {C : Cm} {w : World} (hC : C.le w) (e : TypeId) (s : ByteArray) (c : Nat) (hc : s.size ≤ c) (hm : c ≤ maxLen) :
    (C.put w.heap.size (s.data.toList.map byt)).le (Lib.bytesWorld w e s) ∧ Ext w.heap.size C (C.put w.heap.size (s.data.toList.map byt)) ∧ RdSl (C.put w.heap.size (s.data.toList.map byt)) (some ⟨w.heap.size, 0, none⟩) c 1 (bytesGv s.data.toList) := by
  refine ⟨Cm.put_le hC (Lib.bytesWorld_below w e s) fun o v h => ?_, Ext.put (Nat.le_refl _) (Cm.none_of hC (Nat.le_refl _)) _, ?_, hm, ?_⟩
  · obtain ⟨ho, rfl⟩ := List.getElem?_eq_some_iff.1 h
    simp only [List.length_map, Array.length_toList] at ho
    rw [Lib.bytesWorld_cell w e s o ho]
    have ho2 : o < s.data.size := ho
    simp only [byt, List.getElem_map, List.getD, Array.getElem?_toList, Array.getElem_toList]
    rw [getElem?_pos s.data o ho2]
    rfl
  · simpa using hc
  · refine .inr ⟨_, 0, rfl, RdE_of fun i hi => ?_⟩
    have hi' : i < s.data.toList.length := by simpa using hi
    refine ⟨[byt s.data.toList[i]], rfl, ?_, ?_⟩
    · have he : (bytesGv s.data.toList)[i] = .at (byt s.data.toList[i]) := by simp [bytesGv]
      rw [he]
      simp only [Rd]
      exact ⟨trivial, byt_inj⟩
    · intro j v hj
      cases j with
      | zero =>
        simp only [List.getElem?_cons_zero, Option.some.injEq] at hj
        subst hj
        rw [Cm.put_at]
        have hi2 : i < s.data.size := by simpa using hi'
        simp only [List.getElem?_map, Nat.zero_add, Nat.mul_one, Nat.add_zero, Array.getElem?_toList, Array.getElem_toList]
        rw [getElem?_pos s.data i hi2]
        rfl
      | succ j => simp at hj

/-- May a text be? -/
def textOk (s : ByteArray) : Bool := decide (s.size ≤ 4000) && !(s.data.toList.any fun c => decide (c.toNat < 32))

theorem textByte_calls (x : UInt8) (w : World) : Calls Tryd.prog 74 #[byt x] w fun e w' => e = .returned (.bool (decide (x.toNat < 32))) ∧ Below w.heap.size w w' := by
  unfold byt
  go_enter Tryd.func74, Tryd.ntmps74
  go_wp2_with fail
  all_goals (go_ret; exact ⟨ret_bool (by first | (simp; done) | (simp; omega) | (simp_all)), Below.refl _ _⟩)

set_option maxHeartbeats 1000000 in
theorem text_calls (s : ByteArray) (w : World) (hs : s.size ≤ 9223372036854775807) : Calls Tryd.prog 51 #[.string s] w fun e w' => e = .returned (.bool (textOk s)) ∧ Below w.heap.size w w' := by
  have eg : ∀ args w, (callFunc 74 args).run Tryd.prog w = .ok (.enter 74 args) w := enters_of Tryd.func74 (by kernel_rfl) rfl
  have hcv := fun W => Lib.run_convert_string_bytes (P := Tryd.prog) W 9 31 5 s Tryd.underlying9 Tryd.underlying31 Tryd.underlying5
  by_cases h : s.size ≤ 4000
  · have HT : Hid (textOk s = !(s.data.toList.any fun c => decide (c.toNat < 32))) := Lib.hid (by simp [textOk, h])
    have hd : decide ((s.size : Int) ≤ 4000) = true := by simp; omega
    go_enter Tryd.func51, Tryd.ntmps51
    go_wp2_with fail
    have hw := bytesWorld_rd (C := fun _ _ => none) (w := w) (fun _ _ _ h => by cases h) 5 s (grownCap w s.size 0 5) (grownCap_ge _ _ _ _) (grownCap_le_maxLen _ _ _ _ (by unfold maxLen; omega))
    refine (bytesContainsFunc_calls 74 #[] eg (fun c => decide (c.toNat < 32)) _ _ _ _ _ s.data.toList (by simp) hw.1 hw.2.2 (fun x W _ => textByte_calls x W)).mono ?_
    rintro e w2 ⟨rfl, hb⟩
    have hb3 : Below w.heap.size w w2 := (Lib.bytesWorld_below w 5 s).trans (hb.mono (by rw [Lib.bytesWorld_size]; omega))
    clear hb hw
    go_wp2_with fail
    go_ret
    exact ⟨ret_bool (by rw [HT.out]; simp), hb3⟩
  · have HT : Hid (textOk s = false) := Lib.hid (by simp [textOk, h])
    have hd : decide ((s.size : Int) ≤ 4000) = false := by simp; omega
    go_enter Tryd.func51, Tryd.ntmps51
    go_wp2_with fail
    go_ret
    exact ⟨ret_bool HT.out.symm, Below.refl _ _⟩
end Go.Proofs.YtbkoajipljjonaaDoor
