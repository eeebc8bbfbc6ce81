/- The reference's Less: byte by byte. -/
import Derived.Test.YtbkoajipljjonaaDoorOrd
import Derived.Test.YtbkoajipljjonaaDoorProg
import Derived.Lib.Hide
import Derived.Handy
import Derived.Deep.QuietTactic
import Derived.BigQuiet
namespace Go.Proofs.YtbkoajipljjonaaDoor
open Go.RowKit

theorem below_pw {B : Nat} {w W : World} (h : Below B w W) (n : Nat) : Below B w (W.drewN n) := ⟨h.os, h.tape, h.output, h.size, h.block⟩
theorem bl_step {x y : List UInt8} {k : Nat} (hx : k < x.length) (hy : k < y.length) (h : Op.bytesLess x y = Op.bytesLess (x.drop k) (y.drop k)) (he : x[k] = y[k]) : Op.bytesLess x y = Op.bytesLess (x.drop (k + 1)) (y.drop (k + 1)) := by
  rw [h, List.drop_eq_getElem_cons hx, List.drop_eq_getElem_cons hy]
  simp [Op.bytesLess, he]
theorem bl_diff {x y : List UInt8} {k : Nat} (hx : k < x.length) (hy : k < y.length) (h : Op.bytesLess x y = Op.bytesLess (x.drop k) (y.drop k)) (he : x[k] ≠ y[k]) : Op.bytesLess x y = decide (x[k] < y[k]) := by
  rw [h, List.drop_eq_getElem_cons hx, List.drop_eq_getElem_cons hy]
  simp [Op.bytesLess, he]
theorem bl_end {x y : List UInt8} {k : Nat} (hk : x.length ≤ k ∨ y.length ≤ k) (hx : k ≤ x.length) (hy : k ≤ y.length) (h : Op.bytesLess x y = Op.bytesLess (x.drop k) (y.drop k)) : Op.bytesLess x y = decide (x.length < y.length) := by
  rw [h]
  rcases hk with hk | hk
  · rw [List.drop_of_length_le hk]
    cases hd : y.drop k with
    | nil => simp [Op.bytesLess] ; have := List.drop_eq_nil_iff.1 hd; omega
    | cons a l => simp [Op.bytesLess]; have : y.drop k ≠ [] := by rw [hd]; simp
                  have : ¬ y.length ≤ k := fun e => this (List.drop_eq_nil_iff.2 e)
                  omega
  · rw [List.drop_of_length_le hk]
    cases hd : x.drop k with
    | nil => simp [Op.bytesLess]; have := List.drop_eq_nil_iff.1 hd; omega
    | cons a l => simp [Op.bytesLess]; have : x.drop k ≠ [] := by rw [hd]; simp
                  have : ¬ x.length ≤ k := fun e => this (List.drop_eq_nil_iff.2 e)
                  omega

set_option maxHeartbeats 1000000 in
set_option maxRecDepth 100000 in
theorem less_calls (a b : ByteArray) (w : World) (ha : a.size ≤ 9223372036854775807) (_hb : b.size ≤ 9223372036854775807) :
    Calls Tryd.prog 34 #[.string a, .string b] w fun e w' => e = .returned (.bool (ltB a b)) ∧ Below w.heap.size w w' := by
  have HT : Hid (∀ s : ByteArray, s.toList = s.data.toList) := Lib.hid (fun s => ByteArray.toList_eq s)
  have HLn : Hid (∀ s : ByteArray, s.toList.length = s.size) := Lib.hid (fun s => by rw [ByteArray.toList_eq, Array.length_toList]; rfl)
  go_enter Tryd.func34, Tryd.ntmps34
  go_wp2_with fail
  go_loopw [5] (fun i wr => ∃ k : Nat, k ≤ a.size ∧ k ≤ b.size ∧ i = .int .i64 k ∧ Hid (Op.bytesLess a.toList b.toList = Op.bytesLess (a.toList.drop k) (b.toList.drop k)) ∧ Below w.heap.size w wr) (fun i _ => a.size - (intOf i).toNat)
  case atStart => exact ⟨0, Nat.zero_le _, Nat.zero_le _, rfl, Lib.hid rfl, Below.refl _ _⟩
  case round =>
    obtain ⟨k, hk, hk2, rfl, HJ, hbl⟩ := hrel
    by_cases hka : k < a.size
    · by_cases hkb : k < b.size
      · have hka' : k < a.toList.length := by rw [HLn.out]; omega
        have hkb' : k < b.toList.length := by rw [HLn.out]; omega
        have hga : a.toList[k] = a[k] := by simp [HT.out]; rfl
        have hgb : b.toList[k] = b[k] := by simp [HT.out]; rfl
        by_cases heq : a[k] = b[k]
        · have HN := Lib.hid (bl_step hka' hkb' HJ.out (by rw [hga, hgb, heq]))
          have hd : ((a[k].toNat : Int) != (b[k].toNat : Int)) = false := by simp [heq]
          clear hga hgb heq hka' hkb'
          go_wp2_with fail
          go_quiet (fail)
          go_wp2_with fail
          go_roundw
          case rel => exact ⟨k + 1, by omega, by omega, by go_num, HN, below_pw hbl nq⟩
          case measure => simp [intOf]; omega
        · have HN := Lib.hid (bl_diff hka' hkb' HJ.out (by rw [hga, hgb]; exact heq))
          rw [hga, hgb] at HN
          have hd : ((a[k].toNat : Int) != (b[k].toNat : Int)) = true := by simp; intro h; exact heq (UInt8.toNat_inj.1 (by exact_mod_cast h))
          clear hga hgb heq hka' hkb'
          go_wp2_with fail
          go_quiet (fail)
          go_wp2_with fail
          go_quiet (fail)
          go_wp2_with fail
          go_ret
          refine ⟨ret_bool ?_, below_pw (below_pw hbl _) _⟩
          unfold ltB
          rw [HN.out, decide_eq_decide]
          rw [UInt8.lt_iff_toNat_lt]
      · have HN := Lib.hid (bl_end (.inr (by rw [HLn.out]; omega)) (by rw [HLn.out]; omega) (by rw [HLn.out]; omega) HJ.out)
        go_wp2_with fail
        go_ret
        refine ⟨ret_bool ?_, by go_grown⟩
        unfold ltB
        rw [HN.out, HLn.out, HLn.out, decide_eq_decide]
    · have HN := Lib.hid (bl_end (.inl (by rw [HLn.out]; omega)) (by rw [HLn.out]; omega) (by rw [HLn.out]; omega) HJ.out)
      go_wp2_with fail
      go_ret
      refine ⟨ret_bool ?_, by go_grown⟩
      unfold ltB
      rw [HN.out, HLn.out, HLn.out, decide_eq_decide]
end Go.Proofs.YtbkoajipljjonaaDoor
