/- value.quoted: a text in quotes. -/
import Derived.Test.YtbkoajipljjonaaDoorQuoteLaw
import Derived.Test.YtbkoajipljjonaaDoorBuild
import Derived.WalkSmall
import Derived.Lib.ReplaceLaws
import Derived.Lib.AppendIntMem
namespace Go.Proofs.YtbkoajipljjonaaDoor
open Go.RowKit Go.Shelf

/-- What of the library's own variables is known. -/
structure Env (w : World) : Prop where
  maxLen : ∃ m, w.cell? ⟨3, 0, none⟩ = some (.int .i64 m)
  tab : Lib.TabIs Tryd.prog w "internal/strconv.uint64pow10" .u64 Lib.pow10Tab
  lt : 0 < w.heap.size
theorem Env.below {w w' : World} (h : Env w) (hb : Below w.heap.size w w') : Env w' := by
  obtain ⟨⟨m, hm⟩, ht, hl⟩ := h
  refine ⟨⟨m, ?_⟩, ?_, Nat.lt_of_lt_of_le hl hb.size⟩
  · rw [hb.cell (World.block_lt_of_cell? w _ hm)]
    exact hm
  · exact var?_below hb (by kernel_rfl) hl ht

theorem Env.belowB {B : Nat} {w w' : World} (h : Env w) (h1 : 3 < B) (h2 : 0 < B) (hb : Below B w w') : Env w' := by
  obtain ⟨⟨m, hm⟩, ht, hl⟩ := h
  refine ⟨⟨m, ?_⟩, ?_, Nat.lt_of_lt_of_le hl hb.size⟩
  · rw [hb.cell h1]
    exact hm
  · exact var?_below hb (by kernel_rfl) h2 ht

theorem replaceAll_calls (s : ByteArray) (c : UInt8) (new : ByteArray) (w : World) (hs : s.size ≤ 1000000) (hn : new.size ≤ 1000) (he : Env w) (hne : [c] ≠ new.data.toList) :
    Calls Tryd.prog 55 #[.string s, .string ⟨#[c]⟩, .string new] w fun e w' => e = .returned (.string ⟨(s.data.toList.flatMap fun x => if x = c then new.data.toList else [x]).toArray⟩) ∧ Below w.heap.size w w' := by
  obtain ⟨m, hm⟩ := he.maxLen
  refine (Tryd.strings_ReplaceAll s ⟨#[c]⟩ new m w (by omega) hm (Nat.le_refl 1) ?_).mono ?_
  · have h1 := Lib.countB_mul_le ⟨#[c]⟩ (Nat.le_refl 1) s.size s (Nat.le_refl _)
    have h2 : (⟨#[c]⟩ : ByteArray).size = 1 := rfl
    rw [h2, Nat.mul_one] at h1
    have h3 : Lib.countB s ⟨#[c]⟩ * new.size ≤ 1000000 * 1000 := Nat.mul_le_mul (by omega) hn
    omega
  · rintro e w' ⟨rfl, hb⟩
    have h4 : (⟨#[c]⟩ : ByteArray).data.toList = [c] := rfl
    rw [h4, replaceAll_byte c _ _ hne]
    exact ⟨rfl, hb⟩

theorem size_mk (l : List UInt8) : (⟨l.toArray⟩ : ByteArray).size = l.length := by simp [ByteArray.size]

set_option maxHeartbeats 1000000 in
theorem quoted_calls (s : ByteArray) (w : World) (hs : s.size ≤ 400000) (he : Env w) :
    Calls Tryd.prog 39 #[.string s] w fun e w' => e = .returned (.string ⟨(quoL s.data.toList).toArray⟩) ∧ Below w.heap.size w w' := by
  have hq := quote_law s.data.toList
  rw [replaceAll_byte _ _ _ (by decide), replaceAll_byte _ _ _ (by decide)] at hq
  have hl : (s.data.toList.flatMap fun x => if x = 92 then [92, 92] else [x]).length ≤ s.data.toList.length * 2 := flatMap_length_le _ 2 (fun x => by split <;> simp) _
  have hsz : s.data.toList.length = s.size := by rw [Array.length_toList]; rfl
  rw [hsz] at hl
  have HQ := Lib.hid hq
  have HE := Lib.hid he
  have H1 := Lib.hid (replaceAll_calls s 92 ⟨#[92, 92]⟩ w (by omega) (by decide) he (by decide))
  have HL := Lib.hid hl
  clear hq hsz he hl
  go_enter Tryd.func39, Tryd.ntmps39
  go_wp2_with fail
  refine H1.out.mono ?_
  rintro e w1 ⟨rfl, hb1⟩
  have H2 := Lib.hid (replaceAll_calls ⟨(s.data.toList.flatMap fun x => if x = 92 then [92, 92] else [x]).toArray⟩ 34 ⟨#[92, 34]⟩ w1 (by rw [size_mk]; have := HL.out; omega) (by decide) (HE.out.below hb1) (by decide))
  have HQ2 := Lib.hid HQ.out
  clear HQ
  generalize (s.data.toList.flatMap fun x => if x = 92 then [92, 92] else [x]) = l1 at H2 HQ2 HL ⊢
  go_wp2_with fail
  refine H2.out.mono ?_
  rintro e w2 ⟨rfl, hb2⟩
  have hb3 := hb1.trans (hb2.mono hb1.size)
  clear hb1 hb2
  have e3 : (⟨l1.toArray⟩ : ByteArray).data.toList = l1 := by simp
  have e2 : (⟨#[92, 34]⟩ : ByteArray).data.toList = [92, 34] := rfl
  (try rw [e2])
  (try rw [e3])
  clear e2 e3
  have hl2 : (l1.flatMap fun x => if x = 34 then [92, 34] else [x]).length ≤ l1.length * 2 := flatMap_length_le _ 2 (fun x => by split <;> simp) _
  generalize (l1.flatMap fun x => if x = 34 then [92, 34] else [x]) = l2 at HQ2 hl2 ⊢
  have hl3 : l2.length ≤ 2000000 := by have := HL.out; omega
  clear hl2
  go_wp2_with fail
  go_ret
  refine ⟨ret_str ?_, hb3⟩
  rw [← HQ2.out]
  apply ByteArray.ext
  simp
end Go.Proofs.YtbkoajipljjonaaDoor
