/- The laws' known value: its text is as it should be. -/
import Derived.Test.YtbkoajipljjonaaDoorMake
namespace Go.Proofs.YtbkoajipljjonaaDoor
open Go.RowKit

def vNum (n : Int) : V := .mk 1 n ⟨#[]⟩ [] []
def vText (s : ByteArray) : V := .mk 2 0 s [] []
def vList (l : List V) : V := .mk 3 0 ⟨#[]⟩ l []
def aliveV : V := vList [vNum 1, vText ⟨#[97, 34, 98]⟩]
theorem alive_dep : aliveV.dep = 2 := by simp [aliveV, vList, vNum, vText, V.dep, V.deps]
theorem alive_cnt : aliveV.cnt = 3 := by simp [aliveV, vList, vNum, vText, V.cnt, V.cnts]
theorem alive_right : aliveV.right = true := by kernel_rfl
theorem alive_txt : aliveV.printT = [91, 49, 44, 34, 97, 92, 34, 98, 34, 93] := by
  unfold V.printT
  rw [if_pos alive_right]
  kernel_rfl
theorem alive_printE : aliveV.printE = 0 := by unfold V.printE; rw [if_pos alive_right]

theorem alive_rd {w : World} {b : Nat} {fr : Nat × Nat} (h : w.heap[b]? = some (.cells #[.int .i64 1, .int .i64 1, .string ⟨#[]⟩, .slice none 0 0, .slice none 0 0, .int .i64 2, .int .i64 0, .string ⟨#[97, 34, 98]⟩, .slice none 0 0, .slice none 0 0] 28 fr)) :
    ∃ C : Cm, C.le w ∧ Rd C aliveV.gv (aliveV.cells (some ⟨b, 0, none⟩) 2 none 0) := by
  have hle : (Cm.put (fun _ _ => none) b [.int .i64 1, .int .i64 1, .string ⟨#[]⟩, .slice none 0 0, .slice none 0 0, .int .i64 2, .int .i64 0, .string ⟨#[97, 34, 98]⟩, .slice none 0 0, .slice none 0 0]).le w := by
    intro b' o v e
    unfold Cm.put at e
    by_cases hb : b' = b
    · subst hb
      rw [if_pos rfl] at e
      rw [cell_of_row _ _ o _ _ _ h]
      simpa using e
    · rw [if_neg hb] at e
      cases e
  refine ⟨_, hle, V.mk_rd _ ?_ ?_ ?_ ?_ ?_⟩
  · simp [aliveV, vList, V.kind, okAt]
    decide
  · simp [aliveV, vList, V.num, okAt]
    decide
  · simp [aliveV, vList, V.str, okAt, ByteArray.size]
  · refine ⟨by simp [aliveV, vList, V.items, V.gvs], by simp [maxLen], .inr ⟨b, 0, rfl, ?_⟩⟩
    simp only [aliveV, vList, V.items, V.gvs, RdE, Nat.zero_add, and_true]
    refine ⟨⟨[.int .i64 1, .int .i64 1, .string ⟨#[]⟩, .slice none 0 0, .slice none 0 0], rfl, ?_, ?_⟩, [.int .i64 2, .int .i64 0, .string ⟨#[97, 34, 98]⟩, .slice none 0 0, .slice none 0 0], rfl, ?_, ?_⟩
    · refine V.mk_rd (vNum 1) (A3 := none) (c3 := 0) (A4 := none) (c4 := 0) ?_ ?_ ?_ ?_ ?_
      · simp [vNum, V.kind, okAt]
        decide
      · simp [vNum, V.num, okAt]
        decide
      · simp [vNum, V.str, okAt, ByteArray.size]
      · exact ⟨by simp [vNum, V.items, V.gvs], by simp [maxLen], .inl (by simp [vNum, V.items, V.gvs])⟩
      · exact ⟨by simp [vNum, V.keys], by simp [maxLen], .inl (by simp [vNum, V.keys, strsGv])⟩
    · intro j v hj
      rw [Cm.put_at, ← hj]
      match j with
      | 0 | 1 | 2 | 3 | 4 => rfl
      | j + 5 => simp at hj
    · refine V.mk_rd (vText ⟨#[97, 34, 98]⟩) (A3 := none) (c3 := 0) (A4 := none) (c4 := 0) ?_ ?_ ?_ ?_ ?_
      · simp [vText, V.kind, okAt]
        decide
      · simp [vText, V.num, okAt]
        decide
      · simp [vText, V.str, okAt, ByteArray.size]
      · exact ⟨by simp [vText, V.items, V.gvs], by simp [maxLen], .inl (by simp [vText, V.items, V.gvs])⟩
      · exact ⟨by simp [vText, V.keys], by simp [maxLen], .inl (by simp [vText, V.keys, strsGv])⟩
    · intro j v hj
      rw [Cm.put_at, ← hj]
      match j with
      | 0 | 1 | 2 | 3 | 4 => rfl
      | j + 5 => simp at hj
  · exact ⟨by simp [aliveV, vList, V.keys], by simp [maxLen], .inl (by simp [aliveV, vList, V.keys, strsGv])⟩

set_option maxHeartbeats 2000000 in
set_option maxRecDepth 100000 in
theorem alive11_calls (w : World) (hE : Env w) :
    Calls Tryd.prog 13 #[] w fun e w' => e = .returned (.bool true) ∧ Below w.heap.size w w' := by
  have HE := Lib.hid hE
  clear hE
  go_enter Tryd.func13, Tryd.ntmps13
  go_wp2_with fail
  refine (number_calls _ 1).mono ?_
  rintro e w1 ⟨rfl, hb1⟩
  go_wp2_with fail
  refine (vtext_calls _ _).mono ?_
  rintro e w2 ⟨rfl, hb2⟩
  have hb3 := hb1.trans (hb2.mono hb1.size)
  clear hb1 hb2
  go_wp2_with fail
  have hnew := heap_alloc_new w2 (.cells #[.int .i64 1, .int .i64 1, .string ⟨#[]⟩, .slice none 0 0, .slice none 0 0, .int .i64 2, .int .i64 0, .string ⟨#[97, 34, 98]⟩, .slice none 0 0, .slice none 0 0] 28)
  have hb4 := hb3.alloc hb3.size (.cells #[.int .i64 1, .int .i64 1, .string ⟨#[]⟩, .slice none 0 0, .slice none 0 0, .int .i64 2, .int .i64 0, .string ⟨#[97, 34, 98]⟩, .slice none 0 0, .slice none 0 0] 28)
  refine (list_calls _ _ _ _).mono ?_
  rintro e w3 ⟨rfl, hb5⟩
  have hb6 := hb4.trans (hb5.mono hb4.size)
  have hnew2 := (hb5.block _ (by simp)).trans hnew
  obtain ⟨C, hC, hr⟩ := alive_rd hnew2
  have HP := Lib.hid (print_calls aliveV C w3 (some ⟨w2.heap.size, 0, none⟩) 2 none 0 (by rw [alive_dep]; omega) (by rw [alive_cnt]; omega) hC hr (HE.out.below hb6))
  have HB := Lib.hid hb6
  rw [alive_txt, alive_printE] at HP
  clear hnew hb4 hb5 hnew2 hC hr hb3 hb6
  unfold V.cells at HP
  go_wp2_with fail
  refine HP.out.mono ?_
  rintro e w4 ⟨rfl, hb7⟩
  have HB2 := Lib.hid (HB.out.trans (hb7.mono HB.out.size))
  clear hb7 HP
  go_wp2_with fail
  go_ret
  exact ⟨rfl, HB2.out⟩
end Go.Proofs.YtbkoajipljjonaaDoor
