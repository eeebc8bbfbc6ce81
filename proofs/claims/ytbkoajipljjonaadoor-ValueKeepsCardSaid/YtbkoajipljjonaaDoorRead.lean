/- Arguments as they came in: what they read as is a value, a row of pairs, of texts. -/
import Derived.Test.YtbkoajipljjonaaDoorPair
import Derived.OpenShut
import Derived.DataReads
namespace Go.Proofs.YtbkoajipljjonaaDoor
open Go.RowKit

/-- All that stands at the beginning is settled. -/
def Cm.whole (w : World) : Cm := fun b o => w.cell? ⟨b, o, none⟩
theorem Cm.whole_le (w : World) : (Cm.whole w).le w := fun _ _ _ h => h

theorem cells_value : Tryd.prog.cellsOf 28 = 5 := by kernel_rfl
theorem cells_pair : Tryd.prog.cellsOf 38 = 6 := by kernel_rfl
theorem cells_str : Tryd.prog.cellsOf 9 = 1 := by kernel_rfl

section
variable {H : Type} {enc : TypeId × Value → H} {w : World} {base : Nat} {spare : Nat → Bool} {held : Bool}

theorem read_slice {p : GV → Prop} {t e : TypeId} {sz fuel : Nat} {cs : List Value} {x : DataW H × List MemPlace} (ht : Tryd.prog.underlying t = some (.slice e)) (hsz : Tryd.prog.cellsOf e = sz) (h0 : 0 < sz)
    (hE : ∀ n cs y, n < fuel → DataW.trod enc Tryd.prog w base spare held n e cs = some y → ∃ g, Rd (Cm.whole w) g cs ∧ p g) (h : DataW.trod enc Tryd.prog w base spare held fuel t cs = some x) :
    ∃ A n c es, cs = [.slice A n c] ∧ es.length = n ∧ RdSl (Cm.whole w) A c sz es ∧ ∀ g ∈ es, p g := by
  rcases DataW.trod_slice ht h with ⟨rfl, _⟩ | ⟨a, len, cap, elems, rest, n, rfl, rfl, _, hb, hlc, hcm, hel, hall, _⟩
  · exact ⟨none, 0, 0, [], rfl, rfl, ⟨Nat.le_refl _, Nat.zero_le _, .inl rfl⟩, fun _ h => by cases h⟩
  · have key : ∀ i, i < len → ∃ ecs g, ecs.length = sz ∧ Rd (Cm.whole w) g ecs ∧ p g ∧ ∀ j, j < sz → w.cell? ((a.add (i * sz)).add j) = ecs[j]? := by
      intro i hi
      have := hall i hi
      rw [hsz, List.getElem?_eq_getElem (by omega), Option.bind_eq_some_iff] at this
      obtain ⟨ecs, h1, h2⟩ := this
      obtain ⟨_, hl, hc⟩ := World.cells?_some h1
      obtain ⟨g, hg, hp⟩ := hE n ecs _ (Nat.lt_succ_self n) h2
      exact ⟨ecs, g, hl, hg, hp, hc⟩
    cases len with
    | zero => exact ⟨some a, 0, cap, [], rfl, rfl, ⟨Nat.zero_le _, hcm, .inl rfl⟩, fun _ h => by cases h⟩
    | succ len =>
      have hspot : a.spot = none := by
        obtain ⟨ecs, _, hl, _, _, hc⟩ := key 0 (Nat.zero_lt_succ _)
        have := hc 0 h0
        rw [List.getElem?_eq_getElem (by omega), Nat.zero_mul] at this
        exact World.cell?_spot this
      obtain ⟨b, o, sp⟩ := a
      simp only at hspot
      subst hspot
      have hadd : ∀ i j, ((⟨b, o, none⟩ : Addr).add i).add j = ⟨b, o + i + j, none⟩ := by
        intro i j
        unfold Addr.add
        split <;> split <;> simp_all <;> omega
      refine ⟨some ⟨b, o, none⟩, len + 1, cap, List.ofFn fun i : Fin (len + 1) => (key i.1 i.2).choose_spec.choose, rfl, by simp, ⟨by simpa using hlc, hcm, .inr ⟨b, o, rfl, RdE_of fun i hi => ?_⟩⟩, fun g hg => ?_⟩
      · have hi' : i < len + 1 := by simpa using hi
        obtain ⟨hl, hg, hp, hc⟩ := (key i hi').choose_spec.choose_spec
        refine ⟨(key i hi').choose, hl, by rw [List.getElem_ofFn]; exact hg, fun j v hj => ?_⟩
        have hjl := (List.getElem?_eq_some_iff.1 hj).1
        have := hc j (by omega)
        rw [hadd, hj] at this
        exact this
      · obtain ⟨i, rfl⟩ := List.mem_ofFn.1 hg
        exact (key i.1 i.2).choose_spec.choose_spec.2.2.1

theorem read_str {n : Nat} {cs : List Value} {y : DataW H × List MemPlace} (h : DataW.trod enc Tryd.prog w base spare held n 9 cs = some y) : ∃ s : ByteArray, cs = [.string s] ∧ okAt (.string s) ∧ y.1 = .lit (.string s.data.toList) := by
  obtain ⟨s, rfl, rfl, hs⟩ := DataW.trod_string Tryd.underlying9 h
  exact ⟨s, rfl, hs, rfl⟩

theorem gvs_of {es : List GV} (h : ∀ g ∈ es, ∃ v : V, g = v.gv) : ∃ l : List V, es = V.gvs l := by
  induction es with
  | nil => exact ⟨[], rfl⟩
  | cons g es ih =>
    obtain ⟨v, rfl⟩ := h g (.head _)
    obtain ⟨l, rfl⟩ := ih (fun g hg => h g (.tail _ hg))
    exact ⟨v :: l, rfl⟩
theorem strs_of {es : List GV} (h : ∀ g ∈ es, ∃ s : ByteArray, g = .at (.string s)) : ∃ l : List ByteArray, es = strsGv l := by
  induction es with
  | nil => exact ⟨[], rfl⟩
  | cons g es ih =>
    obtain ⟨v, rfl⟩ := h g (.head _)
    obtain ⟨l, rfl⟩ := ih (fun g hg => h g (.tail _ hg))
    exact ⟨v :: l, rfl⟩
theorem pairs_of {es : List GV} (h : ∀ g ∈ es, ∃ q : ByteArray × V, g = pairGv q) : ∃ l : List (ByteArray × V), es = pairsGv l := by
  induction es with
  | nil => exact ⟨[], rfl⟩
  | cons g es ih =>
    obtain ⟨v, rfl⟩ := h g (.head _)
    obtain ⟨l, rfl⟩ := ih (fun g hg => h g (.tail _ hg))
    exact ⟨v :: l, rfl⟩

theorem read_strs {fuel : Nat} {cs : List Value} {x : DataW H × List MemPlace} (h : DataW.trod enc Tryd.prog w base spare held fuel 22 cs = some x) :
    ∃ A c l, cs = [.slice A (List.length l) c] ∧ RdSl (Cm.whole w) A c 1 (strsGv l) := by
  obtain ⟨A, n, c, es, rfl, rfl, hr, hp⟩ := read_slice (p := fun g => ∃ s : ByteArray, g = .at (.string s)) Tryd.underlying22 cells_str (by omega) (fun n cs y _ hy => by
    obtain ⟨s, rfl, ho, _⟩ := read_str hy
    exact ⟨.at (.string s), by simp only [Rd]; exact ⟨trivial, ho⟩, s, rfl⟩) h
  obtain ⟨l, rfl⟩ := strs_of hp
  exact ⟨A, c, l, by simp, hr⟩

set_option maxRecDepth 100000 in
theorem read_val : ∀ (fuel : Nat) (cs : List Value) (x : DataW H × List MemPlace), DataW.trod enc Tryd.prog w base spare held fuel 28 cs = some x → ∃ v : V, Rd (Cm.whole w) v.gv cs := by
  intro fuel
  induction fuel using Nat.strongRecOn with
  | _ fuel ih =>
  intro cs x h
  obtain ⟨xs, n, rfl, _, hl, hxs, hf⟩ := DataW.trod_struct Tryd.underlying28 h
  rw [cells_value] at hl
  have hxl : xs.length = 5 := hxs
  have f0 : DataW.trod enc Tryd.prog w base spare held n 3 ((cs.drop 0).take (Tryd.prog.cellsOf 3)) = xs[0]? := hf 0 _ rfl
  have f1 : DataW.trod enc Tryd.prog w base spare held n 2 ((cs.drop 1).take (Tryd.prog.cellsOf 2)) = xs[1]? := hf 1 _ rfl
  have f2 : DataW.trod enc Tryd.prog w base spare held n 9 ((cs.drop 2).take (Tryd.prog.cellsOf 9)) = xs[2]? := hf 2 _ rfl
  have f3 : DataW.trod enc Tryd.prog w base spare held n 26 ((cs.drop 3).take (Tryd.prog.cellsOf 26)) = xs[3]? := hf 3 _ rfl
  have f4 : DataW.trod enc Tryd.prog w base spare held n 22 ((cs.drop 4).take (Tryd.prog.cellsOf 22)) = xs[4]? := hf 4 _ rfl
  match cs, hl with
  | [c0, c1, c2, c3, c4], _ =>
  rw [List.getElem?_eq_getElem (show 0 < xs.length by omega)] at f0
  rw [List.getElem?_eq_getElem (show 1 < xs.length by omega)] at f1
  rw [List.getElem?_eq_getElem (show 2 < xs.length by omega)] at f2
  rw [List.getElem?_eq_getElem (show 3 < xs.length by omega)] at f3
  rw [List.getElem?_eq_getElem (show 4 < xs.length by omega)] at f4
  have k0 : Tryd.prog.cellsOf 3 = 1 := by kernel_rfl
  have k1 : Tryd.prog.cellsOf 2 = 1 := by kernel_rfl
  have k2 : Tryd.prog.cellsOf 26 = 1 := by kernel_rfl
  have k3 : Tryd.prog.cellsOf 22 = 1 := by kernel_rfl
  rw [k0] at f0
  rw [k1] at f1
  rw [cells_str] at f2
  rw [k2] at f3
  rw [k3] at f4
  obtain ⟨n0, e0, _, o0⟩ := DataW.trod_int Tryd.underlying3 f0
  obtain ⟨n1, e1, _, o1⟩ := DataW.trod_int Tryd.underlying2 f1
  obtain ⟨s, e2, o2, _⟩ := read_str f2
  obtain ⟨A3, m3, c3', es, e3, hm3, hr3, hp3⟩ := read_slice (p := fun g => ∃ v : V, g = v.gv) Tryd.underlying26 cells_value (by omega) (fun n' cs y hn hy => by
    obtain ⟨v, hv⟩ := ih n' (by omega) cs y hy
    exact ⟨v.gv, hv, v, rfl⟩) f3
  obtain ⟨l, rfl⟩ := gvs_of hp3
  obtain ⟨A4, c4', ks, e4, hr4⟩ := read_strs f4
  simp at e0 e1 e2 e3 e4
  subst e0 e1 e2 e3 e4
  rw [V.gvs_length] at hm3
  subst hm3
  exact ⟨.mk n0 n1 s l ks, V.mk_rd (.mk n0 n1 s l ks) o0 o1 o2 hr3 hr4⟩

set_option maxRecDepth 100000 in
theorem read_pair {fuel : Nat} {cs : List Value} {x : DataW H × List MemPlace} (h : DataW.trod enc Tryd.prog w base spare held fuel 38 cs = some x) : ∃ q : ByteArray × V, Rd (Cm.whole w) (pairGv q) cs := by
  obtain ⟨xs, n, rfl, _, hl, hxs, hf⟩ := DataW.trod_struct Tryd.underlying38 h
  rw [cells_pair] at hl
  have hxl : xs.length = 2 := hxs
  have f0 : DataW.trod enc Tryd.prog w base spare held n 9 ((cs.drop 0).take (Tryd.prog.cellsOf 9)) = xs[0]? := hf 0 _ rfl
  have f1 : DataW.trod enc Tryd.prog w base spare held n 28 ((cs.drop 1).take (Tryd.prog.cellsOf 28)) = xs[1]? := hf 1 _ rfl
  rw [List.getElem?_eq_getElem (show 0 < xs.length by omega)] at f0
  rw [List.getElem?_eq_getElem (show 1 < xs.length by omega)] at f1
  rw [cells_str] at f0
  rw [cells_value] at f1
  obtain ⟨s, e0, o0, _⟩ := read_str f0
  obtain ⟨v, hv⟩ := read_val _ _ _ f1
  refine ⟨(s, v), ?_⟩
  have hcs : cs = [.string s] ++ (cs.drop 1).take 5 := by
    match cs, hl with
    | [c0, c1, c2, c3, c4, c5], _ =>
      simp at e0
      simp [e0]
  simp only [pairGv, Rd, RdS]
  exact ⟨[.string s], (cs.drop 1).take 5, hcs, ⟨rfl, o0⟩, (cs.drop 1).take 5, [], by simp, hv, rfl⟩

theorem read_pairs {fuel : Nat} {cs : List Value} {x : DataW H × List MemPlace} (h : DataW.trod enc Tryd.prog w base spare held fuel 36 cs = some x) :
    ∃ A c l, cs = [.slice A (List.length l) c] ∧ RdSl (Cm.whole w) A c 6 (pairsGv l) := by
  obtain ⟨A, n, c, es, rfl, rfl, hr, hp⟩ := read_slice (p := fun g => ∃ q : ByteArray × V, g = pairGv q) Tryd.underlying36 cells_pair (by omega) (fun n cs y _ hy => by
    obtain ⟨q, hq⟩ := read_pair hy
    exact ⟨pairGv q, hq, q, rfl⟩) h
  obtain ⟨l, rfl⟩ := pairs_of hp
  exact ⟨A, c, l, by simp, hr⟩
end
end Go.Proofs.YtbkoajipljjonaaDoor
