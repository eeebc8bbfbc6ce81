/- A settled view of memory, and what a value's cells read as in it: plain words, no program. -/
import Derived.WalkKit
namespace Go.Proofs.YtbkoajipljjonaaDoor
open Go.RowKit

/-- A settled view: what some cells hold. -/
abbrev Cm := Nat → Nat → Option Value

/-- What is settled stands in the world. -/
def Cm.le (C : Cm) (w : World) : Prop := ∀ b o v, C b o = some v → w.cell? ⟨b, o, none⟩ = some v
/-- More is settled, and nothing more in blocks below B. -/
structure Ext (B : Nat) (C C' : Cm) : Prop where
  more : ∀ b o v, C b o = some v → C' b o = some v
  old : ∀ b o, b < B → C' b o = C b o

theorem Ext.refl (B : Nat) (C : Cm) : Ext B C C := ⟨fun _ _ _ h => h, fun _ _ _ => rfl⟩
theorem Ext.trans {B : Nat} {C C' C'' : Cm} (h : Ext B C C') (k : Ext B C' C'') : Ext B C C'' :=
  ⟨fun b o v e => k.more b o v (h.more b o v e), fun b o l => (k.old b o l).trans (h.old b o l)⟩
theorem Ext.mono {B B' : Nat} {C C' : Cm} (h : Ext B C C') (hB : B' ≤ B) : Ext B' C C' := ⟨h.more, fun b o l => h.old b o (Nat.lt_of_lt_of_le l hB)⟩

theorem Cm.le_below {C : Cm} {w w' : World} (h : C.le w) (hb : Below w.heap.size w w') : C.le w' := fun b o v e =>
  have hc := h b o v e
  (hb.cell (p := ⟨b, o, none⟩) (World.block_lt_of_cell? w _ hc)).trans hc
theorem Cm.lt {C : Cm} {w : World} (h : C.le w) {b o : Nat} {v : Value} (e : C b o = some v) : b < w.heap.size := World.block_lt_of_cell? w ⟨b, o, none⟩ (h b o v e)

/-- A pure call's frame. -/
structure Pure (C : Cm) (w w' : World) (C' : Cm) : Prop where
  below : Below w.heap.size w w'
  ext : Ext w.heap.size C C'
  le : C'.le w'

theorem Pure.refl {C : Cm} {w : World} (h : C.le w) : Pure C w w C := ⟨Below.refl _ _, Ext.refl _ _, h⟩
theorem Pure.of_below {C : Cm} {w w' : World} (h : C.le w) (hb : Below w.heap.size w w') : Pure C w w' C := ⟨hb, Ext.refl _ _, Cm.le_below h hb⟩
theorem Pure.trans {C C' C'' : Cm} {w w' w'' : World} (h : Pure C w w' C') (k : Pure C' w' w'' C'') : Pure C w w'' C'' :=
  ⟨h.below.trans (k.below.mono h.below.size), h.ext.trans (k.ext.mono h.below.size), k.le⟩

/-- What a cell alone may hold. -/
def okAt : Value → Prop
  | .string s => s.size ≤ 9223372036854775807
  | .int k n => (Lit.int k n).wf = true
  | .bool _ => True
  | _ => False

/-- What values read as: a cell, a struct of parts, a slice of elements of so many cells. -/
inductive GV where
  | at (v : Value)
  | st (fs : List GV)
  | sl (sz : Nat) (es : List GV)

mutual
def Rd (C : Cm) : GV → List Value → Prop
  | .at v, cs => cs = [v] ∧ okAt v
  | .st fs, cs => RdS C fs cs
  | .sl sz es, cs => ∃ A c, cs = [.slice A es.length c] ∧ es.length ≤ c ∧ c ≤ maxLen ∧ (es = [] ∨ ∃ b o, A = some ⟨b, o, none⟩ ∧ RdE C b o sz es)
def RdS (C : Cm) : List GV → List Value → Prop
  | [], cs => cs = []
  | f :: fs, cs => ∃ c0 c1, cs = c0 ++ c1 ∧ Rd C f c0 ∧ RdS C fs c1
def RdE (C : Cm) (b o sz : Nat) : List GV → Prop
  | [] => True
  | e :: es => (∃ ecs, ecs.length = sz ∧ Rd C e ecs ∧ ∀ j v, ecs[j]? = some v → C b (o + j) = some v) ∧ RdE C b (o + sz) sz es
end

mutual
theorem Rd_mono {C C' : Cm} (h : ∀ b o v, C b o = some v → C' b o = some v) : ∀ (x : GV) (cs : List Value), Rd C x cs → Rd C' x cs
  | .at v, cs, hr => by simpa [Rd] using hr
  | .st fs, cs, hr => by
    simp only [Rd] at hr ⊢
    exact RdS_mono h fs cs hr
  | .sl sz es, cs, hr => by
    simp only [Rd] at hr ⊢
    obtain ⟨A, c, rfl, hl, hm, hr⟩ := hr
    refine ⟨A, c, rfl, hl, hm, ?_⟩
    rcases hr with hr | ⟨b, o, rfl, hr⟩
    · exact .inl hr
    · exact .inr ⟨b, o, rfl, RdE_mono h b o sz es hr⟩
theorem RdS_mono {C C' : Cm} (h : ∀ b o v, C b o = some v → C' b o = some v) : ∀ (fs : List GV) (cs : List Value), RdS C fs cs → RdS C' fs cs
  | [], cs, hr => by simpa [RdS] using hr
  | f :: fs, cs, hr => by
    simp only [RdS] at hr ⊢
    obtain ⟨c0, c1, rfl, h0, h1⟩ := hr
    exact ⟨c0, c1, rfl, Rd_mono h f c0 h0, RdS_mono h fs c1 h1⟩
theorem RdE_mono {C C' : Cm} (h : ∀ b o v, C b o = some v → C' b o = some v) (b o sz : Nat) : ∀ (es : List GV), RdE C b o sz es → RdE C' b o sz es
  | [], _ => by simp [RdE]
  | e :: es, hr => by
    simp only [RdE] at hr ⊢
    obtain ⟨⟨ecs, hl, hd, hc⟩, hr⟩ := hr
    exact ⟨⟨ecs, hl, Rd_mono h e ecs hd, fun j v hj => h _ _ _ (hc j v hj)⟩, RdE_mono h b (o + sz) sz es hr⟩
end

theorem Rd.ext {B : Nat} {C C' : Cm} (h : Ext B C C') {x : GV} {cs : List Value} (hr : Rd C x cs) : Rd C' x cs := Rd_mono h.more x cs hr
theorem RdE.ext {B : Nat} {C C' : Cm} (h : Ext B C C') {b o sz : Nat} {es : List GV} (hr : RdE C b o sz es) : RdE C' b o sz es := RdE_mono h.more b o sz es hr

theorem RdE_get {C : Cm} {b sz : Nat} : ∀ {es : List GV} {o : Nat}, RdE C b o sz es → ∀ i (hi : i < es.length), ∃ ecs, ecs.length = sz ∧ Rd C es[i] ecs ∧ ∀ j v, ecs[j]? = some v → C b (o + i * sz + j) = some v
  | [], _, _, i, hi => by simp at hi
  | e :: es, o, h, 0, _ => by
    simp only [RdE] at h
    simpa using h.1
  | e :: es, o, h, i + 1, hi => by
    simp only [RdE] at h
    obtain ⟨ecs, hl, hd, hc⟩ := RdE_get h.2 i (by simpa using hi)
    refine ⟨ecs, hl, by simpa using hd, fun j v hj => ?_⟩
    have := hc j v hj
    rwa [show o + (i + 1) * sz + j = o + sz + i * sz + j by rw [Nat.add_mul]; omega]

theorem RdE_of {C : Cm} {b sz : Nat} : ∀ {es : List GV} {o : Nat}, (∀ i (hi : i < es.length), ∃ ecs, ecs.length = sz ∧ Rd C es[i] ecs ∧ ∀ j v, ecs[j]? = some v → C b (o + i * sz + j) = some v) → RdE C b o sz es
  | [], _, _ => by simp [RdE]
  | e :: es, o, h => by
    simp only [RdE]
    refine ⟨?_, RdE_of fun i hi => ?_⟩
    · have h0 := h 0 (by simp)
      simp only [List.getElem_cons_zero, Nat.zero_mul, Nat.add_zero] at h0
      exact h0
    · obtain ⟨ecs, hl, hd, hc⟩ := h (i + 1) (by simpa using hi)
      refine ⟨ecs, hl, by simpa using hd, fun j v hj => ?_⟩
      have := hc j v hj
      rwa [show o + sz + i * sz + j = o + (i + 1) * sz + j by rw [Nat.add_mul]; omega]

theorem RdE_take {C : Cm} {b o sz : Nat} {es : List GV} (h : RdE C b o sz es) (n : Nat) : RdE C b o sz (es.take n) :=
  RdE_of fun i hi => by
    have hi' : i < es.length := by rw [List.length_take] at hi; omega
    simpa using RdE_get h i hi'

theorem RdE_drop {C : Cm} {b o sz : Nat} {es : List GV} (h : RdE C b o sz es) (n : Nat) : RdE C b (o + n * sz) sz (es.drop n) :=
  RdE_of fun i hi => by
    have hi' : n + i < es.length := by rw [List.length_drop] at hi; omega
    obtain ⟨ecs, hl, hd, hc⟩ := RdE_get h (n + i) hi'
    refine ⟨ecs, hl, by simpa using hd, fun j v hj => ?_⟩
    rw [show o + n * sz + i * sz + j = o + (n + i) * sz + j by rw [Nat.add_mul]; omega]
    exact hc j v hj

theorem RdE_append {C : Cm} {b sz : Nat} : ∀ {xs : List GV} {o : Nat} {ys : List GV}, RdE C b o sz xs → RdE C b (o + xs.length * sz) sz ys → RdE C b o sz (xs ++ ys)
  | [], o, ys, _, hy => by simpa using hy
  | x :: xs, o, ys, hx, hy => by
    simp only [RdE] at hx
    simp only [List.cons_append, RdE]
    refine ⟨hx.1, RdE_append hx.2 ?_⟩
    rwa [show o + sz + xs.length * sz = o + (x :: xs).length * sz by simp [Nat.add_mul]; omega]

/-- A new block is settled. -/
def Cm.put (C : Cm) (b : Nat) (l : List Value) : Cm := fun b' o => if b' = b then l[o]? else C b' o
theorem Cm.put_at (C : Cm) (b : Nat) (l : List Value) (o : Nat) : C.put b l b o = l[o]? := by simp [Cm.put]
theorem Ext.put {B b : Nat} {C : Cm} (hB : B ≤ b) (hn : ∀ o, C b o = none) (l : List Value) : Ext B C (C.put b l) := by
  refine ⟨fun b' o v h => ?_, fun b' o h => ?_⟩
  · unfold Cm.put
    by_cases e : b' = b
    · subst e; rw [hn] at h; cases h
    · rw [if_neg e]; exact h
  · unfold Cm.put
    rw [if_neg (by omega)]
theorem Cm.none_of {C : Cm} {w : World} (h : C.le w) {b : Nat} (hb : w.heap.size ≤ b) (o : Nat) : C b o = none := by
  cases e : C b o with
  | none => rfl
  | some v => have := Cm.lt h e; omega
theorem Cm.put_le {C : Cm} {w w' : World} (h : C.le w) (hb : Below w.heap.size w w') {b : Nat} {l : List Value} (hc : ∀ o v, l[o]? = some v → w'.cell? ⟨b, o, none⟩ = some v) : (C.put b l).le w' := by
  intro b' o v e
  unfold Cm.put at e
  by_cases eb : b' = b
  · subst eb; rw [if_pos rfl] at e; exact hc o v e
  · rw [if_neg eb] at e; exact Cm.le_below h hb b' o v e
theorem ret_int {k : IntKind} {a b : Int} (h : a = b) : Ending.returned (.int k a) = .returned (.int k b) := by rw [h]
theorem ret_bool {a b : Bool} (h : a = b) : Ending.returned (.bool a) = .returned (.bool b) := by rw [h]
theorem ret_str {a b : ByteArray} (h : a = b) : Ending.returned (.string a) = .returned (.string b) := by rw [h]
end Go.Proofs.YtbkoajipljjonaaDoor
