/- Values as trees, how they lie in memory; how many they are, and how deep: plain words. -/
import Derived.Test.YtbkoajipljjonaaDoorGv
namespace Go.Proofs.YtbkoajipljjonaaDoor
open Go.RowKit

inductive V where
  | mk (kind n : Int) (s : ByteArray) (items : List V) (keys : List ByteArray)
instance : Inhabited V := ⟨.mk 0 0 ⟨#[]⟩ [] []⟩

namespace V
def kind : V → Int | .mk k _ _ _ _ => k
def num : V → Int | .mk _ n _ _ _ => n
def str : V → ByteArray | .mk _ _ s _ _ => s
def items : V → List V | .mk _ _ _ is _ => is
def keys : V → List ByteArray | .mk _ _ _ _ ks => ks
def zero : V := .mk 0 0 ⟨#[]⟩ [] []
end V

/-- A row of texts. -/
def strsGv (l : List ByteArray) : List GV := l.map fun k => .at (.string k)
@[simp] theorem strsGv_length (l : List ByteArray) : (strsGv l).length = l.length := by simp [strsGv]

mutual
def V.gv : V → GV
  | .mk k n s is ks => .st [.at (.int .i64 k), .at (.int .i64 n), .at (.string s), .sl 5 (V.gvs is), .sl 1 (strsGv ks)]
def V.gvs : List V → List GV
  | [] => []
  | v :: vs => v.gv :: V.gvs vs
end
theorem V.gvs_eq : ∀ l : List V, V.gvs l = l.map V.gv
  | [] => by simp [V.gvs]
  | v :: vs => by simp [V.gvs, V.gvs_eq vs]
@[simp] theorem V.gvs_length (l : List V) : (V.gvs l).length = l.length := by simp [V.gvs_eq]

/-- A slice that reads as elements of so many cells. -/
def RdSl (C : Cm) (A : Option Addr) (c sz : Nat) (es : List GV) : Prop := es.length ≤ c ∧ c ≤ maxLen ∧ (es = [] ∨ ∃ b o, A = some ⟨b, o, none⟩ ∧ RdE C b o sz es)
theorem RdSl.ext {B : Nat} {C C' : Cm} (h : Ext B C C') {A : Option Addr} {c sz : Nat} {es : List GV} (hr : RdSl C A c sz es) : RdSl C' A c sz es := by
  obtain ⟨h1, h2, h3⟩ := hr
  refine ⟨h1, h2, ?_⟩
  rcases h3 with h3 | ⟨b, o, e, h3⟩
  · exact .inl h3
  · exact .inr ⟨b, o, e, h3.ext h⟩
theorem Rd_sl {C : Cm} {sz : Nat} {es : List GV} {cs : List Value} : Rd C (.sl sz es) cs ↔ ∃ A c, cs = [.slice A es.length c] ∧ RdSl C A c sz es := by
  simp only [Rd, RdSl]

/-- The cells of a value. -/
def V.cells (v : V) (A3 : Option Addr) (c3 : Nat) (A4 : Option Addr) (c4 : Nat) : List Value :=
  [.int .i64 v.kind, .int .i64 v.num, .string v.str, .slice A3 v.items.length c3, .slice A4 v.keys.length c4]

theorem V.open {C : Cm} {v : V} {cs : List Value} (h : Rd C v.gv cs) :
    ∃ A3 c3 A4 c4, cs = v.cells A3 c3 A4 c4 ∧ okAt (.int .i64 v.kind) ∧ okAt (.int .i64 v.num) ∧ okAt (.string v.str) ∧ RdSl C A3 c3 5 (V.gvs v.items) ∧ RdSl C A4 c4 1 (strsGv v.keys) := by
  cases v with
  | mk k n s is ks =>
    simp only [V.gv, Rd, RdS] at h
    obtain ⟨_, _, rfl, ⟨rfl, h0⟩, _, _, rfl, ⟨rfl, h1⟩, _, _, rfl, ⟨rfl, h2⟩, _, _, rfl, ⟨A3, c3, rfl, h3⟩, _, _, rfl, ⟨A4, c4, rfl, h4⟩, rfl⟩ := h
    exact ⟨A3, c3, A4, c4, by simp [V.cells, V.kind, V.num, V.str, V.items, V.keys], h0, h1, h2, h3, h4⟩

theorem V.mk_rd {C : Cm} (v : V) {A3 : Option Addr} {c3 : Nat} {A4 : Option Addr} {c4 : Nat} (h0 : okAt (.int .i64 v.kind)) (h1 : okAt (.int .i64 v.num)) (h2 : okAt (.string v.str))
    (h3 : RdSl C A3 c3 5 (V.gvs v.items)) (h4 : RdSl C A4 c4 1 (strsGv v.keys)) : Rd C v.gv (v.cells A3 c3 A4 c4) := by
  cases v with
  | mk k n s is ks =>
    simp only [V.gv, Rd, RdS]
    refine ⟨[_], _, rfl, ⟨rfl, h0⟩, [_], _, rfl, ⟨rfl, h1⟩, [_], _, rfl, ⟨rfl, h2⟩, [_], _, rfl, ⟨A3, c3, ?_, h3⟩, [_], _, rfl, ⟨A4, c4, ?_, h4⟩, rfl⟩
    · simp [V.items]
    · simp [V.keys]

mutual
/-- How many a value is. -/
def V.cnt : V → Nat
  | .mk _ _ _ is _ => 1 + V.cnts is
def V.cnts : List V → Nat
  | [] => 0
  | v :: vs => v.cnt + V.cnts vs
end
mutual
/-- How deep it is. -/
def V.dep : V → Nat
  | .mk _ _ _ is _ => V.deps is + 1
def V.deps : List V → Nat
  | [] => 0
  | v :: vs => max v.dep (V.deps vs)
end
theorem V.cnt_eq (v : V) : v.cnt = 1 + V.cnts v.items := by cases v; simp [V.cnt, V.items]
theorem V.dep_eq (v : V) : v.dep = V.deps v.items + 1 := by cases v; simp [V.dep, V.items]
theorem V.deps_mem : ∀ {l : List V} {v : V}, v ∈ l → v.dep ≤ V.deps l
  | _ :: _, _, .head _ => by simp only [V.deps]; omega
  | _ :: _, _, .tail _ h => by have := V.deps_mem h; simp only [V.deps]; omega
theorem V.cnts_take : ∀ (l : List V) (i : Nat) (h : i < l.length), V.cnts (l.take (i + 1)) = V.cnts (l.take i) + l[i].cnt
  | _ :: _, 0, _ => by simp [V.cnts]
  | v :: vs, i + 1, h => by
    have := V.cnts_take vs i (by simpa using h)
    simp only [List.take_succ_cons, V.cnts, List.getElem_cons_succ]
    omega
theorem V.deps_take : ∀ (l : List V) (i : Nat) (h : i < l.length), V.deps (l.take (i + 1)) = max (V.deps (l.take i)) l[i].dep
  | _ :: _, 0, _ => by simp [V.deps]
  | v :: vs, i + 1, h => by
    have := V.deps_take vs i (by simpa using h)
    simp only [List.take_succ_cons, V.deps, List.getElem_cons_succ]
    omega

/-- Element i of a row of values: its cells stand. -/
theorem V.elem {C : Cm} {w : World} {A : Option Addr} {c : Nat} {l : List V} (hC : C.le w) (h : RdSl C A c 5 (V.gvs l)) (i : Nat) (hi : i < l.length) :
    ∃ b o, A = some ⟨b, o, none⟩ ∧ ∃ A3 c3 A4 c4, Rd C (l[i]).gv ((l[i]).cells A3 c3 A4 c4) ∧
      w.cell? ⟨b, o + i * 5, none⟩ = some (.int .i64 l[i].kind) ∧ w.cell? ⟨b, o + i * 5 + 1, none⟩ = some (.int .i64 l[i].num) ∧ w.cell? ⟨b, o + i * 5 + 2, none⟩ = some (.string l[i].str) ∧
      w.cell? ⟨b, o + i * 5 + 3, none⟩ = some (.slice A3 l[i].items.length c3) ∧ w.cell? ⟨b, o + i * 5 + 4, none⟩ = some (.slice A4 l[i].keys.length c4) := by
  obtain ⟨_, _, h⟩ := h
  rcases h with h | ⟨b, o, rfl, h⟩
  · have : (V.gvs l).length = 0 := by rw [h]; rfl
    rw [V.gvs_length] at this
    omega
  · obtain ⟨ecs, hl, hd, hc⟩ := RdE_get h i (by simpa using hi)
    have he : (V.gvs l)[i]'(by simpa using hi) = (l[i]).gv := by simp [V.gvs_eq]
    rw [he] at hd
    obtain ⟨A3, c3, A4, c4, rfl, _⟩ := V.open hd
    exact ⟨b, o, rfl, A3, c3, A4, c4, hd, hC _ _ _ (hc 0 _ rfl), hC _ _ _ (hc 1 _ rfl), hC _ _ _ (hc 2 _ rfl), hC _ _ _ (hc 3 _ rfl), hC _ _ _ (hc 4 _ rfl)⟩

/-- Element i of a row of cells. -/
theorem scal_elem {α : Type} {C : Cm} {w : World} {A : Option Addr} {c : Nat} {enc : α → Value} {l : List α} (hC : C.le w) (h : RdSl C A c 1 (l.map fun x => .at (enc x))) (i : Nat) (hi : i < l.length) :
    ∃ b o, A = some ⟨b, o, none⟩ ∧ w.cell? ⟨b, o + i, none⟩ = some (enc l[i]) ∧ okAt (enc l[i]) := by
  obtain ⟨_, _, h⟩ := h
  rcases h with h | ⟨b, o, rfl, h⟩
  · have : (l.map fun x => GV.at (enc x)).length = 0 := by rw [h]; rfl
    rw [List.length_map] at this
    omega
  · obtain ⟨ecs, hl, hd, hc⟩ := RdE_get h i (by simpa using hi)
    have he : (l.map fun x => GV.at (enc x))[i]'(by simpa using hi) = .at (enc l[i]) := by simp
    rw [he] at hd
    simp only [Rd] at hd
    obtain ⟨rfl, ho⟩ := hd
    have h0 := hC _ _ _ (hc 0 _ rfl)
    rw [Nat.mul_one, Nat.add_zero] at h0
    exact ⟨b, o, rfl, h0, ho⟩

theorem boxCell {w : World} {g : Nat} {cs : Array Value} {t : TypeId} (h : w.heap[g]? = some (.cells cs t (0, 0))) (i : Nat) : w.cell? ⟨g, i, none⟩ = cs[i]? := cell_of_row w g i cs t (0, 0) h
theorem boxFroz {w : World} {g : Nat} {cs : Array Value} {t : TypeId} (h : w.heap[g]? = some (.cells cs t (0, 0))) (i : Nat) : w.frozen? ⟨g, i, none⟩ = false := by simp [World.frozen?, h]
theorem heap_setCell_own {W : World} {g : Nat} {cs : Array Value} {t : TypeId} {fr : Nat × Nat} (h : W.heap[g]? = some (.cells cs t fr)) (i : Nat) (v : Value) : (W.setCell ⟨g, i, none⟩ v).heap[g]? = some (.cells (cs.setIfInBounds i v) t fr) := by
  simp [World.setCell, Array.getElem?_modify, h]
theorem bcell {W w1 : World} (hb : Below W.heap.size W w1) : (∀ b o, b < W.heap.size → w1.cell? ⟨b, o, none⟩ = W.cell? ⟨b, o, none⟩) ∧ (∀ b o, b < W.heap.size → w1.frozen? ⟨b, o, none⟩ = W.frozen? ⟨b, o, none⟩) :=
  ⟨fun b o h => hb.cell (p := ⟨b, o, none⟩) h, fun b o h => hb.frozen (p := ⟨b, o, none⟩) h⟩
theorem heap_alloc_at {w : World} {n : Nat} (hn : n = w.heap.size) (o : Obj) : (w.alloc o).heap[n]? = some o := by subst hn; exact heap_alloc_new w o
theorem grownBy_setCell (W : World) (g i : Nat) (v : Value) : W.grownBy (W.setCell ⟨g, i, none⟩ v) (some g) :=
  ⟨rfl, rfl, rfl, by simp, fun k _ hk => Below.heap_setCell W ⟨g, i, none⟩ v k (fun e => hk (by rw [e]))⟩
theorem grownBy_trans {w w' w'' : World} {r : Option Nat} (h : w.grownBy w' r) (k : w'.grownBy w'' r) : w.grownBy w'' r :=
  ⟨k.os.trans h.os, k.tape.trans h.tape, k.output.trans h.output, Nat.le_trans h.size k.size, fun i hi hn => (k.block i (Nat.lt_of_lt_of_le hi h.size) hn).trans (h.block i hi hn)⟩
theorem grownBy_below {w w' : World} (h : Below w.heap.size w w') (r : Option Nat) : w.grownBy w' r := ⟨h.os, h.tape, h.output, h.size, fun k hk _ => h.block k hk⟩
theorem below_of_grownBy {B : Nat} {w w' : World} {g : Nat} (h : w.grownBy w' (some g)) (hB : B ≤ w.heap.size) (hg : B ≤ g) : Below B w w' :=
  ⟨h.os, h.tape, h.output, h.size, fun k hk => h.block k (by omega) (fun e => by injection e with e; omega)⟩
theorem wrap64_add_left (a b : Int) : wrap64 (wrap64 a + b) = wrap64 (a + b) := by unfold wrap64; omega
theorem wrap64_add_right (a b : Int) : wrap64 (a + wrap64 b) = wrap64 (a + b) := by unfold wrap64; omega
end Go.Proofs.YtbkoajipljjonaaDoor
