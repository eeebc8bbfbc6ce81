/- value.Map's loop: the rows of keys and of values as they grow, apart from what else is there. -/
import Derived.Test.YtbkoajipljjonaaDoorRegion
import Derived.Deep.AppendLies
import Derived.Laws.World
import Derived.Deep.Heap
namespace Go.Proofs.YtbkoajipljjonaaDoor
open Go.RowKit Go.Shelf Go.Sort Go.Deep

/-- Values by keys. -/
def V.ofPairs (ps : List (ByteArray × V)) : V := .mk 4 0 ⟨#[]⟩ (ps.map Prod.snd) (ps.map Prod.fst)
def zeroVal : Value := .agg #[.int .i64 0, .int .i64 0, .string ⟨#[]⟩, .slice none 0 0, .slice none 0 0]
/-- The cells of a row of values; of a row of keys. -/
def itCells (d : List PC) : List Value := d.flatMap PC.vcells
def kyCells (d : List PC) : List Value := d.map fun x => .string x.key
theorem itCells_length (d : List PC) : (itCells d).length = d.length * 5 := by
  induction d with
  | nil => rfl
  | cons x d ih =>
    have e : x.vcells.length = 5 := rfl
    simp only [itCells, List.flatMap_cons, List.length_append, List.length_cons] at *
    omega
theorem itCells_snoc {d : List PC} {k : Nat} {x : PC} (h : d[k]? = some x) : itCells (d.take (k + 1)) = itCells (d.take k) ++ x.vcells := by
  rw [List.take_add_one, h]
  simp [itCells]
theorem kyCells_snoc {d : List PC} {k : Nat} {x : PC} (h : d[k]? = some x) : kyCells (d.take (k + 1)) = kyCells (d.take k) ++ [.string x.key] := by
  rw [List.take_add_one, h]
  simp [kyCells]

/-- W' is W, but for rows of elements e behind base, and for what is new. -/
structure Stp (base : Nat) (e : TypeId) (W W' : World) : Prop where
  os : W'.os = W.os
  tape : W'.tape = W.tape
  output : W'.output = W.output
  size : W.heap.size ≤ W'.heap.size
  low : ∀ j, j < base → j < W.heap.size → W'.heap[j]? = W.heap[j]?
  typ : ∀ (j : Nat) (cs : Array Value) (t : TypeId) (fr : Nat × Nat), W.heap[j]? = some (Obj.cells cs t fr) → t ≠ e → W'.heap[j]? = some (Obj.cells cs t fr)
theorem Stp.alloc (base : Nat) (e : TypeId) (W : World) (o : Obj) : Stp base e W (W.alloc o) :=
  ⟨rfl, rfl, rfl, by simp, fun j _ h => Below.heap_alloc _ _ _ h, fun j cs t fr h _ => by rw [Below.heap_alloc _ _ _ (Array.getElem?_eq_some_iff.1 h).1]; exact h⟩
theorem Stp.drew (base : Nat) (e : TypeId) (W : World) : Stp base e W W.drew := ⟨rfl, rfl, rfl, Nat.le_refl _, fun _ _ _ => rfl, fun _ _ _ _ h _ => h⟩
theorem Stp.app {base : Nat} {e : TypeId} {s : Nat} {v : Value} {n : Nat} {xs : List Value} {W W' : World} (h : W.ownsRow base e s v n xs) (hg : W.grownBy W' v.ownBlock) : Stp base e W W' := by
  refine ⟨hg.os, hg.tape, hg.output, hg.size, fun j hj hs => hg.block j hs (fun q => ?_), fun j cs t fr hj ht => ?_⟩
  · have := (h.lt j q.symm).1
    omega
  · rw [hg.block j (Array.getElem?_eq_some_iff.1 hj).1 (fun q => ?_)]
    · exact hj
    · rcases h.2 with ⟨rfl, _⟩ | ⟨g, cap, cur, rfl, _, hgg, _⟩
      · simp [Value.ownBlock] at q
      · simp only [Value.ownBlock, Option.some.injEq] at q
        subst q
        rw [hj] at hgg
        injection hgg with hgg
        injection hgg with _ hgg
        exact ht hgg
theorem Stp.own {base b' s n : Nat} {e e' : TypeId} {v : Value} {xs : List Value} {W W' : World} (h : Stp base e W W') (ho : W.ownsRow b' e' s v n xs) (he : e' ≠ e) : W'.ownsRow b' e' s v n xs := by
  refine ⟨ho.1, ?_⟩
  rcases ho.2 with hn | ⟨g, cap, cur, rfl, hb, hgg, rest⟩
  · exact .inl hn
  · exact .inr ⟨g, cap, cur, rfl, hb, h.typ _ _ _ _ hgg he, rest⟩
theorem Stp.below {base B : Nat} {e : TypeId} {w0 W W' : World} (h : Stp base e W W') (hb : Below B w0 W) (h0 : B ≤ base) (h1 : B ≤ W.heap.size) : Below B w0 W' :=
  ⟨h.os.trans hb.os, h.tape.trans hb.tape, h.output.trans hb.output, Nat.le_trans hb.size h.size, fun j hj => (h.low j (by omega) (by omega)).trans (hb.block j hj)⟩
/-- What Map's loop has come to: the rows of keys and of values, so far; the pairs' row; what the variables hold. -/
structure Mid (B0 blk b5 b2 : Nat) (d : List PC) (w0 : World) (bi bk vi : Value) (ki : Nat) (vk : Value) (kk : Nat) (wr : World) : Prop where
  bel : Below w0.heap.size w0 wr
  it : wr.ownsRow B0 28 5 vi ki (itCells (d.take ki))
  ky : wr.ownsRow B0 9 1 vk kk (kyCells (d.take kk))
  box : wr.heap[b5]? = some (.cells #[.int .i64 4, .int .i64 0, .string ⟨#[]⟩, bi, bk] 28 (0, 0))
  res : wr.heap[b2]? = some (.cells #[.int .i64 0, .int .i64 0, .string ⟨#[]⟩, .slice none 0 0, .slice none 0 0] 28 (0, 0))
  row : d ≠ [] → HoldsK PC.enc 6 wr blk 0 d.toArray
  sz : B0 ≤ wr.heap.size

section
variable {B0 blk b5 b2 : Nat} {d : List PC} {w0 : World} {bi bk vi : Value} {ki : Nat} {vk : Value} {kk : Nat} {wr wr' : World} {e : TypeId}
theorem Mid.low (h : Mid B0 blk b5 b2 d w0 bi bk vi ki vk kk wr) (hs : Stp B0 e wr wr') (h5 : b5 < B0) (h2 : b2 < B0) (hb : blk < B0) (h0 : w0.heap.size ≤ B0) :
    Below w0.heap.size w0 wr' ∧ wr'.heap[b5]? = some (.cells #[.int .i64 4, .int .i64 0, .string ⟨#[]⟩, bi, bk] 28 (0, 0)) ∧ wr'.heap[b2]? = some (.cells #[.int .i64 0, .int .i64 0, .string ⟨#[]⟩, .slice none 0 0, .slice none 0 0] 28 (0, 0)) ∧ (d ≠ [] → HoldsK PC.enc 6 wr' blk 0 d.toArray) ∧ B0 ≤ wr'.heap.size := by
  have hz := h.sz
  refine ⟨hs.below h.bel h0 (by omega), (hs.low _ h5 (by omega)).trans h.box, (hs.low _ h2 (by omega)).trans h.res, fun e j hj => ?_, Nat.le_trans hz hs.size⟩
  have hr := h.row e j hj
  have hq := hs.low blk hb (by omega)
  rw [show wr'.cell? ⟨blk, 0 + j, none⟩ = wr.cell? ⟨blk, 0 + j, none⟩ from World.cell?_of_block hq, show wr'.frozen? ⟨blk, 0 + j, none⟩ = wr.frozen? ⟨blk, 0 + j, none⟩ from World.frozen?_of_block hq]
  exact hr
theorem Mid.alloc (h : Mid B0 blk b5 b2 d w0 bi bk vi ki vk kk wr) (h5 : b5 < B0) (h2 : b2 < B0) (hb : blk < B0) (h0 : w0.heap.size ≤ B0) (o : Obj) : Mid B0 blk b5 b2 d w0 bi bk vi ki vk kk (wr.alloc o) := by
  obtain ⟨q1, q2, q3, q4, q5⟩ := h.low (Stp.alloc B0 0 wr o) h5 h2 hb h0
  exact ⟨q1, h.it.alloc _, h.ky.alloc _, q2, q3, q4, q5⟩
theorem Mid.pw (h : Mid B0 blk b5 b2 d w0 bi bk vi ki vk kk wr) (n : Nat) : Mid B0 blk b5 b2 d w0 bi bk vi ki vk kk (wr.drewN n) :=
  ⟨⟨h.bel.os, h.bel.tape, h.bel.output, h.bel.size, h.bel.block⟩, h.it, h.ky, h.box, h.res, h.row, h.sz⟩
theorem Mid.drew (h : Mid B0 blk b5 b2 d w0 bi bk vi ki vk kk wr) : Mid B0 blk b5 b2 d w0 bi bk vi ki vk kk wr.drew :=
  ⟨⟨h.bel.os, h.bel.tape, h.bel.output, h.bel.size, h.bel.block⟩, h.it, h.ky, h.box, h.res, h.row, h.sz⟩
theorem Mid.appK (h : Mid B0 blk b5 b2 d w0 bi bk vi ki vk kk wr) (h5 : b5 < B0) (h2 : b2 < B0) (hb : blk < B0) (h0 : w0.heap.size ≤ B0) {v : Value} {x : PC} (hx : d[kk]? = some x)
    (ho : wr'.ownsRow B0 9 1 v (kk + 1) (kyCells (d.take kk) ++ [.string x.key])) (hg : wr.grownBy wr' vk.ownBlock) : Mid B0 blk b5 b2 d w0 bi bk vi ki v (kk + 1) wr' := by
  have hs := Stp.app h.ky hg
  obtain ⟨q1, q2, q3, q4, q5⟩ := h.low hs h5 h2 hb h0
  exact ⟨q1, hs.own h.it (by decide), by rw [kyCells_snoc hx]; exact ho, q2, q3, q4, q5⟩
theorem Mid.appI (h : Mid B0 blk b5 b2 d w0 bi bk vi ki vk kk wr) (h5 : b5 < B0) (h2 : b2 < B0) (hb : blk < B0) (h0 : w0.heap.size ≤ B0) {v : Value} {x : PC} (hx : d[ki]? = some x)
    (ho : wr'.ownsRow B0 28 5 v (ki + 1) (itCells (d.take ki) ++ x.vcells)) (hg : wr.grownBy wr' vi.ownBlock) : Mid B0 blk b5 b2 d w0 bi bk v (ki + 1) vk kk wr' := by
  have hs := Stp.app h.it hg
  obtain ⟨q1, q2, q3, q4, q5⟩ := h.low hs h5 h2 hb h0
  exact ⟨q1, by rw [itCells_snoc hx]; exact ho, hs.own h.ky (by decide), q2, q3, q4, q5⟩
theorem Mid.store (h : Mid B0 blk b5 b2 d w0 bi bk vi ki vk kk wr) (h5 : b5 < B0) (h25 : b2 ≠ b5) (hb5 : blk ≠ b5) (h0 : w0.heap.size ≤ b5) {i : Nat} (v bi' bk' : Value)
    (hv : (#[.int .i64 4, .int .i64 0, .string ⟨#[]⟩, bi, bk] : Array Value).setIfInBounds i v = #[.int .i64 4, .int .i64 0, .string ⟨#[]⟩, bi', bk']) : Mid B0 blk b5 b2 d w0 bi' bk' vi ki vk kk (wr.setCell ⟨b5, i, none⟩ v) := by
  have hh : ∀ j, j ≠ b5 → (wr.setCell ⟨b5, i, none⟩ v).heap[j]? = wr.heap[j]? := fun j hj => blk_setCell_other _ _ _ _ hj
  have hown : ∀ {t s v' n xs}, wr.ownsRow B0 t s v' n xs → (wr.setCell ⟨b5, i, none⟩ v).ownsRow B0 t s v' n xs := by
    intro t s v' n xs ho
    refine ⟨ho.1, ?_⟩
    rcases ho.2 with hn | ⟨g, cap, cur, rfl, hb, hgg, rest⟩
    · exact .inl hn
    · exact .inr ⟨g, cap, cur, rfl, hb, (hh g (by omega)).trans hgg, rest⟩
  refine ⟨⟨h.bel.os, h.bel.tape, h.bel.output, by rw [nblk_setCell]; exact h.bel.size, fun j hj => (hh j (by omega)).trans (h.bel.block j hj)⟩, hown h.it, hown h.ky, ?_, (hh _ h25).trans h.res, fun e j hj => ?_, by rw [nblk_setCell]; exact h.sz⟩
  · rw [heap_setCell_own h.box, hv]
  · have hr := h.row e j hj
    have hq := hh blk hb5
    rw [show (wr.setCell ⟨b5, i, none⟩ v).cell? ⟨blk, 0 + j, none⟩ = wr.cell? ⟨blk, 0 + j, none⟩ from World.cell?_of_block hq, show (wr.setCell ⟨b5, i, none⟩ v).frozen? ⟨blk, 0 + j, none⟩ = wr.frozen? ⟨blk, 0 + j, none⟩ from World.frozen?_of_block hq]
    exact hr
end
end Go.Proofs.YtbkoajipljjonaaDoor
