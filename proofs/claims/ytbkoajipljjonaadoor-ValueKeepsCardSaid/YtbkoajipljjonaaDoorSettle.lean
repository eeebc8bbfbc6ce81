/- What has been built becomes settled; a row of pairs in order. -/
import Derived.Test.YtbkoajipljjonaaDoorMid
namespace Go.Proofs.YtbkoajipljjonaaDoor
open Go.RowKit Go.Shelf Go.Sort Go.Deep

theorem settle_row {C : Cm} {w' : World} {b0 n c sz : Nat} {e : TypeId} {A : Option Addr} {cells : List Value} {es : List GV} (hC : C.le w') (own : w'.ownsRow b0 e sz (.slice A n c) n cells) (hlen : es.length = n)
    (hel : ∀ i (hi : i < es.length), ∃ ecs : List Value, ecs.length = sz ∧ Rd C es[i] ecs ∧ ∀ (j : Nat) v, ecs[j]? = some v → cells[i * sz + j]? = some v)
    (hfr : ∀ g, (Value.slice A n c).ownBlock = some g → ∀ o, C g o = none) :
    ∃ C', (∀ B, B ≤ b0 → Ext B C C') ∧ C'.le w' ∧ RdSl C' A c sz es ∧ ∀ g o, (Value.slice A n c).ownBlock ≠ some g → C' g o = C g o := by
  rcases own.2 with ⟨hv, rfl⟩ | ⟨g, cap, cur, hv, hb, hg, hcap, hmax, hcur, htake⟩
  · injection hv with h1 h2 h3
    subst h1 h3
    refine ⟨C, fun B _ => Ext.refl _ _, hC, ⟨by omega, by simp [maxLen], .inl (List.eq_nil_of_length_eq_zero hlen)⟩, fun _ _ _ => rfl⟩
  · injection hv with h1 h2 h3
    subst h1 h3
    have hno := hfr g rfl
    refine ⟨C.put g cells, fun B hB => Ext.put (Nat.le_trans hB hb) hno cells, ?_, ⟨by omega, hmax, ?_⟩, ?_⟩
    · refine Cm.put_le hC (Below.refl _ _) (fun o v ho => ?_)
      rw [cell_of_row _ _ o _ _ _ hg]
      rw [← htake, List.getElem?_take] at ho
      split at ho
      · simpa using ho
      · cases ho
    · refine .inr ⟨g, 0, rfl, RdE_of fun i hi => ?_⟩
      obtain ⟨ecs, hl, hr, hc⟩ := hel i hi
      have hE : Ext 0 C (C.put g cells) := Ext.put (Nat.zero_le _) hno cells
      exact ⟨ecs, hl, hr.ext hE, fun j v hj => by rw [Nat.zero_add, Cm.put_at]; exact hc j v hj⟩
    · intro g' o hne
      have : g' ≠ g := fun e => hne (by rw [e]; rfl)
      simp [Cm.put, this]

theorem chunk_get {α : Type} (f : α → List Value) (s : Nat) (hf : ∀ x, (f x).length = s) : ∀ (d : List α) (i : Nat) (hi : i < d.length) (j : Nat) (v : Value), (f d[i])[j]? = some v → (d.flatMap f)[i * s + j]? = some v
  | x :: d, 0, _, j, v, h => by
    simp only [List.getElem_cons_zero] at h
    rw [Nat.zero_mul, Nat.zero_add, List.flatMap_cons, List.getElem?_append_left (List.getElem?_eq_some_iff.1 h).1]
    exact h
  | x :: d, i + 1, hi, j, v, h => by
    simp only [List.getElem_cons_succ] at h
    have := chunk_get f s hf d i (by simpa using hi) j v h
    rw [List.flatMap_cons, List.getElem?_append_right (by rw [hf, Nat.succ_mul]; omega), hf, show (i + 1) * s + j - s = i * s + j by rw [Nat.succ_mul]; omega]
    exact this

theorem PC.ok_v {C : Cm} {x : PC} (h : x.ok C) : Rd C x.v.gv x.vcells := h.2

/-- What Map has built, settled. -/
theorem settle_map {C : Cm} {w w' : World} {B0 n c3 c4 : Nat} {A3 A4 : Option Addr} {d : List PC} (hC : C.le w) (hb : Below w.heap.size w w') (h0 : w.heap.size ≤ B0) (hd : d.length = n) (hok : ∀ x ∈ d, x.ok C)
    (hI : w'.ownsRow B0 28 5 (.slice A3 n c3) n (itCells d)) (hK : w'.ownsRow B0 9 1 (.slice A4 n c4) n (kyCells d)) :
    ∃ C', Pure C w w' C' ∧ Rd C' (V.ofPairs (d.map PC.pair)).gv ((V.ofPairs (d.map PC.pair)).cells A3 c3 A4 c4) := by
  have hsep : ∀ g, (Value.slice A4 n c4).ownBlock = some g → (Value.slice A3 n c3).ownBlock ≠ some g := by
    intro g hg hg'
    rcases hI.2 with ⟨e, rfl⟩ | ⟨g1, _, _, e, _, hh, _⟩
    · injection e with e1
      subst e1
      simp [Value.ownBlock] at hg'
    · rcases hK.2 with ⟨e', rfl⟩ | ⟨g2, _, _, e', _, hh', _⟩
      · injection e' with e1
        subst e1
        simp [Value.ownBlock] at hg
      · injection e with e1
        injection e' with e2
        subst e1 e2
        simp only [Value.ownBlock, Option.some.injEq] at hg hg'
        subst hg hg'
        rw [hh] at hh'
        injection hh' with hh'
        injection hh' with _ hh'
        exact absurd hh' (by decide)
  have hmap1 : (V.gvs (d.map fun x => x.v)).length = n := by simp [hd]
  obtain ⟨C1, he1, hle1, hr1, hold1⟩ := settle_row (es := V.gvs (d.map fun x => x.v)) (Cm.le_below hC hb) hI hmap1 (fun i hi => by
      have hid : i < d.length := by simpa using hi
      refine ⟨(d[i]).vcells, rfl, ?_, fun j v hj => chunk_get PC.vcells 5 (fun _ => rfl) d i hid j v hj⟩
      have := (hok d[i] (List.getElem_mem hid)).2
      simpa [V.gvs_eq] using this) (fun g hg o => Cm.none_of hC (Nat.le_trans h0 (hI.lt g hg).1) o)
  obtain ⟨C2, he2, hle2, hr2, hold2⟩ := settle_row (es := strsGv (d.map fun x => x.key)) hle1 hK (by simp [hd]) (fun i hi => by
      have hid : i < d.length := by simpa using hi
      refine ⟨[.string (d[i]).key], rfl, ?_, fun j v hj => ?_⟩
      · have := (hok d[i] (List.getElem_mem hid)).1
        simpa [strsGv, Rd] using this
      · cases j with
        | zero =>
          simp only [List.getElem?_cons_zero] at hj
          subst_vars
          simp [kyCells, hid]
          simpa using hj
        | succ j => simp at hj) (fun g hg o => by rw [hold1 g o (hsep g hg)]; exact Cm.none_of hC (Nat.le_trans h0 (hK.lt g hg).1) o)
  refine ⟨C2, ⟨hb, (he1 _ h0).trans (he2 _ h0), hle2⟩, ?_⟩
  refine V.mk_rd _ ?_ ?_ ?_ ?_ ?_
  · simp [V.ofPairs, V.kind, okAt]
    decide
  · simp [V.ofPairs, V.num, okAt]
    decide
  · simp [V.ofPairs, V.str, okAt, ByteArray.size]
  · have := hr1.ext (he2 0 (Nat.zero_le _))
    simpa [V.ofPairs, V.items, PC.pair, Function.comp_def] using this
  · simpa [V.ofPairs, V.keys, PC.pair, Function.comp_def] using hr2

/-- Keys in order, no two beside each other the same: strictly in order. -/
theorem strict_of {d : List PC} (hs : ∀ i j, i < j → j < d.length → ltB d.toArray[j]!.key d.toArray[i]!.key = false) (hn : ∀ j, 0 < j → j < d.length → (d.getD (j - 1) default).key.toList ≠ (d.getD j default).key.toList) :
    (d.map PC.pair).Pairwise (fun a b => ltB a.1 b.1 = true) := by
  have hget : ∀ i, i < d.length → d.toArray[i]! = d.getD i default := fun i hi => by
    rw [getElem!_pos d.toArray i (by simpa using hi)]
    simp [hi]
  have hadj : ∀ i, i + 1 < d.length → ltB (d.getD i default).key (d.getD (i + 1) default).key = true := fun i hi => by
    have h1 := hs i (i + 1) (by omega) hi
    rw [hget _ hi, hget _ (by omega)] at h1
    exact ltB_total h1 (fun e => hn (i + 1) (by omega) hi e.symm)
  have hall : ∀ k i, i + k + 1 < d.length → ltB (d.getD i default).key (d.getD (i + k + 1) default).key = true := by
    intro k
    induction k with
    | zero => exact fun i hi => hadj i hi
    | succ k ih => exact fun i hi => ltB_trans (ih i (by omega)) (hadj (i + k + 1) hi)
  rw [List.pairwise_iff_getElem]
  intro i j hi hj hij
  have hi' : i < d.length := by simpa using hi
  have hj' : j < d.length := by simpa using hj
  have := hall (j - i - 1) i (by omega)
  rw [show i + (j - i - 1) + 1 = j by omega] at this
  simpa [hi', hj', PC.pair] using this

/-- Two keys beside each other are the same: a key is there twice. -/
theorem twice_of {d d0 : List PC} {l : List (ByteArray × V)} (hp : d.Perm d0) (hl : d0.map PC.pair = l) {k : Nat} {x : PC} (hx : d[k]? = some x) (hb : true = (decide (0 < k) && ((d.getD (k - 1) default).key.toList == x.key.toList))) :
    ¬ (l.map Prod.fst).Nodup := by
  intro hnd
  have h1 : (d.map PC.key).Nodup := by
    have : (d.map PC.key).Perm (l.map Prod.fst) := by
      rw [← hl, List.map_map]
      exact hp.map _
    exact this.nodup_iff.2 hnd
  have hb' := hb.symm
  simp only [Bool.and_eq_true, decide_eq_true_eq, beq_iff_eq] at hb'
  obtain ⟨hk, he⟩ := hb'
  have he := bytes_ext he
  obtain ⟨hkl, hxk⟩ := List.getElem?_eq_some_iff.1 hx
  rw [List.getD_eq_getElem?_getD (l := d) (i := k - 1), List.getElem?_eq_getElem (by omega), Option.getD_some, ← hxk] at he
  have := (List.pairwise_iff_getElem.1 h1) (k - 1) k (by rw [List.length_map]; omega) (by simpa using hkl) (by omega)
  apply this
  simp [he]
end Go.Proofs.YtbkoajipljjonaaDoor
