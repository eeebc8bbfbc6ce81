/- Pairs of keys and values, and how they lie in memory; a row of pairs is put in order. -/
import Derived.Test.YtbkoajipljjonaaDoorOrd
import Derived.Test.YtbkoajipljjonaaDoorProg
import Derived.Test.YtbkoajipljjonaaDoorSort
import Derived.Test.YtbkoajipljjonaaDoorQuote
import Derived.WalkLawsBesides
namespace Go.Proofs.YtbkoajipljjonaaDoor
open Go.RowKit Go.Shelf Go.Sort

def pairGv (p : ByteArray × V) : GV := .st [.at (.string p.1), p.2.gv]
def pairsGv (l : List (ByteArray × V)) : List GV := l.map pairGv
@[simp] theorem pairsGv_length (l : List (ByteArray × V)) : (pairsGv l).length = l.length := by simp [pairsGv]

/-- A pair as its cells stand. -/
structure PC where
  key : ByteArray
  v : V
  a3 : Option Addr
  c3 : Nat
  a4 : Option Addr
  c4 : Nat
instance : Inhabited PC := ⟨⟨⟨#[]⟩, default, none, 0, none, 0⟩⟩
def PC.pair (x : PC) : ByteArray × V := (x.key, x.v)
def PC.vcells (x : PC) : List Value := x.v.cells x.a3 x.c3 x.a4 x.c4
def PC.enc (x : PC) : List Value := .string x.key :: x.vcells
def PC.ok (C : Cm) (x : PC) : Prop := okAt (.string x.key) ∧ Rd C x.v.gv x.vcells
theorem PC.ok.ext {B : Nat} {C C' : Cm} {x : PC} (h : x.ok C) (he : Ext B C C') : x.ok C' := ⟨h.1, h.2.ext he⟩

theorem pairGv_open {C : Cm} {p : ByteArray × V} {cs : List Value} (h : Rd C (pairGv p) cs) : ∃ x : PC, x.pair = p ∧ cs = x.enc ∧ x.ok C := by
  simp only [pairGv, Rd, RdS] at h
  obtain ⟨_, _, rfl, ⟨rfl, h0⟩, c1, _, rfl, h1, rfl⟩ := h
  obtain ⟨A3, c3, A4, c4, rfl, _⟩ := V.open h1
  exact ⟨⟨p.1, p.2, A3, c3, A4, c4⟩, rfl, by simp [PC.enc, PC.vcells], h0, h1⟩
theorem PC.ok.rd {C : Cm} {x : PC} (h : x.ok C) : Rd C (pairGv x.pair) x.enc := by
  simp only [pairGv, Rd, RdS]
  exact ⟨[_], x.vcells, rfl, ⟨rfl, h.1⟩, x.vcells, [], by simp, h.2, rfl⟩

/-- The cells of a row of pairs. -/
theorem pairs_open {C : Cm} {w : World} {A : Option Addr} {c : Nat} {l : List (ByteArray × V)} (hC : C.le w) (h : RdSl C A c 6 (pairsGv l)) :
    ∃ d : List PC, d.map PC.pair = l ∧ (∀ x ∈ d, x.ok C) ∧ (l ≠ [] → ∃ b o, A = some ⟨b, o, none⟩ ∧ ∀ i (hi : i < d.length) j v, (d[i]).enc[j]? = some v → w.cell? ⟨b, o + i * 6 + j, none⟩ = some v) := by
  obtain ⟨_, _, h⟩ := h
  rcases h with h | ⟨b, o, rfl, h⟩
  · have hl : l = [] := by simpa [pairsGv] using h
    subst hl
    exact ⟨[], rfl, by simp, fun h => absurd rfl h⟩
  · have key : ∀ (l : List (ByteArray × V)) (o : Nat), RdE C b o 6 (pairsGv l) → ∃ d : List PC, d.map PC.pair = l ∧ (∀ x ∈ d, x.ok C) ∧ ∀ i (hi : i < d.length) j v, (d[i]).enc[j]? = some v → w.cell? ⟨b, o + i * 6 + j, none⟩ = some v := by
      intro l
      induction l with
      | nil => exact fun o _ => ⟨[], rfl, by simp, fun i hi => by simp at hi⟩
      | cons p l ih =>
        intro o h
        simp only [pairsGv, List.map_cons, RdE] at h
        obtain ⟨⟨ecs, _, hd, hc⟩, h⟩ := h
        obtain ⟨x, hx, rfl, hok⟩ := pairGv_open hd
        obtain ⟨d, rfl, hok2, hcell⟩ := ih (o + 6) h
        refine ⟨x :: d, by rw [List.map_cons, hx], ?_, ?_⟩
        · intro y hy
          rcases List.mem_cons.1 hy with rfl | hy
          · exact hok
          · exact hok2 y hy
        · intro i hi j v hj
          cases i with
          | zero =>
            simp only [List.getElem_cons_zero] at hj
            rw [Nat.zero_mul, Nat.add_zero]
            exact hC _ _ _ (hc j v hj)
          | succ i =>
            simp only [List.getElem_cons_succ] at hj
            have := hcell i (by simpa using hi) j v hj
            rwa [show o + (i + 1) * 6 + j = o + 6 + i * 6 + j by omega]
    obtain ⟨d, h1, h2, h3⟩ := key l o h
    exact ⟨d, h1, h2, fun _ => ⟨b, o, rfl, h3⟩⟩

/-- Three ways, by keys. -/
def pcCmp (x y : PC) : Int := cmpS x.key y.key
theorem pcLt (x y : PC) : ltOf pcCmp x y = ltB x.key y.key := cmpS_neg _ _
theorem pcSwo : SWO (ltOf pcCmp) where
  irrefl x := by rw [pcLt]; exact ltB_irrefl _
  trans x y z h k := by rw [pcLt] at *; exact ltB_trans h k
  ntrans x y z h k := by
    rw [pcLt] at *
    cases e : ltB x.key z.key with
    | false => rfl
    | true =>
      by_cases exy : x.key.toList = y.key.toList
      · rw [bytes_ext exy] at e; rw [e] at k; cases k
      · have h1 := ltB_total h exy
        have h2 := ltB_trans h1 e
        rw [h2] at k
        cases k

theorem cmpIsNaN_calls (a : ByteArray) (w : World) : Calls Tryd.prog 48 #[.string a] w fun e w' => e = .returned (.bool false) ∧ w = w' := by
  go_enter Tryd.func48, Tryd.ntmps48
  go_wp2
  go_ret
  exact ⟨by simp, rfl⟩

theorem cmpString_calls (a b : ByteArray) (w : World) : Calls Tryd.prog 32 #[.string a, .string b] w fun e w' => e = .returned (.int .i64 (cmpS a b)) ∧ w = w' := by
  cases h1 : Op.bytesLess a.toList b.toList
  · cases h2 : a.toList == b.toList
    · have H : Hid (cmpS a b = 1) := Lib.hid (by simp [cmpS, ltB, h1, h2])
      go_enter Tryd.func32, Tryd.ntmps32
      go_wp2_with (go_at_call 48; refine (cmpIsNaN_calls _ _).mono ?_; rintro e w' ⟨rfl, rfl⟩)
      go_ret
      exact ⟨ret_int H.out.symm, rfl⟩
    · have H : Hid (cmpS a b = 0) := Lib.hid (by simp [cmpS, ltB, h1, h2])
      go_enter Tryd.func32, Tryd.ntmps32
      go_wp2_with (go_at_call 48; refine (cmpIsNaN_calls _ _).mono ?_; rintro e w' ⟨rfl, rfl⟩)
      go_ret
      exact ⟨ret_int H.out.symm, rfl⟩
  · have H : Hid (cmpS a b = -1) := Lib.hid (by simp [cmpS, ltB, h1])
    go_enter Tryd.func32, Tryd.ntmps32
    go_wp2_with (go_at_call 48; refine (cmpIsNaN_calls _ _).mono ?_; rintro e w' ⟨rfl, rfl⟩)
    go_ret
    exact ⟨ret_int H.out.symm, rfl⟩

set_option maxHeartbeats 1000000 in
set_option maxRecDepth 100000 in
theorem mapCmp_calls (x y : PC) (W : World) : Calls Tryd.prog 31 #[.agg x.enc.toArray, .agg y.enc.toArray] W fun e w' => e = .returned (.int .i64 (pcCmp x y)) ∧ ∃ q os', w' = grow (W.drewN q) os' := by
  unfold PC.enc PC.vcells V.cells pcCmp
  go_enter Tryd.func31, Tryd.ntmps31
  go_wp2_with (go_at_call 32; refine (cmpString_calls _ _ _).mono ?_; rintro e w' ⟨rfl, rfl⟩)
  go_ret
  exact ⟨rfl, 0, _, by rw [alloc_eq_grow, alloc_eq_grow, grow_grow]; rfl⟩

theorem PC.enc_length (x : PC) : x.enc.length = 6 := rfl
theorem PC.enc_one (x : PC) : ∀ v ∈ x.enc, v.oneCell' = true := by
  intro v hv
  simp only [PC.enc, PC.vcells, V.cells, List.mem_cons, List.not_mem_nil, or_false] at hv
  rcases hv with rfl | rfl | rfl | rfl | rfl | rfl <;> rfl

theorem putRowK_block (w : World) (blk off : Nat) (d : Array PC) (k : Nat) (h : k ≠ blk) : (putRowK PC.enc 6 w blk off d).heap[k]? = w.heap[k]? := by
  unfold putRowK putRow mapBlock
  simp only [Array.getElem?_modify]
  rw [if_neg (Ne.symm h)]

theorem sortPairs_calls (blk cap : Nat) (d : Array PC) (w : World) (hH : HoldsK PC.enc 6 w blk 0 d) (hblk : blk < w.heap.size) (hsz : d.size < 4611686018427387904) :
    Calls Tryd.prog 30 #[.slice (some ⟨blk, 0, none⟩) d.size cap, .func (.func 31) #[] #[]] w fun e w' =>
      e = .returned (.tuple #[]) ∧ ∃ d' : Array PC, d'.size = d.size ∧ d'.toList.Perm d.toList ∧ (∀ i j, i < j → j < d'.size → ltB (d'[j]!).key (d'[i]!).key = false) ∧ HoldsK PC.enc 6 w' blk 0 d' ∧ w.grownBy w' (some blk) := by
  have eg : ∀ args w, (callFunc 31 args).run Tryd.prog w = .ok (.enter 31 args) w := enters_of Tryd.func31 (by kernel_rfl) rfl
  refine (AnyQ.slices_SortFunc Tryd.sortPair 6 Tryd.isAgg38 Tryd.sizeOf38 PC.enc PC.enc_length PC.enc_one pcCmp pcSwo 31 #[] blk 0 cap d w eg (fun _ _ _ _ x y => mapCmp_calls x y _) hH hblk hsz).mono ?_
  rintro e w' ⟨rfl, d', n, os, ⟨hs, _, hp⟩, hso, rfl⟩
  refine ⟨rfl, d', hs, ?_, ?_, ?_, ?_⟩
  · rw [← hs, Array.extract_size] at hp
    rw [hs, Array.extract_size] at hp
    exact hp
  · intro i j hij hj
    rw [← pcLt]
    exact hso i j (Nat.zero_le _) hij (by omega)
  · exact holdsK_sortWorldK_c PC.enc 6 w blk 0 d d' n os hH hblk hs
  · refine ⟨rfl, rfl, rfl, ?_, fun k hk hne => ?_⟩
    · unfold sortWorldK
      rw [size_grow]
      unfold putRowK putRow mapBlock
      simp only [Array.size_modify]
      exact Nat.le_add_right _ _
    · have hk' : k < (putRowK PC.enc 6 (Sort.ahead w n) blk 0 d').heap.size := by
        unfold putRowK putRow mapBlock
        simp only [Array.size_modify]
        exact hk
      show ((putRowK PC.enc 6 (Sort.ahead w n) blk 0 d').heap ++ os)[k]? = w.heap[k]?
      rw [Array.getElem?_append, if_pos hk']
      exact putRowK_block (Sort.ahead w n) blk 0 d' k (fun e => hne (by rw [e]))
end Go.Proofs.YtbkoajipljjonaaDoor
