/- Pairs put in, one by one, each at its place: the plain law of the reference's Map. -/
import Derived.Test.YtbkoajipljjonaaDoorSame
import Derived.Test.YtbkoajipljjonaaDoorOwn
namespace Go.Proofs.YtbkoajipljjonaaDoor

def insP (ps : List (ByteArray × V)) (p : ByteArray × V) : List (ByteArray × V) := ps.takeWhile (fun q => ltB q.1 p.1) ++ p :: ps.dropWhile (fun q => ltB q.1 p.1)
def insAll (l : List (ByteArray × V)) : List (ByteArray × V) := l.foldl insP []
theorem insP_perm (ps : List (ByteArray × V)) (p : ByteArray × V) : (insP ps p).Perm (p :: ps) := by
  unfold insP
  have h : ps.takeWhile (fun q => ltB q.1 p.1) ++ ps.dropWhile (fun q => ltB q.1 p.1) = ps := List.takeWhile_append_dropWhile
  exact List.perm_middle.trans (by rw [h])
theorem insAll_snoc (l : List (ByteArray × V)) (p : ByteArray × V) : insAll (l ++ [p]) = insP (insAll l) p := by simp [insAll]
theorem insAll_perm' (l : List (ByteArray × V)) : ∀ acc : List (ByteArray × V), (l.foldl insP acc).Perm (acc ++ l) := by
  induction l with
  | nil => intro acc; simp
  | cons p l ih =>
    intro acc
    refine (ih (insP acc p)).trans (((insP_perm acc p).append_right l).trans ?_)
    simp
    exact List.perm_middle.symm
theorem insAll_perm (l : List (ByteArray × V)) : (insAll l).Perm l := insAll_perm' l []
theorem insP_sorted {ps : List (ByteArray × V)} {p : ByteArray × V} (h : ps.Pairwise (fun a b => ltB a.1 b.1 = true)) (hn : ∀ q ∈ ps, q.1 ≠ p.1) : (insP ps p).Pairwise (fun a b => ltB a.1 b.1 = true) := by
  induction ps with
  | nil => simp [insP]
  | cons q ps ih =>
    rw [List.pairwise_cons] at h
    unfold insP
    by_cases hq : ltB q.1 p.1 = true
    · simp only [List.takeWhile_cons, List.dropWhile_cons, hq, if_true, List.cons_append]
      rw [List.pairwise_cons]
      refine ⟨fun b hb => ?_, ih h.2 (fun x hx => hn x (.tail _ hx))⟩
      have : b ∈ insP ps p := hb
      rcases List.mem_cons.1 ((insP_perm ps p).mem_iff.1 this) with rfl | hb
      · exact hq
      · exact h.1 b hb
    · have hq' : ltB q.1 p.1 = false := by simpa using hq
      simp only [List.takeWhile_cons, List.dropWhile_cons, hq', if_false, List.nil_append, Bool.false_eq_true]
      rw [List.pairwise_cons, List.pairwise_cons]
      have hpq : ltB p.1 q.1 = true := ltB_total hq' (fun e => hn q (.head _) (bytes_ext e))
      refine ⟨fun b hb => ?_, h.1, h.2⟩
      rcases List.mem_cons.1 hb with rfl | hb
      · exact hpq
      · exact ltB_trans hpq (h.1 b hb)
theorem insAll_sorted {l : List (ByteArray × V)} (hn : (l.map Prod.fst).Nodup) : (insAll l).Pairwise (fun a b => ltB a.1 b.1 = true) := by
  have key : ∀ (l acc : List (ByteArray × V)), acc.Pairwise (fun a b => ltB a.1 b.1 = true) → ((acc ++ l).map Prod.fst).Nodup → (l.foldl insP acc).Pairwise (fun a b => ltB a.1 b.1 = true) := by
    intro l
    induction l with
    | nil => intro acc h _; exact h
    | cons p l ih =>
      intro acc h hnd
      refine ih (insP acc p) (insP_sorted h fun q hq e => ?_) ?_
      · rw [List.map_append, List.map_cons, List.nodup_append] at hnd
        exact hnd.2.2 q.1 (List.mem_map_of_mem hq) p.1 (by simp) e
      · have hp : ((insP acc p ++ l).map Prod.fst).Perm ((acc ++ p :: l).map Prod.fst) := (((insP_perm acc p).append_right l).trans (by simpa using List.perm_middle.symm)).map _
        exact hp.nodup_iff.2 hnd
  exact key l [] List.Pairwise.nil (by simpa using hn)
theorem sorted_unique : ∀ {l m : List (ByteArray × V)}, l.Perm m → l.Pairwise (fun a b => ltB a.1 b.1 = true) → m.Pairwise (fun a b => ltB a.1 b.1 = true) → l = m
  | [], m, h, _, _ => (List.nil_perm.1 h).symm
  | x :: l, [], h, _, _ => absurd h.length_eq (by simp)
  | x :: l, y :: m, h, hl, hm => by
    rw [List.pairwise_cons] at hl hm
    have hxy : x = y := by
      rcases List.mem_cons.1 (h.mem_iff.1 (List.mem_cons_self (a := x) (l := l))) with e | hx
      · exact e
      · rcases List.mem_cons.1 (h.mem_iff.2 (List.mem_cons_self (a := y) (l := m))) with e | hy
        · exact e.symm
        · have h1 := hm.1 x hx
          have h2 := hl.1 y hy
          have := ltB_asymm h1
          rw [h2] at this
          cases this
    subst hxy
    rw [sorted_unique (List.perm_cons x |>.1 h) hl.2 hm.2]
end Go.Proofs.YtbkoajipljjonaaDoor
