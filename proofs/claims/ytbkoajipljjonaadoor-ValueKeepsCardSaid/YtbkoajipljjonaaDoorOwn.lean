/- Rows of the call's own, by what their elements read as: made, appended to, settled. -/
import Derived.Test.YtbkoajipljjonaaDoorAppend
namespace Go.Proofs.YtbkoajipljjonaaDoor
open Go.RowKit

theorem okAt_one {v : Value} (h : okAt v) : v.oneCell' = true := by
  unfold okAt at h
  split at h <;> first | rfl | contradiction
mutual
theorem Rd_one {C : Cm} : ∀ (x : GV) (cs : List Value), Rd C x cs → ∀ u ∈ cs, u.oneCell' = true
  | .at v, cs, hr, u, hu => by
    simp only [Rd] at hr
    obtain ⟨rfl, ho⟩ := hr
    rw [List.mem_singleton] at hu
    subst hu
    exact okAt_one ho
  | .st fs, cs, hr, u, hu => by
    simp only [Rd] at hr
    exact RdS_one fs cs hr u hu
  | .sl sz es, cs, hr, u, hu => by
    simp only [Rd] at hr
    obtain ⟨A, c, rfl, _⟩ := hr
    rw [List.mem_singleton] at hu
    subst hu
    rfl
theorem RdS_one {C : Cm} : ∀ (fs : List GV) (cs : List Value), RdS C fs cs → ∀ u ∈ cs, u.oneCell' = true
  | [], cs, hr, u, hu => by
    simp only [RdS] at hr
    subst hr
    cases hu
  | f :: fs, cs, hr, u, hu => by
    simp only [RdS] at hr
    obtain ⟨c0, c1, rfl, h0, h1⟩ := hr
    rcases List.mem_append.1 hu with hu | hu
    · exact Rd_one f c0 h0 u hu
    · exact RdS_one fs c1 h1 u hu
end

theorem Rd_at {C : Cm} {v : Value} (h : okAt v) : Rd C (.at v) [v] := by simp [Rd, h]
/-- Elements, each by its cells. -/
def Rds (C : Cm) (sz : Nat) : List GV → List (List Value) → Prop
  | [], [] => True
  | e :: es, c :: cs => (c.length = sz ∧ Rd C e c) ∧ Rds C sz es cs
  | _, _ => False

theorem Rds.len {C : Cm} {sz : Nat} : ∀ {es : List GV} {css : List (List Value)}, Rds C sz es css → css.length = es.length
  | [], [], _ => rfl
  | _ :: _, _ :: _, h => by simp only [List.length_cons, Rds.len h.2]
  | [], _ :: _, h => h.elim
  | _ :: _, [], h => h.elim
theorem Rds.flat {C : Cm} {sz : Nat} : ∀ {es : List GV} {css : List (List Value)}, Rds C sz es css → css.flatten.length = es.length * sz
  | [], [], _ => by simp
  | _ :: _, _ :: _, h => by
    rw [List.flatten_cons, List.length_append, h.1.1, Rds.flat h.2, List.length_cons, Nat.add_mul]
    omega
  | [], _ :: _, h => h.elim
  | _ :: _, [], h => h.elim
theorem Rds.one {C : Cm} {sz : Nat} : ∀ {es : List GV} {css : List (List Value)}, Rds C sz es css → ∀ u ∈ css.flatten, u.oneCell' = true
  | [], [], _, _, hu => by simp at hu
  | e :: _, c :: _, h, u, hu => by
    rw [List.flatten_cons, List.mem_append] at hu
    rcases hu with hu | hu
    · exact Rd_one e c h.1.2 u hu
    · exact Rds.one h.2 u hu
  | [], _ :: _, h, _, _ => h.elim
  | _ :: _, [], h, _, _ => h.elim
theorem Rds.append {C : Cm} {sz : Nat} : ∀ {es es' : List GV} {css css' : List (List Value)}, Rds C sz es css → Rds C sz es' css' → Rds C sz (es ++ es') (css ++ css')
  | [], _, [], _, _, h' => h'
  | _ :: _, _, _ :: _, _, h, h' => ⟨h.1, Rds.append h.2 h'⟩
  | [], _, _ :: _, _, h, _ => h.elim
  | _ :: _, _, [], _, h, _ => h.elim
theorem Rds.mono {C C' : Cm} (hc : ∀ b o v, C b o = some v → C' b o = some v) {sz : Nat} : ∀ {es : List GV} {css : List (List Value)}, Rds C sz es css → Rds C' sz es css
  | [], [], h => h
  | _ :: _, _ :: _, h => ⟨⟨h.1.1, Rd_mono hc _ _ h.1.2⟩, Rds.mono hc h.2⟩
  | [], _ :: _, h => h.elim
  | _ :: _, [], h => h.elim
theorem Rds.single {C : Cm} {sz : Nat} {e : GV} {c : List Value} (hl : c.length = sz) (h : Rd C e c) : Rds C sz [e] [c] := ⟨⟨hl, h⟩, trivial⟩
theorem RdE.rds {C : Cm} {b sz : Nat} : ∀ {es : List GV} {o : Nat}, RdE C b o sz es → ∃ css, Rds C sz es css ∧ ∀ j u, css.flatten[j]? = some u → C b (o + j) = some u
  | [], o, _ => ⟨[], trivial, fun j u h => by simp at h⟩
  | e :: es, o, h => by
    simp only [RdE] at h
    obtain ⟨⟨ecs, hl, hd, hc⟩, h2⟩ := h
    obtain ⟨css, h3, h4⟩ := RdE.rds h2
    refine ⟨ecs :: css, ⟨⟨hl, hd⟩, h3⟩, fun j u hj => ?_⟩
    rw [List.flatten_cons, List.getElem?_append] at hj
    split at hj
    · exact hc j u hj
    · have := h4 (j - ecs.length) u hj
      rwa [show o + j = o + sz + (j - ecs.length) by omega]
theorem Rds.rdE {C : Cm} {b sz : Nat} : ∀ {es : List GV} {css : List (List Value)} {o : Nat}, Rds C sz es css → (∀ j u, css.flatten[j]? = some u → C b (o + j) = some u) → RdE C b o sz es
  | [], [], _, _, _ => by simp [RdE]
  | e :: es, c :: css, o, h, hc => by
    simp only [RdE]
    refine ⟨⟨c, h.1.1, h.1.2, fun j v hj => hc j v ?_⟩, Rds.rdE h.2 fun j u hj => ?_⟩
    · rw [List.flatten_cons, List.getElem?_append_left (List.getElem?_eq_some_iff.1 hj).1]
      exact hj
    · have := hc (sz + j) u (by
        have hl := h.1.1
        rw [List.flatten_cons, List.getElem?_append_right (by omega)]
        rw [show sz + j - c.length = j by omega]
        exact hj)
      rwa [Nat.add_assoc]
  | [], _ :: _, _, h, _ => h.elim
  | _ :: _, [], _, h, _ => h.elim

/-- A slice's address is none, or leads to a block: what slices of settled memory and of the call's own are. -/
def Plain (A : Option Addr) (c : Nat) : Prop := (A = none ∧ c = 0) ∨ ∃ b o, A = some ⟨b, o, none⟩

/-- The cells that a settled slice's elements are. -/
theorem RdSl.news {C : Cm} {w : World} {A : Option Addr} {c sz : Nat} {es : List GV} (hC : C.le w) (h : RdSl C A c sz es) :
    ∃ css, Rds C sz es css ∧ ∀ ad, A = some ad → ∀ (j : Nat) u, css.flatten[j]? = some u → w.cell? (ad.add j) = some u := by
  obtain ⟨_, _, h⟩ := h
  rcases h with rfl | ⟨b, o, rfl, h⟩
  · exact ⟨[], trivial, fun ad _ j u hj => by simp at hj⟩
  · obtain ⟨css, h1, h2⟩ := h.rds
    refine ⟨css, h1, fun ad e j u hj => ?_⟩
    injection e with e
    subst e
    have hadd : (⟨b, o, none⟩ : Addr).add j = ⟨b, o + j, none⟩ := by unfold Addr.add; split <;> simp_all
    rw [hadd]
    exact hC _ _ _ (h2 j u hj)

theorem Plain.none {A : Option Addr} {c : Nat} (h : Plain A c) (e : A = .none) : c = 0 := by
  rcases h with h | ⟨b, o, h⟩
  · exact h.2
  · rw [h] at e; cases e
theorem RdSl.take' {C : Cm} {A : Option Addr} {c sz : Nat} {es : List GV} (h : RdSl C A c sz es) (m : Nat) : RdSl C A c sz (es.take m) := by
  obtain ⟨h1, h2, h3⟩ := h
  refine ⟨by rw [List.length_take]; omega, h2, ?_⟩
  rcases h3 with h3 | ⟨b, o, e, h3⟩
  · exact .inl (by rw [h3]; simp)
  · exact .inr ⟨b, o, e, RdE_take h3 m⟩
/-- 's[lo:]' of a settled slice. -/
theorem RdSl.drop' {C : Cm} {A : Option Addr} {c sz : Nat} {es : List GV} (h : RdSl C A c sz es) (hp : Plain A c) (lo : Nat) (hlo : lo ≤ c) :
    RdSl C (if c = lo then A else A.map (·.add (lo * sz))) (c - lo) sz (es.drop lo) ∧ Plain (if c = lo then A else A.map (·.add (lo * sz))) (c - lo) := by
  obtain ⟨h1, h2, h3⟩ := h
  have hadd : ∀ b o j : Nat, (⟨b, o, .none⟩ : Addr).add j = ⟨b, o + j, .none⟩ := fun b o j => by unfold Addr.add; split <;> simp_all
  refine ⟨⟨by rw [List.length_drop]; omega, by omega, ?_⟩, ?_⟩
  · by_cases e : c = lo
    · exact .inl (List.drop_eq_nil_iff.2 (by omega))
    · rw [if_neg e]
      rcases h3 with h3 | ⟨b, o, rfl, h3⟩
      · exact .inl (by rw [h3]; simp)
      · exact .inr ⟨b, o + lo * sz, by simp [hadd], RdE_drop h3 lo⟩
  · rcases hp with ⟨rfl, rfl⟩ | ⟨b, o, rfl⟩
    · exact .inl ⟨by simp, by omega⟩
    · refine .inr ?_
      by_cases e : c = lo
      · exact ⟨b, o, by rw [if_pos e]⟩
      · exact ⟨b, o + lo * sz, by rw [if_neg e]; simp [hadd]⟩

/-- A row of the call's own, made at or behind block base, whose elements read so. -/
def OwnG (C : Cm) (w : World) (base : Nat) (e : TypeId) (sz : Nat) (v : Value) (es : List GV) : Prop :=
  ∃ css, Rds C sz es css ∧ w.ownsRow base e sz v es.length css.flatten

theorem OwnG.nil (C : Cm) (w : World) (base : Nat) (e : TypeId) (sz : Nat) : OwnG C w base e sz (.slice none 0 0) [] := ⟨[], trivial, by simpa using World.ownsRow_nil w base e sz⟩
theorem OwnG.made (C : Cm) (w : World) (e : TypeId) (sz : Nat) {base : Nat} (hb : base ≤ w.heap.size) : OwnG C (w.alloc (.cells #[] e)) base e sz (.slice (some ⟨w.heap.size, 0, none⟩) 0 0) [] := ⟨[], trivial, by
  have := World.ownsRow_made (e := e) (size := sz) w #[] 0 hb (Nat.zero_le _) (by simp)
  simpa using this⟩
theorem OwnG.shape {C : Cm} {w : World} {base : Nat} {e : TypeId} {sz : Nat} {v : Value} {es : List GV} (h : OwnG C w base e sz v es) : ∃ A c, v = .slice A es.length c ∧ es.length ≤ c ∧ c ≤ maxLen ∧ ((A = none ∧ c = 0) ∨ ∃ b, A = some ⟨b, 0, none⟩) := by
  obtain ⟨css, _, h⟩ := h
  rcases h.2 with ⟨hv, hn⟩ | ⟨g, cap, cur, hv, hb, hg, hcap, hmax, _⟩
  · exact ⟨none, 0, by rw [hv, hn], by omega, Nat.zero_le _, .inl ⟨rfl, rfl⟩⟩
  · exact ⟨_, cap, hv, hcap, hmax, .inr ⟨g, rfl⟩⟩
theorem OwnG.block {C : Cm} {w : World} {base : Nat} {e : TypeId} {sz : Nat} {v : Value} {es : List GV} (h : OwnG C w base e sz v es) : ∀ k, v.ownBlock = some k → base ≤ k ∧ k < w.heap.size := by
  obtain ⟨css, _, h⟩ := h
  exact h.lt
theorem OwnG.mono {C C' : Cm} (hc : ∀ b o v, C b o = some v → C' b o = some v) {w : World} {base : Nat} {e : TypeId} {sz : Nat} {v : Value} {es : List GV} (h : OwnG C w base e sz v es) : OwnG C' w base e sz v es := by
  obtain ⟨css, h1, h2⟩ := h
  exact ⟨css, h1.mono hc, h2⟩
theorem OwnG.below {C : Cm} {w w' : World} {base : Nat} {e : TypeId} {sz : Nat} {v : Value} {es : List GV} (h : OwnG C w base e sz v es) (hb : Below w.heap.size w w') : OwnG C w' base e sz v es := by
  obtain ⟨css, h1, h2⟩ := h
  exact ⟨css, h1, h2.kept (row := none) ⟨hb.os, hb.tape, hb.output, hb.size, fun k hk _ => hb.block k hk⟩ (by cases v.ownBlock <;> simp)⟩
theorem OwnG.alloc {C : Cm} {w : World} {base : Nat} {e : TypeId} {sz : Nat} {v : Value} {es : List GV} (h : OwnG C w base e sz v es) (o : Obj) : OwnG C (w.alloc o) base e sz v es := h.below ((Below.refl _ _).alloc (Nat.le_refl _) o)
theorem OwnG.drew {C : Cm} {w : World} {base : Nat} {e : TypeId} {sz : Nat} {v : Value} {es : List GV} (h : OwnG C w base e sz v es) : OwnG C w.drew base e sz v es := h
theorem OwnG.kept {C : Cm} {w w' : World} {base : Nat} {e : TypeId} {sz : Nat} {v : Value} {es : List GV} {row : Option Nat} (h : OwnG C w base e sz v es) (hg : w.grownBy w' row) (hne : v.ownBlock = none ∨ v.ownBlock ≠ row) : OwnG C w' base e sz v es := by
  obtain ⟨css, h1, h2⟩ := h
  exact ⟨css, h1, h2.kept hg hne⟩
/-- The row is settled: it stands for good. -/
theorem OwnG.settle {C : Cm} {w : World} {base : Nat} {e : TypeId} {sz : Nat} {A : Option Addr} {n c : Nat} {es : List GV} (h : OwnG C w base e sz (.slice A n c) es) (hC : C.le w) (hfr : ∀ g, base ≤ g → ∀ o, C g o = none) :
    ∃ C', (∀ B, B ≤ base → Ext B C C') ∧ C'.le w ∧ RdSl C' A c sz es ∧ Plain A c := by
  obtain ⟨css, h1, h2⟩ := h
  rcases h2.2 with ⟨hv, hn⟩ | ⟨g, cap, cur, hv, hb, hg, hcap, hmax, hcur, htake⟩
  · injection hv with e1 e2 e3
    subst e1 e3
    exact ⟨C, fun B _ => Ext.refl _ _, hC, ⟨by omega, by simp [maxLen], .inl (List.eq_nil_of_length_eq_zero hn)⟩, .inl ⟨rfl, rfl⟩⟩
  · injection hv with e1 e2 e3
    subst e1 e3
    have hno := hfr g hb
    refine ⟨C.put g css.flatten, fun B hB => Ext.put (Nat.le_trans hB hb) hno _, ?_, ⟨by omega, hmax, .inr ⟨g, 0, rfl, ?_⟩⟩, .inr ⟨g, 0, rfl⟩⟩
    · refine Cm.put_le hC (Below.refl _ _) (fun o v ho => ?_)
      rw [cell_of_row _ _ o _ _ _ hg]
      rw [← htake, List.getElem?_take] at ho
      split at ho
      · simpa using ho
      · cases ho
    · refine (h1.mono (Ext.put (B := 0) (Nat.zero_le _) hno _).more).rdE fun j u hj => ?_
      rw [Nat.zero_add, Cm.put_at]
      exact hj
theorem Cm.le_grown {C : Cm} {w w' : World} {row : Option Nat} (h : C.le w) (hg : w.grownBy w' row) (hfr : ∀ g, row = some g → ∀ o, C g o = none) : C.le w' := fun b o v e =>
  hg.cell (a := ⟨b, o, none⟩) (h b o v e) (fun he => by have := hfr b he.symm o; rw [e] at this; cases this)

/-- Behind an append: the row, what became of the rest, and where the new row lies. -/
structure Appd (C : Cm) (w w' : World) (base : Nat) (e : TypeId) (sz : Nat) (v v' : Value) (es : List GV) : Prop where
  own : OwnG C w' base e sz v' es
  grown : w.grownBy w' v.ownBlock
  fresh : ∀ k, v'.ownBlock = some k → v.ownBlock = some k ∨ w.heap.size ≤ k

theorem Appd.below {C : Cm} {w w' : World} {base : Nat} {e : TypeId} {sz : Nat} {v v' : Value} {es es0 : List GV} (h : Appd C w w' base e sz v v' es) (h0 : OwnG C w base e sz v es0) {B : Nat} {wc : World} (hb : Below B wc w) (hB : B ≤ w.heap.size) (hbase : B ≤ base) : Below B wc w' :=
  hb.grown h.grown hB (fun k hk => Nat.le_trans hbase (h0.block k hk).1)
theorem run_append_sl {P : Program} {w : World} {t : TypeId} (ty : TypeId) {base : Nat} {e : TypeId} {sz bytes : Nat} (hinfo : (P.info? e).map (fun i => (i.zero.map Value.cells |>.map Array.size, i.size, i.bytes)) = some (some sz, sz, bytes)) (ht : P.underlying t = some (.slice e)) (hsz : 0 < sz)
    {C : Cm} {v : Value} {es es' : List GV} {A : Option Addr} {m c : Nat} (hm : es'.length = m) (hC : C.le w) (hown : OwnG C w base e sz v es) (hr : RdSl C A c sz es') (hp : A = none → c = 0)
    (hlim : (es.length + m) * bytes ≤ 140737488355328) (hb0 : 0 < bytes) (hbase : base ≤ w.heap.size) :
    ∃ v' w', (Builtin.append_ #[t, t] ty #[v, .slice A m c]).run P w = .ok v' w' ∧ Appd C w w' base e sz v v' (es ++ es') := by
  obtain ⟨i, hi, hz⟩ := Option.map_eq_some_iff.1 hinfo
  simp only [Prod.mk.injEq, Option.map_eq_some_iff] at hz
  obtain ⟨⟨_, ⟨z, hz0, rfl⟩, hzs⟩, hz1, hz2⟩ := hz
  obtain ⟨css, h1, h2⟩ := hown
  obtain ⟨css', h3, h4⟩ := hr.news hC
  have hlen : es.length + m ≤ 140737488355328 := Nat.le_trans (Nat.le_mul_of_pos_right _ hb0) hlim
  obtain ⟨v', w', q0, q1, q2, q3⟩ := run_append_any (P := P) w t ty e i z sz bytes base ht hi hz0 hz1 hz2 hzs hsz v es.length css.flatten h2 A m c css'.flatten (by rw [h3.flat, hm]) (fun e => by have := hr.1; have := hp e; omega) h4 h3.one (by unfold maxLen; omega) hlim hbase
  refine ⟨v', w', q0, ⟨⟨css ++ css', h1.append h3, ?_⟩, q2, q3⟩⟩
  rw [List.flatten_append, List.length_append, hm]
  exact q1
theorem run_append_one {P : Program} {w : World} {t : TypeId} (ty : TypeId) {base : Nat} {e : TypeId} {sz bytes : Nat} (hinfo : (P.info? e).map (fun i => (i.zero.map Value.cells |>.map Array.size, i.size, i.bytes)) = some (some sz, sz, bytes)) (ht : P.underlying t = some (.slice e)) (hsz : 0 < sz)
    {C : Cm} {v : Value} {es : List GV} {g : GV} {b : Nat} {cs : Array Value} {te : TypeId} {fr : Nat × Nat} (hblk : w.heap[b]? = some (.cells cs te fr)) (hcs : cs.size = sz) (hown : OwnG C w base e sz v es) (hr : Rd C g cs.toList)
    (hlim : (es.length + 1) * bytes ≤ 140737488355328) (hb0 : 0 < bytes) (hbase : base ≤ w.heap.size) :
    ∃ v' w', (Builtin.append_ #[t, t] ty #[v, .slice (some ⟨b, 0, none⟩) 1 1]).run P w = .ok v' w' ∧ Appd C w w' base e sz v v' (es ++ [g]) := by
  obtain ⟨i, hi, hz⟩ := Option.map_eq_some_iff.1 hinfo
  simp only [Prod.mk.injEq, Option.map_eq_some_iff] at hz
  obtain ⟨⟨_, ⟨z, hz0, rfl⟩, hzs⟩, hz1, hz2⟩ := hz
  obtain ⟨css, h1, h2⟩ := hown
  have h3 : Rds C sz [g] [cs.toList] := Rds.single (by simpa using hcs) hr
  have hlen : es.length + 1 ≤ 140737488355328 := Nat.le_trans (Nat.le_mul_of_pos_right _ hb0) hlim
  obtain ⟨v', w', q0, q1, q2, q3⟩ := run_append_any (P := P) w t ty e i z sz bytes base ht hi hz0 hz1 hz2 hzs hsz v es.length css.flatten h2 (some ⟨b, 0, none⟩) 1 1 cs.toList (by simpa using hcs) (fun e => by cases e) (fun ad e => by injection e with e; subst e; exact World.news_of_block hblk) (Rd_one g _ hr) (by unfold maxLen; omega) hlim hbase
  refine ⟨v', w', q0, ⟨⟨css ++ [cs.toList], h1.append h3, ?_⟩, q2, q3⟩⟩
  rw [List.flatten_append, List.length_append]
  simpa using q1

section
variable {P : Program} {w : World} {ops : Array Oper} {rest : List Oper} {o : Oper} {a : Act} {Q : Exit → Act → World → Prop} {K : Act → World → Prop} {E : Prop} {base : Nat} {e : TypeId} {sz bytes : Nat} {C : Cm} {v : Value} {es es' : List GV} {A : Option Addr} {m c : Nat} {g : GV} {b : Nat} {cs : Array Value} {te : TypeId} {fr : Nat × Nat}
/-- 'append(s, t...)', s a row of the call's own, t settled. -/
theorem wpList_append_sl (s x : Operand) (t : TypeId)
    (hinfo : (P.info? e).map (fun i => (i.zero.map Value.cells |>.map Array.size, i.size, i.bytes)) = some (some sz, sz, bytes)) (ht : P.underlying t = some (.slice e)) (hown : OwnG C w base e sz v es) (hr : RdSl C A c sz es') (hC : C.le w) (hp : A = none → c = 0)
    (hgd : o.guard = none) (ho : o.op = .call { callee := .builtin .append, args := #[s, x], argTypes := #[t, t] }) (hs : a.eval s = v) (hx : a.eval x = .slice A m c) (hsz : 0 < sz) (hm : es'.length = m)
    (hlim : (es.length + m) * bytes ≤ 140737488355328) (hb0 : 0 < bytes) (hbase : base ≤ w.heap.size)
    (h : ∀ v' w', Appd C w w' base e sz v v' (es ++ es') → wpList P ops Q rest (a.put o.dst v') w') : wpList P ops Q (o :: rest) a w := by
  obtain ⟨v', w', hr, hap⟩ := run_append_sl (P := P) o.type hinfo ht hsz hm hC hown hr hp hlim hb0 hbase
  exact wpList_of_append hgd ho hs hx hr (h v' w' hap)
/-- 'append(s, x)', s a row of the call's own, x by its cells in a block of its own. -/
theorem wpList_append_one (s x : Operand) (t : TypeId)
    (hinfo : (P.info? e).map (fun i => (i.zero.map Value.cells |>.map Array.size, i.size, i.bytes)) = some (some sz, sz, bytes)) (ht : P.underlying t = some (.slice e)) (hown : OwnG C w base e sz v es) (hblk : w.heap[b]? = some (.cells cs te fr)) (hr : Rd C g cs.toList)
    (hgd : o.guard = none) (ho : o.op = .call { callee := .builtin .append, args := #[s, x], argTypes := #[t, t] }) (hs : a.eval s = v) (hx : a.eval x = .slice (some ⟨b, 0, none⟩) 1 1) (hsz : 0 < sz) (hcs : cs.size = sz)
    (hlim : (es.length + 1) * bytes ≤ 140737488355328) (hb0 : 0 < bytes) (hbase : base ≤ w.heap.size)
    (h : ∀ v' w', Appd C w w' base e sz v v' (es ++ [g]) → wpList P ops Q rest (a.put o.dst v') w') : wpList P ops Q (o :: rest) a w := by
  obtain ⟨v', w', hr, hap⟩ := run_append_one (P := P) o.type hinfo ht hsz hblk hcs hown hr hlim hb0 hbase
  exact wpList_of_append hgd ho hs hx hr (h v' w' hap)
theorem step_append_sl (s x : Operand) (t : TypeId)
    (hinfo : (P.info? e).map (fun i => (i.zero.map Value.cells |>.map Array.size, i.size, i.bytes)) = some (some sz, sz, bytes)) (ht : P.underlying t = some (.slice e)) (hown : OwnG C w base e sz v es) (hr : RdSl C A c sz es') (hC : C.le w) (hp : A = none → c = 0)
    (hgd : o.guard = none) (ho : o.op = .call { callee := .builtin .append, args := #[s, x], argTypes := #[t, t] }) (hs : a.eval s = v) (hx : a.eval x = .slice A m c) (hsz : 0 < sz) (hm : es'.length = m)
    (hlim : (es.length + m) * bytes ≤ 140737488355328) (hb0 : 0 < bytes) (hbase : base ≤ w.heap.size)
    (h : ∀ v' w', Appd C w w' base e sz v v' (es ++ es') → K (a.put o.dst v') w') : if Region.wanted o (yielded ops a.tmps) = true then Oper.wp P o a w K Q else E := by
  obtain ⟨v', w', hr, hap⟩ := run_append_sl (P := P) o.type hinfo ht hsz hm hC hown hr hp hlim hb0 hbase
  exact step_of_append hgd ho hs hx hr (h v' w' hap)
theorem step_append_one (s x : Operand) (t : TypeId)
    (hinfo : (P.info? e).map (fun i => (i.zero.map Value.cells |>.map Array.size, i.size, i.bytes)) = some (some sz, sz, bytes)) (ht : P.underlying t = some (.slice e)) (hown : OwnG C w base e sz v es) (hblk : w.heap[b]? = some (.cells cs te fr)) (hr : Rd C g cs.toList)
    (hgd : o.guard = none) (ho : o.op = .call { callee := .builtin .append, args := #[s, x], argTypes := #[t, t] }) (hs : a.eval s = v) (hx : a.eval x = .slice (some ⟨b, 0, none⟩) 1 1) (hsz : 0 < sz) (hcs : cs.size = sz)
    (hlim : (es.length + 1) * bytes ≤ 140737488355328) (hb0 : 0 < bytes) (hbase : base ≤ w.heap.size)
    (h : ∀ v' w', Appd C w w' base e sz v v' (es ++ [g]) → K (a.put o.dst v') w') : if Region.wanted o (yielded ops a.tmps) = true then Oper.wp P o a w K Q else E := by
  obtain ⟨v', w', hr, hap⟩ := run_append_one (P := P) o.type hinfo ht hsz hblk hcs hown hr hlim hb0 hbase
  exact step_of_append hgd ho hs hx hr (h v' w' hap)
end
end Go.Proofs.YtbkoajipljjonaaDoor
