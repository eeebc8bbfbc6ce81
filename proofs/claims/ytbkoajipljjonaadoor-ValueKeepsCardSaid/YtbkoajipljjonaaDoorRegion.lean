/- A region that draws its order: what holds until a given store is carried out may be used ahead of that store. -/
import Derived.Test.YtbkoajipljjonaaDoorClone
import Derived.Deep.RegionHeld3
namespace Go.Proofs.YtbkoajipljjonaaDoor
section
variable {P : Program} {ops : Array Oper} {Q : Exit → Act → World → Prop} {md : Region.Mode} {S : World → Prop} {s : Nat}

/-- Whatever order is picked: S holds behind each operation, as long as operation s has not come up. -/
def AnyTill (P : Program) (md : Region.Mode) (ops : Array Oper) (Q : Exit → Act → World → Prop) (S : World → Prop) (s : Nat) : Nat → Array Bool → Act → World → Prop
  | 0, listed, a, w => Region.ready md ops listed = [] ∧ Q .normal a w
  | fuel + 1, listed, a, w => (Region.ready md ops listed = [] → Q .normal a w) ∧
    ∀ i ∈ Region.ready md ops listed, wpOp P ops Q i (fun a' w' => ((listed.setIfInBounds i true).getD s true = false → S w') ∧ AnyTill P md ops Q S s fuel (listed.setIfInBounds i true) a' w') a w

theorem AnyTill.any : ∀ (fuel : Nat) (listed : Array Bool) (a : Act) (w : World), AnyTill P md ops Q S s fuel listed a w → wpAny P md ops Q fuel listed a w
  | 0, _, _, _, h => h
  | fuel + 1, _, _, _, h => ⟨h.1, fun i hi => wpOp_mono (fun a' w' h' => AnyTill.any fuel _ a' w' h'.2) (h.2 i hi)⟩

/-- What has come up had all come up that it waited for. -/
def UpTo (md : Region.Mode) (ops : Array Oper) (listed : Array Bool) : Prop := ∀ (j : Nat) (o : Oper), ops[j]? = some o → listed.getD j false = true → ∀ e ∈ o.after, Region.binds md e = true → listed.getD e.on false = true
theorem UpTo.set {listed : Array Bool} (h : UpTo md ops listed) {j : Nat} (hj : j ∈ Region.ready md ops listed) : UpTo md ops (listed.setIfInBounds j true) := by
  intro k o ho hk e he hb
  refine getD_set_true ?_
  by_cases hjk : j = k
  · subst hjk
    obtain ⟨_, o', ho', hall⟩ := mem_ready.1 hj
    rw [ho] at ho'
    injection ho' with ho'
    subst ho'
    exact hall e he hb
  · rw [getD_set_ne false hjk] at hk
    exact h k o ho hk e he hb

theorem AnyTill.first {i : Nat} {oi : Oper} {v : Value} (hi : ops[i]? = some oi) (hsel : ∀ (j : Nat) (o : Oper) cs b, ops[j]? = some o → o.op ≠ .select cs b)
    (hQ : ∀ c a w, Q (.panic c) (a.put oi.dst v) w → Q (.panic c) a w) (hsi : ∀ listed : Array Bool, UpTo md ops listed → s ∈ Region.ready md ops listed → listed.getD i true = true) (hne : s ≠ i) :
    ∀ (fuel : Nat) (listed : Array Bool) (a : Act) (w : World),
      (∀ j oj, ops[j]? = some oj → j ≠ i → listed.getD j true = false → (∀ e ∈ oj.after, Region.binds md e = true → e.on ≠ i) → oi.apart ops oj = true) →
      i ∈ Region.ready md ops listed → listed.getD s true = false → UpTo md ops listed → YieldsIf P ops S oi v a → S w →
      AnyTill P md ops Q S s fuel (listed.setIfInBounds i true) (a.put oi.dst v) w → AnyTill P md ops Q S s (fuel + 1) listed a w
  | fuel, listed, a, w, hfree, hr, hs, hup, hy, hS, H => by
    refine ⟨fun h => (by rw [h] at hr; cases hr), fun j hj => ?_⟩
    by_cases hji : j = i
    · subst hji
      exact hy.wpOp hi hS ⟨fun _ => hS, H⟩
    · have hi0 := (mem_ready.1 hr).1
      have hjs : j ≠ s := by
        rintro rfl
        rw [hsi listed hup hj] at hi0
        cases hi0
      cases fuel with
      | zero =>
        have := ready_mono hj hji
        rw [H.1] at this
        cases this
      | succ fuel =>
        have h1 := H.2 j (ready_mono hj hji)
        obtain ⟨hjun, oj, hoj, hall⟩ := mem_ready.1 hj
        have hnot : ∀ e ∈ oj.after, Region.binds md e = true → e.on ≠ i := fun e he hb heq => by
          have h3 := hall e he hb
          rw [heq] at h3
          rcases Nat.lt_or_ge i listed.size with h' | h'
          · simp [h'] at h3 hi0
            rw [h3] at hi0
            cases hi0
          · simp [Array.getElem?_eq_none h'] at h3
        have h2 := wpOp_putIf hoj (hfree j oj hoj hji hjun hnot) (fun cs b => hsel i oi cs b hi) (fun cs b => hsel j oj cs b hoj) hQ hy h1
        have hsj : (listed.setIfInBounds j true).getD s true = false := by rw [getD_set_ne true hjs]; exact hs
        have hsij : ((listed.setIfInBounds i true).setIfInBounds j true).getD s true = false := by
          rw [getD_set_ne true hjs, getD_set_ne true (Ne.symm hne)]
          exact hs
        refine wpOp_mono (fun a' w' h3 => ⟨fun _ => h3.2.1 hsij, AnyTill.first hi hsel hQ hsi hne fuel (listed.setIfInBounds j true) a' w' ?_ (ready_mono hr (Ne.symm hji)) hsj (hup.set hj) h3.1 (h3.2.1 hsij) ?_⟩) h2
        · intro k ok hk hki hun hno
          refine hfree k ok hk hki ?_ hno
          by_cases hjk : j = k
          · subst hjk; exact hjun
          · rw [getD_set_ne true hjk] at hun; exact hun
        · rw [Array.setIfInBounds_comm _ _ hji]
          exact h3.2.2

/-- Does operation s wait for operation i? -/
def waitsFor (md : Region.Mode) (ops : Array Oper) (s i : Nat) : Bool := ((ops[s]?).map (·.after.any fun e => Region.binds md e && e.on == i)).getD false
/-- The same, by way of others. -/
def waitsBy (md : Region.Mode) (ops : Array Oper) (i : Nat) : Nat → List Nat → Bool
  | s, [] => waitsFor md ops s i
  | s, x :: xs => waitsFor md ops s x && waitsBy md ops i x xs
def upTo (md : Region.Mode) (ops : Array Oper) (listed : Array Bool) : Bool := (List.range ops.size).all fun j => !listed.getD j false || ((ops[j]?).map (·.after.all fun e => !Region.binds md e || listed.getD e.on false)).getD true

theorem upTo_spec {listed : Array Bool} (h : upTo md ops listed = true) : UpTo md ops listed := by
  intro j o ho hj e he hb
  have hlt : j < ops.size := (Array.getElem?_eq_some_iff.1 ho).1
  simp only [upTo, List.all_eq_true, List.mem_range] at h
  have := h j hlt
  simp only [hj, ho, Option.map_some, Option.getD_some, Bool.not_true, Bool.false_or, Array.all_eq_true_iff_forall_mem, Bool.or_eq_true, Bool.not_eq_true'] at this
  rcases this e he with h1 | h1
  · rw [hb] at h1; cases h1
  · exact h1
theorem waitsFor_spec {i : Nat} (h : waitsFor md ops s i = true) : ∃ o, ops[s]? = some o ∧ ∃ e ∈ o.after, Region.binds md e = true ∧ e.on = i := by
  unfold waitsFor at h
  cases ho : ops[s]? with
  | none => rw [ho] at h; simp at h
  | some o =>
    simp only [ho, Option.map_some, Option.getD_some, Array.any_eq_true', Bool.and_eq_true, beq_iff_eq] at h
    exact ⟨o, rfl, h⟩
theorem waitsBy_spec {i : Nat} (listed : Array Bool) (hu : UpTo md ops listed) : ∀ (l : List Nat) (s : Nat), waitsBy md ops i s l = true → (∀ (o : Oper), ops[s]? = some o → ∀ e ∈ o.after, Region.binds md e = true → listed.getD e.on false = true) → listed.getD i false = true
  | [], s, h, hs => by
    obtain ⟨o, ho, e, he, hb, rfl⟩ := waitsFor_spec h
    exact hs o ho e he hb
  | x :: xs, s, h, hs => by
    simp only [waitsBy, Bool.and_eq_true] at h
    obtain ⟨o, ho, e, he, hb, rfl⟩ := waitsFor_spec h.1
    have h1 := hs o ho e he hb
    exact waitsBy_spec listed hu xs e.on h.2 (fun o' ho' => hu e.on o' ho' h1)
theorem getD_true_of_false {listed : Array Bool} {i : Nat} (h : listed.getD i false = true) : listed.getD i true = true := by
  rcases Nat.lt_or_ge i listed.size with h' | h'
  · simpa [h'] using h
  · simp [Array.getElem?_eq_none h']
theorem waits_spec {i : Nat} {l : List Nat} (h : waitsBy md ops i s l = true) (listed : Array Bool) (hu : UpTo md ops listed) (hr : s ∈ Region.ready md ops listed) : listed.getD i true = true := by
  obtain ⟨_, o, ho, hall⟩ := mem_ready.1 hr
  refine getD_true_of_false (waitsBy_spec listed hu l s h (fun o' ho' => ?_))
  rw [ho] at ho'
  injection ho' with ho'
  subst ho'
  exact hall

theorem AnyTill.take (l : List Nat) {i : Nat} {oi : Oper} {v : Value} {fuel : Nat} {listed : Array Bool} {a : Act} {w : World} (hi : ops[i]? = some oi)
    (hk : (Region.noSelect ops && Region.free md ops listed i && (Region.ready md ops listed).contains i && waitsBy md ops i s l && upTo md ops listed && !(s == i) && !(listed.getD s true)) = true)
    (hQ : ∀ c a w, Q (.panic c) (a.put oi.dst v) w → Q (.panic c) a w) (hy : YieldsIf P ops S oi v a) (hS : S w)
    (h : AnyTill P md ops Q S s fuel (listed.setIfInBounds i true) (a.put oi.dst v) w) : AnyTill P md ops Q S s (fuel + 1) listed a w := by
  simp only [Bool.and_eq_true, Bool.not_eq_true', beq_eq_false_iff_ne] at hk
  obtain ⟨⟨⟨⟨⟨⟨h1, h2⟩, h3⟩, h4⟩, h7⟩, h5⟩, h6⟩ := hk
  exact AnyTill.first hi (Region.noSelect_spec h1) hQ (waits_spec h4) h5 fuel listed a w (Region.free_spec hi h2) (by simpa using h3) h6 (upTo_spec h7) hy hS h

/-- What yields in whatever world may be taken first at any time. -/
theorem AnyTill.firstW {i : Nat} {oi : Oper} {v : Value} (hi : ops[i]? = some oi) (hsel : ∀ (j : Nat) (o : Oper) cs b, ops[j]? = some o → o.op ≠ .select cs b)
    (hQ : ∀ c a w, Q (.panic c) (a.put oi.dst v) w → Q (.panic c) a w) (hne : s ≠ i) :
    ∀ (fuel : Nat) (listed : Array Bool) (a : Act) (w : World),
      (∀ j oj, ops[j]? = some oj → j ≠ i → listed.getD j true = false → (∀ e ∈ oj.after, Region.binds md e = true → e.on ≠ i) → oi.apart ops oj = true) →
      i ∈ Region.ready md ops listed → YieldsIf P ops (fun _ => True) oi v a → (listed.getD s true = false → S w) →
      AnyTill P md ops Q S s fuel (listed.setIfInBounds i true) (a.put oi.dst v) w → AnyTill P md ops Q S s (fuel + 1) listed a w
  | fuel, listed, a, w, hfree, hr, hy, hS, H => by
    have hsi : (listed.setIfInBounds i true).getD s true = listed.getD s true := getD_set_ne true (Ne.symm hne)
    refine ⟨fun h => (by rw [h] at hr; cases hr), fun j hj => ?_⟩
    by_cases hji : j = i
    · subst hji
      exact hy.wpOp hi trivial ⟨fun h => hS (hsi ▸ h), H⟩
    · have hi0 := (mem_ready.1 hr).1
      cases fuel with
      | zero =>
        have := ready_mono hj hji
        rw [H.1] at this
        cases this
      | succ fuel =>
        have h1 := H.2 j (ready_mono hj hji)
        obtain ⟨hjun, oj, hoj, hall⟩ := mem_ready.1 hj
        have hnot : ∀ e ∈ oj.after, Region.binds md e = true → e.on ≠ i := fun e he hb heq => by
          have h3 := hall e he hb
          rw [heq] at h3
          rcases Nat.lt_or_ge i listed.size with h' | h'
          · simp [h'] at h3 hi0
            rw [h3] at hi0
            cases hi0
          · simp [Array.getElem?_eq_none h'] at h3
        have h2 := wpOp_putIf hoj (hfree j oj hoj hji hjun hnot) (fun cs b => hsel i oi cs b hi) (fun cs b => hsel j oj cs b hoj) hQ hy h1
        have hsj : ((listed.setIfInBounds i true).setIfInBounds j true).getD s true = (listed.setIfInBounds j true).getD s true := by
          rw [← Array.setIfInBounds_comm _ _ hji]
          exact getD_set_ne true (Ne.symm hne)
        refine wpOp_mono (fun a' w' h3 => ⟨fun h => h3.2.1 (hsj ▸ h), AnyTill.firstW hi hsel hQ hne fuel (listed.setIfInBounds j true) a' w' ?_ (ready_mono hr (Ne.symm hji)) h3.1 (fun h => h3.2.1 (hsj ▸ h)) ?_⟩) h2
        · intro k ok hk hki hun hno
          refine hfree k ok hk hki ?_ hno
          by_cases hjk : j = k
          · subst hjk; exact hjun
          · rw [getD_set_ne true hjk] at hun; exact hun
        · rw [Array.setIfInBounds_comm _ _ hji]
          exact h3.2.2
theorem AnyTill.takeW {i : Nat} {oi : Oper} {v : Value} {fuel : Nat} {listed : Array Bool} {a : Act} {w : World} (hi : ops[i]? = some oi)
    (hk : (Region.noSelect ops && Region.free md ops listed i && (Region.ready md ops listed).contains i && !(s == i)) = true)
    (hQ : ∀ c a w, Q (.panic c) (a.put oi.dst v) w → Q (.panic c) a w) (hy : YieldsIf P ops (fun _ => True) oi v a) (hS : listed.getD s true = false → S w)
    (h : AnyTill P md ops Q S s fuel (listed.setIfInBounds i true) (a.put oi.dst v) w) : AnyTill P md ops Q S s (fuel + 1) listed a w := by
  simp only [Bool.and_eq_true, Bool.not_eq_true', beq_eq_false_iff_ne] at hk
  obtain ⟨⟨⟨h1, h2⟩, h3⟩, h5⟩ := hk
  exact AnyTill.firstW hi (Region.noSelect_spec h1) hQ h5 fuel listed a w (Region.free_spec hi h2) (by simpa using h3) hy hS h

/-- Each of the operations rs comes up next. -/
def NextTill (P : Program) (md : Region.Mode) (ops : Array Oper) (Q : Exit → Act → World → Prop) (S : World → Prop) (s : Nat) (fuel : Nat) (listed : Array Bool) (a : Act) (w : World) (rs : List Nat) : Prop :=
  ∀ i ∈ rs, wpOp P ops Q i (fun a' w' => ((listed.setIfInBounds i true).getD s true = false → S w') ∧ AnyTill P md ops Q S s fuel (listed.setIfInBounds i true) a' w') a w
theorem NextTill.nil {fuel : Nat} {listed : Array Bool} {a : Act} {w : World} : NextTill P md ops Q S s fuel listed a w [] := fun _ h => by cases h
theorem NextTill.cons {fuel : Nat} {listed : Array Bool} {a : Act} {w : World} {i : Nat} {o : Oper} {rs : List Nat} (ho : ops[i]? = some o) (hw : Region.wanted o (yielded ops a.tmps) = true)
    (h : ∀ K' : Act → World → Prop, Shut (∀ a w, (((listed.setIfInBounds i true).getD s true = false) → S w) → AnyTill P md ops Q S s fuel (listed.setIfInBounds i true) a w → K' a w) → Oper.wp P o a w K' Q)
    (hs : NextTill P md ops Q S s fuel listed a w rs) : NextTill P md ops Q S s fuel listed a w (i :: rs) := fun j hj => by
  rcases List.mem_cons.1 hj with rfl | hj
  · refine wpOp_step ho (fun K' hK => ?_)
    rw [if_pos hw]
    exact h K' (fun a w hS hW => hK a w ⟨hS, hW⟩)
  · exact hs j hj
theorem AnyTill.ready {rs : List Nat} {fuel : Nat} {listed : Array Bool} {a : Act} {w : World} (hr : Region.ready md ops listed = rs) (hne : rs ≠ [])
    (h : NextTill P md ops Q S s fuel listed a w rs) : AnyTill P md ops Q S s (fuel + 1) listed a w := ⟨fun h0 => absurd (hr ▸ h0) hne, hr ▸ h⟩
theorem AnyTill.done {listed : Array Bool} {a : Act} {w : World} (hr : Region.ready md ops listed = []) (h : Q .normal a w) : ∀ fuel, AnyTill P md ops Q S s fuel listed a w
  | 0 => ⟨hr, h⟩
  | _ + 1 => ⟨fun _ => h, by rw [hr]; simp⟩
theorem region_till {id : Nat} {a : Act} {w : World} (hm : P.follows .mixedOrders = true)
    (h : AnyTill P .any ops Q S s ops.size (Array.replicate ops.size false) a w.drew) : (Code.region id ops true).wp P Q a w :=
  wp_region_any hm (AnyTill.any _ _ _ _ h)
end
end Go.Proofs.YtbkoajipljjonaaDoor
