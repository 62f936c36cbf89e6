/- Texts in one: Tail, Fork. No condition. -/
import Derived.OrdersHeld
import Derived.Deep.RegionHeld
section
namespace Go.Proofs.YtlcjdlnhniemcaaDoor
section
variable {P : Program} {ops : Array Oper} {Q : Exit → Act → World → Prop} {md : Region.Mode} {S : World → Prop} {late : List Nat}

/-- none of the late operations has come up -/
def early (late : List Nat) (listed : Array Bool) : Bool := late.all fun k => !listed.getD k true
/-- Whatever order is picked from here on, and S holds behind every operation, as long as no late one has come up. -/
def wpAnyT (P : Program) (md : Region.Mode) (ops : Array Oper) (Q : Exit → Act → World → Prop) (S : World → Prop) (late : List Nat) : Nat → Array Bool → Act → World → Prop
  | 0, listed, a, w => Region.ready md ops listed = [] ∧ Q .normal a w
  | fuel + 1, listed, a, w =>
    (Region.ready md ops listed = [] → Q .normal a w) ∧
    ∀ i ∈ Region.ready md ops listed, wpOp P ops Q i (fun a' w' => (early late (listed.setIfInBounds i true) = true → S w') ∧ wpAnyT P md ops Q S late fuel (listed.setIfInBounds i true) a' w') a w

theorem wpAny_of_tail : ∀ (fuel : Nat) (listed : Array Bool) (a : Act) (w : World), wpAnyT P md ops Q S late fuel listed a w → wpAny P md ops Q fuel listed a w
  | 0, _, _, _, h => h
  | fuel + 1, _, _, _, h => ⟨h.1, fun i hi => wpOp_mono (fun a' w' h' => wpAny_of_tail fuel _ a' w' h'.2) (h.2 i hi)⟩

/-- the operations B wait for i, one through the other; the late ones are among them -/
def Behind (md : Region.Mode) (ops : Array Oper) (i : Nat) (B : List Nat) (listed : Array Bool) : Prop :=
  ∀ k, k ∈ B → listed.getD k true = false ∧ ∃ ok, ops[k]? = some ok ∧ ∃ e ∈ ok.after, Region.binds md e = true ∧ (e.on = i ∨ e.on ∈ B)
def behindB (md : Region.Mode) (ops : Array Oper) (i : Nat) (B : List Nat) (listed : Array Bool) : Bool :=
  B.all fun k => !listed.getD k true && match ops[k]? with
    | none => false
    | some ok => ok.after.any fun e => Region.binds md e && (e.on == i || B.contains e.on)
theorem behind_of {i : Nat} {B : List Nat} {listed : Array Bool} (h : behindB md ops i B listed = true) : Behind md ops i B listed := by
  intro k hk
  have h1 := List.all_eq_true.1 h k hk
  simp only [Bool.and_eq_true, Bool.not_eq_true'] at h1
  refine ⟨h1.1, ?_⟩
  have h2 := h1.2
  cases ho : ops[k]? with
  | none => rw [ho] at h2; cases h2
  | some ok =>
    rw [ho] at h2
    simp only at h2
    obtain ⟨e, he, hb⟩ := Array.any_eq_true'.1 h2
    simp only [Bool.and_eq_true, Bool.or_eq_true, beq_iff_eq, List.contains_iff_mem] at hb
    exact ⟨ok, rfl, e, he, hb.1, hb.2⟩

theorem getD_true_of {listed : Array Bool} {i : Nat} (h : listed.getD i true = false) : listed.getD i false = false := by
  rcases Nat.lt_or_ge i listed.size with h' | h'
  · simp [h'] at h ⊢; exact h
  · simp [Array.getElem?_eq_none h'] at h ⊢

theorem wpAnyT_first {i : Nat} {oi : Oper} {v : Value} {B : List Nat} (hi : ops[i]? = some oi) (hsel : ∀ (j : Nat) (o : Oper) cs b, ops[j]? = some o → o.op ≠ .select cs b)
    (hQ : ∀ c a w, Q (.panic c) (a.put oi.dst v) w → Q (.panic c) a w) (hlB : ∀ k, k ∈ late → k ∈ B) (hiB : i ∉ B) :
    ∀ (fuel : Nat) (listed : Array Bool) (a : Act) (w : World),
      (∀ j oj, ops[j]? = some oj → j ≠ i → listed.getD j true = false → (∀ e ∈ oj.after, Region.binds md e = true → e.on ≠ i) → oi.apart ops oj = true) →
      i ∈ Region.ready md ops listed → Behind md ops i B listed → YieldsIf P ops S oi v a → S w →
      wpAnyT P md ops Q S late fuel (listed.setIfInBounds i true) (a.put oi.dst v) w → wpAnyT P md ops Q S late (fuel + 1) listed a w := by
  intro fuel
  induction fuel with
  | zero =>
    intro listed a w _ hr hB hy hS H
    refine ⟨fun h => (by rw [h] at hr; cases hr), fun j hj => ?_⟩
    by_cases hji : j = i
    · subst hji; exact hy.wpOp hi hS ⟨fun _ => hS, H⟩
    · have := ready_mono hj hji
      rw [H.1] at this
      cases this
  | succ fuel ih =>
    intro listed a w hfree hr hB hy hS H
    refine ⟨fun h => (by rw [h] at hr; cases hr), fun j hj => ?_⟩
    by_cases hji : j = i
    · subst hji; exact hy.wpOp hi hS ⟨fun _ => hS, H⟩
    · have h1 := H.2 j (ready_mono hj hji)
      obtain ⟨hjun, oj, hoj, hall⟩ := mem_ready.1 hj
      have hiun := (mem_ready.1 hr).1
      have hnot : ∀ e ∈ oj.after, Region.binds md e = true → e.on ≠ i := fun e he hb heq => by
        have h1 := hall e he hb
        rw [heq, getD_true_of hiun] at h1
        cases h1
      have hjB : j ∉ B := fun hm => by
        obtain ⟨_, ok, hok, e, he, hb, hon⟩ := hB j hm
        rw [hoj] at hok
        cases hok
        rcases hon with hon | hon
        · exact hnot e he hb hon
        · have h1 := hall e he hb
          rw [getD_true_of (hB e.on hon).1] at h1
          cases h1
      have hB' : Behind md ops i B (listed.setIfInBounds j true) := fun k hk => by
        obtain ⟨h0, h2⟩ := hB k hk
        refine ⟨?_, h2⟩
        rw [getD_set_ne true (by intro e; subst e; exact hjB hk)]
        exact h0
      have hearly : early late ((listed.setIfInBounds i true).setIfInBounds j true) = true := by
        unfold early
        rw [List.all_eq_true]
        intro k hk
        have hkB := hlB k hk
        rw [getD_set_ne true (by intro e; subst e; exact hjB hkB), getD_set_ne true (by intro e; subst e; exact hiB hkB), (hB k hkB).1]
        rfl
      have h2 := wpOp_putIf hoj (hfree j oj hoj hji hjun hnot) (fun cs b => hsel i oi cs b hi) (fun cs b => hsel j oj cs b hoj) hQ hy h1
      have hfree' : ∀ k ok, ops[k]? = some ok → k ≠ i → (listed.setIfInBounds j true).getD k true = false →
          (∀ e ∈ ok.after, Region.binds md e = true → e.on ≠ i) → oi.apart ops ok = true := fun k ok hk hki hun hno => by
        refine hfree k ok hk hki ?_ hno
        by_cases hjk : j = k
        · subst hjk; exact hjun
        · rw [getD_set_ne true hjk] at hun; exact hun
      refine wpOp_mono (fun a' w' h3 => ⟨fun _ => h3.2.1 hearly, ih (listed.setIfInBounds j true) a' w' hfree' (ready_mono hr (Ne.symm hji)) hB' h3.1 (h3.2.1 hearly) ?_⟩) h2
      rw [Array.setIfInBounds_comm _ _ hji]
      exact h3.2.2

/-- Number i is taken first: B: operations that wait for i, one through the other, the late ones among them. -/
theorem wpAnyT_take {i : Nat} {oi : Oper} {v : Value} (B : List Nat) {fuel : Nat} {listed : Array Bool} {a : Act} {w : World} (hi : ops[i]? = some oi)
    (hs : Region.noSelect ops = true) (hf : Region.free md ops listed i = true) (hr : (Region.ready md ops listed).contains i = true)
    (hB : (behindB md ops i B listed && late.all (fun k => B.contains k) && !B.contains i) = true)
    (hQ : ∀ c a w, Q (.panic c) (a.put oi.dst v) w → Q (.panic c) a w) (hy : YieldsIf P ops S oi v a) (hS : S w)
    (h : wpAnyT P md ops Q S late fuel (listed.setIfInBounds i true) (a.put oi.dst v) w) : wpAnyT P md ops Q S late (fuel + 1) listed a w := by
  simp only [Bool.and_eq_true, Bool.not_eq_true'] at hB
  refine wpAnyT_first hi (Region.noSelect_spec hs) hQ (B := B) (fun k hk => ?_) (fun hm => ?_) fuel listed a w (Region.free_spec hi hf) (by simpa using hr) (behind_of hB.1.1) hy hS h
  · have := List.all_eq_true.1 hB.1.2 k hk
    simpa using this
  · have := hB.2
    rw [List.contains_iff_mem.2 hm] at this
    cases this
/-- the operations that wait for i, one through the other -/
def waiting (md : Region.Mode) (ops : Array Oper) (i : Nat) : List Nat :=
  (List.range ops.size).foldl (fun B k => if (match ops[k]? with | none => false | some ok => ok.after.any fun e => Region.binds md e && (e.on == i || B.contains e.on)) then B ++ [k] else B) []
/-- What yields in whatever world is taken first, whoever waits for it: S is asked of nobody. -/
theorem wpAnyT_pure {i : Nat} {oi : Oper} {v : Value} {fuel : Nat} {listed : Array Bool} {a : Act} {w : World} (hi : ops[i]? = some oi)
    (hs : Region.noSelect ops = true) (hf : Region.free md ops listed i = true) (hr : (Region.ready md ops listed).contains i = true)
    (hQ : ∀ c a w, Q (.panic c) (a.put oi.dst v) w → Q (.panic c) a w) (hy : Yields P ops oi v a) (hS : early late (listed.setIfInBounds i true) = true → S w)
    (h : wpAnyT P md ops Q S late fuel (listed.setIfInBounds i true) (a.put oi.dst v) w) (hE : ¬ i ∈ late) : wpAnyT P md ops Q S late (fuel + 1) listed a w := by
  have hsel := Region.noSelect_spec hs
  have key : ∀ (fuel : Nat) (listed : Array Bool) (a : Act) (w : World),
      (∀ j oj, ops[j]? = some oj → j ≠ i → listed.getD j true = false → (∀ e ∈ oj.after, Region.binds md e = true → e.on ≠ i) → oi.apart ops oj = true) →
      i ∈ Region.ready md ops listed → Yields P ops oi v a → (early late (listed.setIfInBounds i true) = true → S w) →
      wpAnyT P md ops Q S late fuel (listed.setIfInBounds i true) (a.put oi.dst v) w → wpAnyT P md ops Q S late (fuel + 1) listed a w := by
    intro fuel
    induction fuel with
    | zero =>
      intro listed a w _ hr hy hS H
      refine ⟨fun h => (by rw [h] at hr; cases hr), fun j hj => ?_⟩
      by_cases hji : j = i
      · subst hji; exact hy.yieldsIf.wpOp (S := fun _ => True) hi trivial ⟨hS, H⟩
      · have := ready_mono hj hji
        rw [H.1] at this
        cases this
    | succ fuel ih =>
      intro listed a w hfree hr hy hS H
      refine ⟨fun h => (by rw [h] at hr; cases hr), fun j hj => ?_⟩
      by_cases hji : j = i
      · subst hji; exact hy.yieldsIf.wpOp (S := fun _ => True) hi trivial ⟨hS, H⟩
      · have h1 := H.2 j (ready_mono hj hji)
        obtain ⟨hjun, oj, hoj, hall⟩ := mem_ready.1 hj
        have hiun := (mem_ready.1 hr).1
        have hnot : ∀ e ∈ oj.after, Region.binds md e = true → e.on ≠ i := fun e he hb heq => by
          have h1 := hall e he hb
          rw [heq, getD_true_of hiun] at h1
          cases h1
        have h2 := wpOp_putIf (S := fun _ => True) hoj (hfree j oj hoj hji hjun hnot) (fun cs b => hsel i oi cs b hi) (fun cs b => hsel j oj cs b hoj) hQ hy.yieldsIf h1
        have hfree' : ∀ k ok, ops[k]? = some ok → k ≠ i → (listed.setIfInBounds j true).getD k true = false →
            (∀ e ∈ ok.after, Region.binds md e = true → e.on ≠ i) → oi.apart ops ok = true := fun k ok hk hki hun hno => by
          refine hfree k ok hk hki ?_ hno
          by_cases hjk : j = k
          · subst hjk; exact hjun
          · rw [getD_set_ne true hjk] at hun; exact hun
        have hear : early late ((listed.setIfInBounds i true).setIfInBounds j true) = early late (listed.setIfInBounds j true) := by
          unfold early
          rw [Bool.eq_iff_iff, List.all_eq_true, List.all_eq_true]
          have one : ∀ k, k ∈ late → ((listed.setIfInBounds i true).setIfInBounds j true).getD k true = (listed.setIfInBounds j true).getD k true := fun k hk => by
            rw [Array.setIfInBounds_comm _ _ (Ne.symm hji), getD_set_ne true (by intro e; subst e; exact hE hk)]
          exact ⟨fun h k hk => by rw [← one k hk]; exact h k hk, fun h k hk => by rw [one k hk]; exact h k hk⟩
        refine wpOp_mono (fun a' w' h3 => ⟨fun he => h3.2.1 (hear.trans he), ih (listed.setIfInBounds j true) a' w' hfree' (ready_mono hr (Ne.symm hji)) ?_ (fun he => h3.2.1 (by rw [Array.setIfInBounds_comm _ _ hji] at *; exact he)) ?_⟩) h2
        · rcases h3.1 with ⟨h4, h5⟩ | ⟨h4, h5⟩
          · exact .inl ⟨h4, fun w => h5 w trivial⟩
          · exact .inr ⟨h4, h5⟩
        · rw [Array.setIfInBounds_comm _ _ hji]
          exact h3.2.2
  exact key fuel listed a w (Region.free_spec hi hf) (by simpa using hr) hy hS h
/-- One operation alone may come up. -/
theorem wpAnyT_next {i : Nat} {o : Oper} {fuel : Nat} {listed : Array Bool} {a : Act} {w : World} (hr : Region.ready md ops listed = [i]) (ho : ops[i]? = some o)
    (h : ∀ K : Act → World → Prop, Shut (∀ a w, (early late (listed.setIfInBounds i true) = true → S w) → wpAnyT P md ops Q S late fuel (listed.setIfInBounds i true) a w → K a w) → if Region.wanted o (yielded ops a.tmps) = true then Oper.wp P o a w K Q else K (a.put o.dst undef) w) :
    wpAnyT P md ops Q S late (fuel + 1) listed a w := by
  refine ⟨fun h0 => (by rw [hr] at h0; cases h0), fun j hj => ?_⟩
  rw [hr, List.mem_singleton] at hj
  subst hj
  exact wpOp_step ho (fun K' hK => h K' (fun a w hS hW => hK a w ⟨hS, hW⟩))
theorem wpAnyT_done {listed : Array Bool} {a : Act} {w : World} (hr : Region.ready md ops listed = []) (h : Q .normal a w) : ∀ fuel, wpAnyT P md ops Q S late fuel listed a w
  | 0 => ⟨hr, h⟩
  | _ + 1 => ⟨fun _ => h, by rw [hr]; simp⟩
theorem wp_region_tail (late : List Nat) (S : World → Prop) {id : Nat} {a : Act} {w : World} (hm : P.follows .mixedOrders = true) (hS : S w.drew)
    (h : S w.drew → wpAnyT P .any ops Q S late ops.size (Array.replicate ops.size false) a w.drew) : (Code.region id ops true).wp P Q a w :=
  wp_region_any hm (wpAny_of_tail _ _ _ _ (h hS))
end
end Go.Proofs.YtlcjdlnhniemcaaDoor
end
section
namespace Go.Proofs.YtlcjdlnhniemcaaDoor
section
variable {P : Program} {ops : Array Oper} {Q : Exit → Act → World → Prop} {md : Region.Mode} {S : World → Prop} {late : List Nat}
theorem wpAnyT_fork {i j : Nat} {oi oj : Oper} {fuel : Nat} {listed : Array Bool} {a : Act} {w : World} (hr : Region.ready md ops listed = [i, j]) (hoi : ops[i]? = some oi) (hoj : ops[j]? = some oj)
    (hi : ∀ K : Act → World → Prop, Shut (∀ a w, (early late (listed.setIfInBounds i true) = true → S w) → wpAnyT P md ops Q S late fuel (listed.setIfInBounds i true) a w → K a w) → if Region.wanted oi (yielded ops a.tmps) = true then Oper.wp P oi a w K Q else K (a.put oi.dst undef) w)
    (hj : ∀ K : Act → World → Prop, Shut (∀ a w, (early late (listed.setIfInBounds j true) = true → S w) → wpAnyT P md ops Q S late fuel (listed.setIfInBounds j true) a w → K a w) → if Region.wanted oj (yielded ops a.tmps) = true then Oper.wp P oj a w K Q else K (a.put oj.dst undef) w) :
    wpAnyT P md ops Q S late (fuel + 1) listed a w := by
  refine ⟨fun h0 => (by rw [hr] at h0; cases h0), fun k hk => ?_⟩
  rw [hr, List.mem_cons, List.mem_singleton] at hk
  rcases hk with rfl | rfl
  · exact wpOp_step hoi (fun K' hK => hi K' (fun a w hS hW => hK a w ⟨hS, hW⟩))
  · exact wpOp_step hoj (fun K' hK => hj K' (fun a w hS hW => hK a w ⟨hS, hW⟩))
end
end Go.Proofs.YtlcjdlnhniemcaaDoor
end
