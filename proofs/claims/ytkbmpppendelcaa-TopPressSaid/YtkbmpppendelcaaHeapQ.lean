/- The plain law of a round: the two least out, their sum in. No condition. -/
import Derived.Test.YtkbmpppendelcaaHeapM
namespace Go.Proofs.Ytkbmpppendelcaa
open Go.RowKit

theorem hl.le_sum : ∀ {l : List Int} {x : Int}, (∀ y ∈ l, 0 ≤ y) → x ∈ l → x ≤ l.sum
  | [], _, _, h => by cases h
  | y :: l, x, h0, h => by
    rw [List.sum_cons]
    have hn : ∀ m : List Int, (∀ z ∈ m, 0 ≤ z) → 0 ≤ m.sum := by
      intro m
      induction m with
      | nil => intro _; exact Int.le_refl _
      | cons z m ih => intro hz; rw [List.sum_cons]; have h1 := hz z (by simp); have h2 := ih (fun q hq => hz q (by simp [hq])); omega
    rcases List.mem_cons.1 h with rfl | h
    · have := hn l (fun z hz => h0 z (by simp [hz])); omega
    · have h1 := hl.le_sum (fun z hz => h0 z (by simp [hz])) h
      have h2 := h0 y (by simp)
      omega
theorem hl.FI.cnt_le {counts : List Int} {ts : List hl.T} (h : hl.FI counts ts) (hn : counts.length ≤ 64) (hr : ∀ n ∈ counts, n ≤ 1048576) {t : hl.T} (ht : t ∈ ts) : hl.cnt t ≤ 67108864 := by
  have h1 := hl.le_sum (l := ts.map hl.cnt) (x := hl.cnt t) (fun y hy => by
    obtain ⟨u, hu, rfl⟩ := List.mem_map.1 hy
    have := (h.wf u hu).cnt1; omega) (List.mem_map.2 ⟨t, ht, rfl⟩)
  rw [h.tot] at h1
  have hl0 : (hl.pos counts).length ≤ counts.length := by
    unfold hl.pos
    refine Nat.le_trans (List.length_filter_le ..) ?_
    rw [List.length_range]
    exact Nat.le_refl _
  have := hl.sum_le (l := (hl.pos counts).map fun s => counts.getD s 0) (b := 1048576) (fun x hx => by
    obtain ⟨s, _, rfl⟩ := List.mem_map.1 hx
    exact hl.getD_le (by omega) hr s)
  rw [List.length_map] at this
  omega
/-- a forest in order -/
structure ho.St (counts : List Int) (gs : List (Nat × hl.T)) : Prop where
  hp : hp.Hp ho.ek ho.ez gs gs.length 0
  fi : hl.FI counts (gs.map Prod.snd)
  one : gs.length = 1 → ∀ x ∈ gs, 0 < hl.dep x.2
theorem ho.low_of {counts : List Int} {gs : List (Nat × hl.T)} (h : hl.FI counts (gs.map Prod.snd)) (hn : counts.length ≤ 64) (hr : ∀ n ∈ counts, n ≤ 1048576) : ho.Low gs := fun x hx => by
  have hm : x.2 ∈ gs.map Prod.snd := List.mem_map.2 ⟨x, hx, rfl⟩
  have h1 := (h.wf _ hm).dep0
  have h2 := (h.fb _ hm).dep_le (h.cnt_le hn hr hm)
  omega
theorem ho.len_of {counts : List Int} {gs : List (Nat × hl.T)} (h : hl.FI counts (gs.map Prod.snd)) (hn : counts.length ≤ 64) : gs.length ≤ 64 := by
  have h1 := h.syms.length_eq
  have hl0 : (hl.pos counts).length ≤ counts.length := by
    unfold hl.pos
    refine Nat.le_trans (List.length_filter_le ..) ?_
    rw [List.length_range]
    exact Nat.le_refl _
  have key : ∀ ts : List hl.T, ts.length ≤ (ts.flatMap hl.symsT).length := by
    have k1 : ∀ t : hl.T, 1 ≤ (hl.symsT t).length := by
      intro t
      induction t with
      | leaf c s => exact Nat.le_refl _
      | node c pa a pb b d iha ihb => rw [hl.symsT, List.length_append]; omega
    intro ts
    induction ts with
    | nil => exact Nat.le_refl _
    | cons t ts ih => rw [List.flatMap_cons, List.length_append, List.length_cons]; have := k1 t; omega
  have h2 := key (gs.map Prod.snd)
  rw [List.length_map] at h2
  omega
/-- what a round makes of a forest -/
structure ho.Round (counts : List Int) (gs g1 g2 : List (Nat × hl.T)) (a b : Nat × hl.T) : Prop where
  e1 : g1 = (ho.popd gs).take (gs.length - 1)
  ea : a = (ho.popd gs).getD (gs.length - 1) ho.ez
  e2 : g2 = (ho.popd g1).take (g1.length - 1)
  eb : b = (ho.popd g1).getD (g1.length - 1) ho.ez
  l1 : g1.length = gs.length - 1
  l2 : g2.length = gs.length - 2
  ma : a ∈ gs
  mb : b ∈ g1
  sub : b ∈ g1 → b ∈ gs
  low1 : ho.Low g1
  low2 : ∀ p, ho.Low (g2 ++ [(p, hl.join a.1 a.2 b.1 b.2)])
  st : ∀ p, ho.St counts (ho.psh g2 (p, hl.join a.1 a.2 b.1 b.2))
  len : ∀ p, (ho.psh g2 (p, hl.join a.1 a.2 b.1 b.2)).length = gs.length - 1
theorem ho.round {counts : List Int} {gs : List (Nat × hl.T)} (hn : counts.length ≤ 64) (hr : ∀ n ∈ counts, n ≤ 1048576) (h2 : 2 ≤ gs.length) (h : ho.St counts gs) : ∃ g1 g2 a b, ho.Round counts gs g1 g2 a b := by
  obtain ⟨p1, p2, p3, p4⟩ := hp.pop_spec ho.ek ho.ez (l := gs) (by omega) h.hp
  have hl1 : ((hp.popped ho.ek ho.ez gs).take (gs.length - 1)).length = gs.length - 1 := by rw [List.length_take, hp.popped_length]; omega
  obtain ⟨g1, hg1⟩ : ∃ g1, (hp.popped ho.ek ho.ez gs).take (gs.length - 1) = g1 := ⟨_, rfl⟩
  rw [hg1] at hl1 p2 p3 p4
  rw [← hl1] at p3
  obtain ⟨q1, q2, q3, q4⟩ := hp.pop_spec ho.ek ho.ez (l := g1) (by omega) p3
  have hl2 : ((hp.popped ho.ek ho.ez g1).take (g1.length - 1)).length = g1.length - 1 := by rw [List.length_take, hp.popped_length]; omega
  obtain ⟨g2, hg2⟩ : ∃ g2, (hp.popped ho.ek ho.ez g1).take (g1.length - 1) = g2 := ⟨_, rfl⟩
  rw [hg2] at hl2 q2 q3 q4
  rw [← hl2] at q3
  obtain ⟨a, ha⟩ : ∃ a, gs.getD 0 ho.ez = a := ⟨_, rfl⟩
  obtain ⟨b, hb⟩ : ∃ b, g1.getD 0 ho.ez = b := ⟨_, rfl⟩
  rw [ha] at p1 p2 p4
  rw [hb] at q1 q2 q4
  have lowg := ho.low_of h.fi hn hr
  have low1 : ho.Low g1 := fun x hx => lowg x (p2.symm.subset (List.mem_cons_of_mem _ hx))
  have mb : b ∈ g1 := q2.symm.subset (List.mem_cons_self ..)
  have ma : a ∈ gs := p2.symm.subset (List.mem_cons_self ..)
  have key : ∀ {x y : Nat × hl.T}, (0 ≤ hl.dep x.2 ∧ hl.dep x.2 < 128) → (0 ≤ hl.dep y.2 ∧ hl.dep y.2 < 128) → ho.ek x ≤ ho.ek y → hl.cnt x.2 ≤ hl.cnt y.2 := fun {x y} h1 h2 h3 => by
    unfold ho.ek at h3
    omega
  have hfi : ∀ p : Nat, hl.FI counts (((p, hl.join a.1 a.2 b.1 b.2) :: g2).map Prod.snd) := fun p => by
    refine h.fi.step (r := g2.map Prod.snd) (a := a.2) (b := b.2) ?_ (fun t ht => ?_) (fun t ht => ?_) a.1 b.1
    · exact (p2.trans (q2.cons a)).map Prod.snd
    · obtain ⟨x, hx, rfl⟩ := List.mem_map.1 ht
      rcases List.mem_cons.1 (p2.subset hx) with rfl | hx1
      · exact Int.le_refl _
      · exact key (lowg a ma) (lowg x hx) (p4 x hx1)
    · obtain ⟨x, hx, rfl⟩ := List.mem_map.1 ht
      exact key (low1 b mb) (low1 x (q2.symm.subset (List.mem_cons_of_mem _ hx))) (q4 x hx)
  have hps := fun p : Nat => hp.push_spec ho.ek ho.ez (l := g2) (p, hl.join a.1 a.2 b.1 b.2) q3
  have hfp : ∀ p : Nat, hl.FI counts ((ho.psh g2 (p, hl.join a.1 a.2 b.1 b.2)).map Prod.snd) := fun p => (hfi p).perm ((hps p).2.1.map Prod.snd)
  refine ⟨g1, g2, a, b, hg1.symm, p1.symm, hg2.symm, q1.symm, hl1, by omega, ma, mb, fun h => p2.symm.subset (List.mem_cons_of_mem _ h), low1, fun p => ?_, fun p => ⟨?_, hfp p, fun h1 x hx => ?_⟩, fun p => ?_⟩
  · exact (ho.low_of (hfi p) hn hr).perm (List.perm_append_comm (l₁ := g2) (l₂ := [(p, hl.join a.1 a.2 b.1 b.2)]))
  · have e : (ho.psh g2 (p, hl.join a.1 a.2 b.1 b.2)).length = g2.length + 1 := (hps p).2.2
    rw [e]
    exact (hps p).1
  · have e : (ho.psh g2 (p, hl.join a.1 a.2 b.1 b.2)).length = g2.length + 1 := (hps p).2.2
    have e0 : g2 = [] := List.eq_nil_of_length_eq_zero (by omega)
    have hx2 := (hps p).2.1.subset hx
    rw [e0] at hx2
    rw [List.mem_singleton.1 hx2]
    have d1 := (lowg a ma).1
    have d2 := (low1 b mb).1
    show 0 < max (hl.dep a.2) (hl.dep b.2) + 1
    omega
  · have e : (ho.psh g2 (p, hl.join a.1 a.2 b.1 b.2)).length = g2.length + 1 := (hps p).2.2
    omega
end Go.Proofs.Ytkbmpppendelcaa
