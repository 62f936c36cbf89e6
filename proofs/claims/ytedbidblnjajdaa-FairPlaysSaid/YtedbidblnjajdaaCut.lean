/- Rows of numbers of the call's own that are cut at the front and appended to. No condition. -/
import Derived.Test.YtedbidblnjajdaaRowOf
import Derived.ArgAppend
namespace Go.Proofs.Ytedbidblnjajdaa
open Go.RowKit

/-- the slice (A, n, c) owns the numbers l, from wherever in its row -/
def OwnF (w : World) (base : Nat) (e : TypeId) (A : Option Addr) (n c : Nat) (l : List Int) : Prop :=
  n = l.length ∧ ((A = none ∧ n = 0 ∧ c = 0) ∨ ∃ (g off : Nat) (cur : Array Value), A = some ⟨g, off, none⟩ ∧ base ≤ g ∧ w.heap[g]? = some (.cells cur e (0, 0)) ∧ n ≤ c ∧ off + c ≤ cur.size ∧ c ≤ maxLen ∧ (cur.toList.drop off).take n = l.map (Value.int .i64))
section
variable {w w' : World} {base : Nat} {e : TypeId} {n c : Nat} {A : Option Addr} {l : List Int}
theorem OwnF.nil (w : World) (base : Nat) (e : TypeId) : OwnF w base e none 0 0 [] := ⟨rfl, .inl ⟨rfl, rfl, rfl⟩⟩
theorem OwnF.of_own (h : Own w base e 1 A n c (l.map (Value.int .i64))) : OwnF w base e A n c l := by
  refine ⟨by have := h.len; simpa using this.symm, ?_⟩
  rcases h.2 with ⟨h1, h2⟩ | ⟨g, cap, cur, h1, h2, h3, h4, h5, h6, h7⟩
  · simp only [Value.slice.injEq] at h1
    exact .inl ⟨h1.1, h2, h1.2.2⟩
  · simp only [Value.slice.injEq] at h1
    obtain ⟨rfl, _, rfl⟩ := h1
    exact .inr ⟨g, 0, cur, rfl, h2, h3, h4, by omega, h5, by simpa using h7⟩
theorem OwnF.len (h : OwnF w base e A n c l) : n = l.length := h.1
theorem OwnF.cap (h : OwnF w base e A n c l) : n ≤ c := by
  rcases h.2 with ⟨_, h1, h2⟩ | ⟨g, off, cur, _, _, _, h1, _⟩ <;> omega
theorem OwnF.lt (h : OwnF w base e A n c l) : ∀ k, blkOf A = some k → base ≤ k ∧ k < w.heap.size := fun k hk => by
  rcases h.2 with ⟨rfl, _⟩ | ⟨g, off, cur, rfl, h2, h3, _⟩
  · cases hk
  · cases hk
    exact ⟨h2, (Array.getElem?_eq_some_iff.1 h3).1⟩
theorem OwnF.same (h : OwnF w base e A n c l) (hk : ∀ g, blkOf A = some g → w'.heap[g]? = w.heap[g]?) : OwnF w' base e A n c l := by
  refine ⟨h.1, ?_⟩
  rcases h.2 with h2 | ⟨g, off, cur, rfl, h2, h3, h4⟩
  · exact .inl h2
  · exact .inr ⟨g, off, cur, rfl, h2, (hk g rfl).trans h3, h4⟩
theorem OwnF.next (h : OwnF w base e A n c l) (hb : Below w.heap.size w w') : OwnF w' base e A n c l := h.same fun g hg => hb.block g (h.lt g hg).2
theorem OwnF.kept (h : OwnF w base e A n c l) {B B' : Option Addr} (hg : Grew w w' B B') (hne : ∀ k, blkOf A = some k → blkOf B ≠ some k) : OwnF w' base e A n c l :=
  h.same fun g hA => hg.grown.block g (h.lt g hA).2 (fun e => hne g hA e.symm)
theorem OwnF.setCell (h : OwnF w base e A n c l) {p : Addr} (hp : blkOf A ≠ some p.block) (u : Value) : OwnF (w.setCell p u) base e A n c l :=
  h.same fun g hg => Below.heap_setCell w p u g (fun e => hp (e ▸ hg))
theorem OwnF.cell (h : OwnF w base e A n c l) {j : Nat} (hj : j < l.length) : ∃ g off, A = some ⟨g, off, none⟩ ∧ base ≤ g ∧ g < w.heap.size ∧ w.cell? ⟨g, off + j, none⟩ = some (.int .i64 (l.getD j 0)) := by
  have hn := h.1
  rcases h.2 with ⟨_, h1, _⟩ | ⟨g, off, cur, rfl, h2, h3, h4, h5, h6, h7⟩
  · omega
  · refine ⟨g, off, rfl, h2, (Array.getElem?_eq_some_iff.1 h3).1, ?_⟩
    rw [cell_of_row w g (off + j) cur e (0, 0) h3]
    have h8 : ((cur.toList.drop off).take n)[j]? = some (.int .i64 (l.getD j 0)) := by
      rw [h7, List.getElem?_map, List.getElem?_eq_getElem hj, List.getD_eq_getElem?_getD, List.getElem?_eq_getElem hj]; rfl
    rw [List.getElem?_take_of_lt (by omega), List.getElem?_drop] at h8
    simpa using h8
theorem OwnF.tail {x : Int} (h : OwnF w base e A (n + 1) c (x :: l)) : OwnF w base e (cutA A c 1 1) n (c - 1) l := by
  have hn := h.1
  rw [List.length_cons] at hn
  refine ⟨by omega, ?_⟩
  rcases h.2 with ⟨_, h1, _⟩ | ⟨g, off, cur, rfl, h2, h3, h4, h5, h6, h7⟩
  · omega
  · by_cases hc : c = 1
    · subst hc
      obtain rfl : n = 0 := by omega
      obtain rfl : l = [] := List.eq_nil_of_length_eq_zero (by omega)
      exact .inr ⟨g, off, cur, by simp [cutA], h2, h3, by omega, by omega, by omega, by simp⟩
    · refine .inr ⟨g, off + 1, cur, by unfold cutA; rw [if_neg hc]; simp [addr_add], h2, h3, by omega, by omega, by omega, ?_⟩
      rw [← List.drop_drop]
      cases hd : cur.toList.drop off with
      | nil => rw [hd] at h7; simp at h7
      | cons y r =>
        rw [hd, List.take_succ_cons, List.map_cons, List.cons.injEq] at h7
        simpa using h7.2
end

theorem take_set_end (v : Value) : ∀ {D : List Value} {n : Nat}, n < D.length → (D.set n v).take (n + 1) = D.take n ++ [v]
  | [], _, h => by simp at h
  | _ :: _, 0, _ => by simp
  | y :: D, n + 1, h => by
    rw [List.set_cons_succ, List.take_succ_cons, take_set_end v (D := D) (n := n) (by simpa using h), List.take_succ_cons, List.cons_append]

theorem run_appF {P : Program} {t ty e : TypeId} {bytes : Nat} (w : World) (hT : ElemT P t e 1 bytes) (base : Nat) (A : Option Addr) (n c : Nat) (l : List Int) (hown : OwnF w base e A n c l)
    (B : Option Addr) (d : Nat) (x : Int) (hnews : Cells w B [.int .i64 x]) (hroom : (n + 1) * bytes ≤ 140737488355328) (h63 : n + 1 ≤ maxLen) (hbase : base ≤ w.heap.size) :
    ∃ A' c' w', (Builtin.append_ #[t, t] ty #[.slice A n c, .slice B 1 d]).run P w = .ok (.slice A' (n + 1) c') w' ∧ OwnF w' base e A' (n + 1) c' (l ++ [x]) ∧ Grew w w' A A' := by
  rcases hown.2 with ⟨rfl, hn0, hc0⟩ | ⟨g, off, cur, rfl, h2, h3, h4, h5, h6, h7⟩
  · subst hn0; subst hc0
    obtain rfl : l = [] := List.eq_nil_of_length_eq_zero hown.1.symm
    obtain ⟨A', c', w', hr, ho, hg⟩ := run_app (ty := ty) w hT base none 0 0 [] (Own.nil _ _ _ _) B 1 d [.int .i64 x] rfl hnews (by simp [Value.oneCell']) hroom h63 hbase
    exact ⟨A', c', w', hr, OwnF.of_own (l := [x]) ho, hg⟩
  · obtain ⟨i, z, hi, hz, hsize, hby, hzs⟩ := hT.info
    rcases hnews with hnews | ⟨bb, oo, rfl, hnews⟩
    · cases hnews
    have hnews' : ∀ j u, [Value.int .i64 x][j]? = some u → w.cell? ((⟨bb, oo, none⟩ : Addr).add j) = some u := fun j u hu => by rw [addr_add]; exact hnews j u hu
    have hln := hown.1
    by_cases hr : n + 1 ≤ c
    · have hcell : w.cell? ⟨g, off + n, none⟩ = cur[off + n]? := cell_of_row w g (off + n) cur e (0, 0) h3
      have hlt : off + n < cur.size := by omega
      have hrun := run_append_room_cells (P := P) w t ty e i hT.und hi g off n c ⟨bb, oo, none⟩ 1 d [.int .i64 x] (by rw [hsize]; rfl) hnews' (by simp [Value.oneCell']) hr
        (fun j hj => by obtain rfl : j = 0 := by simpa using hj
                        rw [hsize, Nat.mul_one, Nat.add_zero, hcell, Array.getElem?_eq_getElem hlt]; rfl)
        (fun j hj => by simp [World.frozen?, h3])
      rw [hsize, Nat.mul_one] at hrun
      have hset : w.setCells g (off + n) [.int .i64 x] = w.setCell ⟨g, off + n, none⟩ (.int .i64 x) := by simp [World.setCells]
      rw [hset] at hrun
      refine ⟨_, c, _, hrun, ⟨by simp; omega, .inr ⟨g, off, cur.set! (off + n) (.int .i64 x), rfl, h2, heap_setCell_same w g (off + n) _ _ _ h3, hr, by simpa using h5, h6, ?_⟩⟩, ⟨⟨rfl, rfl, rfl, by simp [World.setCell], fun k _ hk => Below.heap_setCell w _ _ k (fun e => hk (by rw [e]; rfl))⟩, .inl rfl⟩⟩
      rw [Array.set!_eq_setIfInBounds, Array.toList_setIfInBounds, List.drop_set, if_neg (by omega), show off + n - off = n by omega, take_set_end _ (by simp; omega), h7, List.map_append]
      rfl
    · have hcells : ∀ j u, (l.map (Value.int .i64))[j]? = some u → w.cell? ((⟨g, off, none⟩ : Addr).add j) = some u := fun j u hu => by
        have hj : j < l.length := by have := (List.getElem?_eq_some_iff.1 hu).1; simpa using this
        obtain ⟨g', off', e1, _, _, hc⟩ := hown.cell hj
        cases e1
        rw [addr_add, hc, ← hu, List.getElem?_map, List.getElem?_eq_getElem hj, List.getD_eq_getElem?_getD, List.getElem?_eq_getElem hj]
        rfl
      have hrun := run_append_grow (P := P) w t ty e i z hT.und hi hz ⟨g, off, none⟩ n c (l.map (Value.int .i64)) (by rw [hsize]; simp; omega) hcells ⟨bb, oo, none⟩ 1 d [.int .i64 x] (by rw [hsize]; rfl) hnews' (by omega) (by unfold maxLen at h63; omega) (by rw [hby]; exact growslice_fits (by omega) hroom)
      have hge := grownCap_ge w (n + 1) c e
      have hcm := grownCap_le_maxLen w (n + 1) c e h63
      have ho : Own (w.drew.alloc (.cells ((l.map (Value.int .i64)).toArray ++ [Value.int .i64 x].toArray ++ Builtin.zeroCells z.cells (grownCap w (n + 1) c e - (n + 1))) e)) base e 1 (some ⟨w.heap.size, 0, none⟩) (n + 1) (grownCap w (n + 1) c e) ((l ++ [x]).map (Value.int .i64)) := by
        have h8 := Own.new w.drew base e 1 (n + 1) (grownCap w (n + 1) c e) ((l ++ [x]).map (Value.int .i64)) ((l.map (Value.int .i64)).toArray ++ [Value.int .i64 x].toArray ++ Builtin.zeroCells z.cells (grownCap w (n + 1) c e - (n + 1))).toList hbase (by simp; omega) (by simp [Builtin.zeroCells, hzs]; omega) hge hcm (by
          rw [Nat.mul_one]
          simp only [Array.toList_append, List.map_append]
          exact List.take_left' (by simp; omega))
        rw [Array.toArray_toList] at h8
        exact h8
      exact ⟨_, _, _, hrun, OwnF.of_own ho, ⟨⟨rfl, rfl, rfl, by simp, fun k hk _ => Below.heap_alloc w.drew _ k hk⟩, .inr ⟨_, Nat.le_refl _, rfl⟩⟩⟩
theorem wp_appF {P : Program} (w : World) {ops : Array Oper} {rest : List Oper} {o : Oper} {a : Act} {Q : Exit → Act → World → Prop} (hgd : o.guard = none) (s x : Operand) (t : TypeId)
    (ho : o.op = .call { callee := .builtin .append, args := #[s, x], argTypes := #[t, t] }) {e : TypeId} {bytes : Nat} (hT : ElemT P t e 1 bytes) (base : Nat) (A : Option Addr) (n c : Nat) (l : List Int) (hs : a.eval s = .slice A n c) (hown : OwnF w base e A n c l)
    (B : Option Addr) (d : Nat) (v : Int) (hx : a.eval x = .slice B 1 d) (hnews : Cells w B [.int .i64 v]) (hroom : (n + 1) * bytes ≤ 140737488355328) (h63 : n + 1 ≤ maxLen) (hbase : base ≤ w.heap.size)
    (h : ∀ A' c' w', OwnF w' base e A' (n + 1) c' (l ++ [v]) → Grew w w' A A' → wpList P ops Q rest (a.put o.dst (.slice A' (n + 1) c')) w') : wpList P ops Q (o :: rest) a w :=
  wpList_plain hgd fun K hK => by
    obtain ⟨A', c', w', hr, h2, h3⟩ := run_appF (P := P) (ty := o.type) w hT base A n c l hown B d v hnews hroom h63 hbase
    unfold Oper.wp execOp
    simp only [ho, resolve, invoke, builtin, Sem.run_bind, Sem.run_pure, Result.andThen_ok, List.map_toArray, List.map_cons, List.map_nil, hs, hx, hr]
    exact hK _ _ (h A' c' w' h2 h3)
theorem step_appF {P : Program} (w : World) {ops : Array Oper} {o : Oper} {a : Act} {K : Act → World → Prop} {Q : Exit → Act → World → Prop} {E : Prop} (hgd : o.guard = none) (s x : Operand) (t : TypeId)
    (ho : o.op = .call { callee := .builtin .append, args := #[s, x], argTypes := #[t, t] }) {e : TypeId} {bytes : Nat} (hT : ElemT P t e 1 bytes) (base : Nat) (A : Option Addr) (n c : Nat) (l : List Int) (hs : a.eval s = .slice A n c) (hown : OwnF w base e A n c l)
    (B : Option Addr) (d : Nat) (v : Int) (hx : a.eval x = .slice B 1 d) (hnews : Cells w B [.int .i64 v]) (hroom : (n + 1) * bytes ≤ 140737488355328) (h63 : n + 1 ≤ maxLen) (hbase : base ≤ w.heap.size)
    (h : ∀ A' c' w', OwnF w' base e A' (n + 1) c' (l ++ [v]) → Grew w w' A A' → K (a.put o.dst (.slice A' (n + 1) c')) w') :
    if Region.wanted o (yielded ops a.tmps) = true then Oper.wp P o a w K Q else E := by
  have hw : Region.wanted o (yielded ops a.tmps) = true := by simp [Region.wanted, hgd]
  rw [if_pos hw]
  obtain ⟨A', c', w', hr, h2, h3⟩ := run_appF (P := P) (ty := o.type) w hT base A n c l hown B d v hnews hroom h63 hbase
  unfold Oper.wp execOp
  simp only [ho, resolve, invoke, builtin, Sem.run_bind, Sem.run_pure, Result.andThen_ok, List.map_toArray, List.map_cons, List.map_nil, hs, hx, hr]
  exact h A' c' w' h2 h3
end Go.Proofs.Ytedbidblnjajdaa
