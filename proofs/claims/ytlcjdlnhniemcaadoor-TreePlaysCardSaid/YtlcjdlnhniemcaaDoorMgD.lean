/- Texts in one: Long, Make, Appz, CopyF. No condition. -/
import Derived.Test.YtlcjdlnhniemcaaDoorMgA
import Derived.Deep.MidRow
import Derived.Great.BuildSlice
import Derived.Lib.AppendZerosOnto
import Derived.Laws.CopyOwn
section
namespace Go.Proofs.YtlcjdlnhniemcaaDoor
open Go.RowKit

section
variable {P : Program}
theorem run_new (w : World) (t : TypeId) (z : Value) (hz : ((P.info? t).bind (·.zero)) = some z) : (Instr.alloc t true (.tuple #[])).run P w = .ok (.pointer (some ⟨w.heap.size, 0, none⟩)) (w.alloc (.cells z.cells t)) := by
  cases hi : P.info? t with
  | none => simp [hi] at hz
  | some i =>
    simp only [hi, Option.bind_some] at hz
    simp [Instr.alloc, zeroValue, typeInfo, hi, hz, newVar, newRow]
theorem wpList_new {ops : Array Oper} {rest : List Oper} {o : Oper} {a : Act} {w : World} {Q : Exit → Act → World → Prop} (hg : o.guard = none) (t : TypeId) (ho : o.op = .alloc t) (cs : List Value) (hz : ((P.info? t).bind (·.zero)).map (·.cells.toList) = some cs)
    (h : wpList P ops Q rest (a.put o.dst (.pointer (some ⟨w.heap.size, 0, none⟩))) (w.alloc (.cells cs.toArray t))) : wpList P ops Q (o :: rest) a w := by
  cases hzz : (P.info? t).bind (·.zero) with
  | none => rw [hzz] at hz; cases hz
  | some z =>
    rw [hzz] at hz
    simp only [Option.map_some, Option.some.injEq] at hz
    subst hz
    refine wpList_plain hg fun _ hK => ?_
    unfold Oper.wp execOp
    simp only [ho, Sem.run_bind, run_new w t z hzz, Result.andThen_ok]
    exact hK _ _ (by simpa using h)
theorem wpList_buildAs {ops : Array Oper} {rest : List Oper} {o : Oper} {a : Act} {w : World} {Q : Exit → Act → World → Prop} (hg : o.guard = none) (t : TypeId) (parts : List (Nat × Operand)) (ho : o.op = .build t parts.toArray)
    (cs : List Value) (hf : (P.built t (parts.map fun x => (x.1, a.eval x.2))).map (·.toList) = some cs)
    (h : wpList P ops Q rest (a.put o.dst (.agg cs.toArray)) w) : wpList P ops Q (o :: rest) a w := by
  cases hb : P.built t (parts.map fun x => (x.1, a.eval x.2)) with
  | none => rw [hb] at hf; cases hf
  | some c =>
    rw [hb] at hf
    simp only [Option.map_some, Option.some.injEq] at hf
    subst hf
    refine wpList_plain hg fun _ hK => ?_
    unfold Oper.wp execOp
    simp only [ho, Sem.run_bind, List.map_toArray]
    rw [run_build w t _ c (by simpa using hb)]
    simp only [Result.andThen_ok]
    exact hK _ _ (by simpa using h)
theorem foldl_set : ∀ (l : List Value) (k : Nat) (acc : Array Value), acc.size = k + l.length → (l.zipIdx k).foldl (fun a x => a.setIfInBounds x.2 x.1) acc = (acc.toList.take k ++ l).toArray
  | [], k, acc, h => by
    simp only [List.zipIdx_nil, List.foldl_nil, List.append_nil]
    rw [List.take_of_length_le (by simp at h ⊢; omega)]
  | x :: r, k, acc, h => by
    rw [List.length_cons] at h
    rw [List.zipIdx_cons, List.foldl_cons, foldl_set r (k + 1) _ (by simp only [Array.size_setIfInBounds]; omega)]
    congr 1
    rw [Array.toList_setIfInBounds, List.take_add_one, List.take_set_of_le (Nat.le_refl _), List.getElem?_set_self (by simp; omega)]
    simp
/-- a slice of one struct -/
theorem fill_one (size : Nat) (z : Array Value) (cs : List Value) (hz : z.size = size) (hc : cs.length = size) : Instr.fill (fun i => some (i * size, size)) ((Array.range (1 * size)).map (z[· % z.size]!)) [(0, .agg cs.toArray)] = some cs.toArray := by
  have h1 : ((Array.range (1 * size)).map (z[· % z.size]!)) = z := by
    apply Array.ext
    · simp [hz]
    · intro i h1 h2
      simp only [Array.getElem_map, Array.getElem_range]
      rw [Nat.mod_eq_of_lt h2]
      simp [h2]
  rw [h1]
  have h2 := foldl_set cs 0 z (by omega)
  simp only [List.take_zero, List.nil_append] at h2
  simp only [Instr.fill, Value.cells, List.size_toArray, hc, hz, Nat.zero_mul, Nat.zero_add, ne_eq, not_true_eq_false, decide_false, Bool.false_or, gt_iff_lt, Nat.lt_irrefl, Bool.false_eq_true, if_false]
  refine congrArg some (Eq.trans ?_ h2)
  rw [← Array.foldl_toList, Array.toList_zipIdx]
theorem wpList_buildOne {ops : Array Oper} {rest : List Oper} {o : Oper} {a : Act} {w : World} {Q : Exit → Act → World → Prop} (hg : o.guard = none) (t e : TypeId) (x : Operand) (ho : o.op = .buildSlice t 1 #[(0, x)]) {size bytes : Nat} (hT : ElemT P t e size bytes) (hs : size ≤ 1000)
    (cs : List Value) (hc : cs.length = size) (hx : a.eval x = .agg cs.toArray)
    (h : wpList P ops Q rest (a.put o.dst (.slice (some ⟨w.heap.size, 0, none⟩) 1 1)) (w.alloc (.cells cs.toArray e))) : wpList P ops Q (o :: rest) a w := by
  obtain ⟨i, z, hi, hz, hsize, hby, hzs⟩ := hT.info
  have hpos := hT.pos
  refine wpList_buildSlice hg t e 1 _ ho cs.toArray i z hT.und hi hz (by rw [hsize]; omega) (by rw [hsize]; omega) ?_ h
  rw [hsize]
  simp only [List.map_toArray, List.map_cons, List.map_nil, hx]
  exact fill_one size _ cs hzs hc
/-- results, one of them in memory -/
theorem results_one {fn : Func} {a t : Nat} {tmps : Array Value} {w : World} (hr : fn.results = #[.cell a t]) (b : Nat) (cs : List Value) (d : TypeDesc) (ha : tmps.getD a undef = .pointer (some ⟨b, 0, none⟩)) (hc : w.rangeAt b 0 cs)
    (hu : P.underlying t = some d) (hd : d.isRow = true) (hi : (P.info? t).map (·.size) = some cs.length) : (results fn tmps).run P w = .ok (.agg cs.toArray) w := by
  have ha' : tmps[a]?.getD undef = .pointer (some ⟨b, 0, none⟩) := by simpa using ha
  simp [results, hr, ha', asAddr, run_loadVar_mid w b 0 t cs d hc hu hd hi]
theorem results_three {fn : Func} {a t r s : Nat} {tmps : Array Value} {w : World} (hr : fn.results = #[.cell a t, .tmp r, .tmp s]) (b : Nat) (cs : List Value) (d : TypeDesc) (ha : tmps.getD a undef = .pointer (some ⟨b, 0, none⟩)) (hc : w.rangeAt b 0 cs)
    (hu : P.underlying t = some d) (hd : d.isRow = true) (hi : (P.info? t).map (·.size) = some cs.length) (v1 v2 : Value) (h1 : tmps.getD r undef = v1) (h2 : tmps.getD s undef = v2) : (results fn tmps).run P w = .ok (.tuple #[.agg cs.toArray, v1, v2]) w := by
  have ha' : tmps[a]?.getD undef = .pointer (some ⟨b, 0, none⟩) := by simpa using ha
  have h1' : tmps[r]?.getD undef = v1 := by simpa using h1
  have h2' : tmps[s]?.getD undef = v2 := by simpa using h2
  simp [results, hr, ha', asAddr, run_loadVar_mid w b 0 t cs d hc hu hd hi, h1', h2']
end

/-! ### Ranges -/
theorem set_other {w : World} {a b : Addr} (v : Value) (h : a ≠ b) : (w.setCell a v).cell? b = w.cell? b := by
  first
    | exact World.cell?_setCell_other w v h
    | exact World.cell?_setCell_other w a b v h
    | exact World.cell?_setCell_other w a v h
    | exact World.cell?_setCell_other _ _ _ h
theorem rangeAt_new (w : World) (cs : List Value) (t : TypeId) : (w.alloc (.cells cs.toArray t)).rangeAt w.heap.size 0 cs := fun j v hj => by
  rw [Nat.zero_add, World.cell?_alloc_new]
  simpa using hj
theorem there_new (w : World) (cs : List Value) (t : TypeId) : (w.alloc (.cells cs.toArray t)).there w.heap.size 0 cs.length := fun j hj => by
  rw [Nat.zero_add]
  refine ⟨?_, by simp [go_sem]⟩
  rw [World.cell?_alloc_new]
  simp [hj]
theorem rangeAt_set {w : World} {b : Nat} {cs : List Value} (h : w.rangeAt b 0 cs) (i : Nat) (v : Value) : (w.setCell ⟨b, i, none⟩ v).rangeAt b 0 (cs.set i v) := fun j u hj => by
  rw [List.getElem?_set] at hj
  rw [Nat.zero_add]
  by_cases e : i = j
  · subst e
    rw [if_pos rfl] at hj
    split at hj
    · rename_i hl
      cases hj
      have h1 := h i _ (List.getElem?_eq_getElem hl)
      rw [Nat.zero_add] at h1
      exact World.cell?_setCell_same' w _ v (by rw [h1]; rfl)
    · cases hj
  · rw [if_neg e] at hj
    rw [set_other v (by intro h2; cases h2; exact e rfl)]
    have := h j u hj
    rwa [Nat.zero_add] at this
theorem there_set {w : World} {b n : Nat} (h : w.there b 0 n) (p : Addr) (v : Value) : (w.setCell p v).there b 0 n := fun j hj => by
  obtain ⟨h1, h2⟩ := h j hj
  exact ⟨by rw [isSome_setCell]; exact h1, by rw [World.frozen?_setCell]; exact h2⟩
theorem rangeAt_block {w w' : World} {b o : Nat} {cs : List Value} (h : w.rangeAt b o cs) (hb : w'.heap[b]? = w.heap[b]?) : w'.rangeAt b o cs := fun j v hj => (World.cell?_of_block hb).trans (h j v hj)
theorem there_block {w w' : World} {b o n : Nat} (h : w.there b o n) (hb : w'.heap[b]? = w.heap[b]?) : w'.there b o n := fun j hj => by
  obtain ⟨h1, h2⟩ := h j hj
  exact ⟨by rw [World.cell?_of_block (a := ⟨b, o + j, none⟩) hb]; exact h1, (World.frozen?_of_block (a := ⟨b, o + j, none⟩) hb).trans h2⟩
theorem below_setCells {B : Nat} {a : World} {b : Nat} (hb : B ≤ b) : ∀ (vs : List Value) (o : Nat) {w : World}, Below B a w → Below B a (w.setCells b o vs)
  | [], _, _, h => h
  | v :: vs, o, w, h => below_setCells hb vs (o + 1) (h.setCell (p := ⟨b, o, none⟩) hb v)
end Go.Proofs.YtlcjdlnhniemcaaDoor
end
section
namespace Go.Proofs.YtlcjdlnhniemcaaDoor
open Go.RowKit

theorem make_row {P : Program} {t e : TypeId} {i : TypeInfo} {z : Value} (ht : P.underlying t = some (.slice e)) (hi : P.info? e = some i) (hz : i.zero = some z) (hs : i.size = 1) (hzc : z.cells = #[z]) (n : Nat) (m : Int) (hm : m = (n : Int)) (hby : i.bytes * n ≤ 281474976710656) (h63 : n ≤ 9223372036854775807) (W : World) :
    (Instr.makeSlice t (.int .i64 m) (.int .i64 m)).run P W = .ok (.slice (some ⟨W.heap.size, 0, none⟩) n n) (W.alloc (.cells (List.replicate n z).toArray e)) := by
  subst hm
  have hb : (i.bytes : Int) * (n : Int) ≤ 281474976710656 := by
    have h : ((i.bytes * n : Nat) : Int) ≤ 281474976710656 := by omega
    rwa [Int.natCast_mul] at h
  have h := run_make (P := P) W t e i z ht hi hz .i64 .i64 (n : Int) (n : Int) (by omega) (Int.le_refl _) hb (by omega)
  simp only [Int.toNat_natCast, hs, Nat.mul_one, hzc] at h
  rw [h, ← toList_madeCells_one, Array.toArray_toList]
end Go.Proofs.YtlcjdlnhniemcaaDoor
end
section
namespace Go.Proofs.YtlcjdlnhniemcaaDoor
open Go.RowKit

theorem zeroCells_one (z : Value) (hz : z.cells = #[z]) (n : Nat) : Builtin.zeroCells z.cells n = (List.replicate n z).toArray := by
  unfold Builtin.zeroCells
  rw [hz]
  apply Array.ext'
  simp only [List.size_toArray, List.length_singleton, Nat.mul_one, Array.toList_map, Array.toList_range]
  apply List.ext_getElem?
  intro i
  rw [List.getElem?_map]
  by_cases h : i < n
  · rw [List.getElem?_range h, List.getElem?_replicate, if_pos h]
    simp [Nat.mod_one]
  · rw [List.getElem?_eq_none (by simpa using h), List.getElem?_eq_none (by simpa using h)]
    rfl
section
variable {w : World} {base g : Nat} {e : TypeId} {n c : Nat} {xs : List Value}
/-- cells stored right behind what is owned are owned then -/
theorem Own.ext {size : Nat} (h : Own w base e size (Option.some ⟨g, 0, none⟩) n c xs) {vs : List Value} {k : Nat} (hv : vs.length = k * size) (hc : n + k ≤ c) : Own (w.setCells g (n * size) vs) base e size (Option.some ⟨g, 0, none⟩) (n + k) c (xs ++ vs) := by
  have hl := h.len
  refine ⟨by rw [List.length_append, hl, hv, Nat.add_mul], .inr ?_⟩
  rcases h.2 with ⟨h1, _⟩ | ⟨g', cap, cur, h1, h2, h3, h4, h5, h6, h7⟩
  · simp at h1
  · simp only [Value.slice.injEq, Option.some.injEq, Addr.mk.injEq, and_true] at h1
    obtain ⟨rfl, _, rfl⟩ := h1
    have hq : n * size + vs.length ≤ cur.toList.length := by
      have h9 : cur.toList.length = cur.size := Array.length_toList
      rw [h9, h6, hv, ← Nat.add_mul]; exact Nat.mul_le_mul_right _ hc
    refine ⟨g, c, (overl cur.toList (n * size) vs).toArray, rfl, h2, heap_setCells_same g e vs (n * size) w cur h3, hc, h5, ?_, ?_⟩
    · have h8 := overl_len vs cur.toList (n * size)
      simp only [List.size_toArray]
      rw [h8]
      simpa using h6
    · show (overl cur.toList (n * size) vs).take ((n + k) * size) = _
      rw [Nat.add_mul, ← hv, overl_take2 hq, h7]
end
theorem run_appz {P : Program} (w : World) {t tn e : TypeId} (ty : TypeId) {z : Value} {bytes : Nat} (hT : ElemT P t e 1 bytes) (hz : (P.info? e).map (·.zero) = some (some z)) (hzc : z.cells = #[z]) (hz1 : z.oneCell' = true) {kn : IntKind} (htn : P.underlying tn = some (.int kn)) (base : Nat) (A : Option Addr) (n c : Nat) (xs : List Value) (hown : Own w base e 1 A n c xs) (k : Nat) (h0 : 0 < k)
    (hroom : (n + k) * bytes ≤ 140737488355328) (h63 : n + k ≤ 9223372036854775807) (hbase : base ≤ w.heap.size) :
    ∃ A' c' w', (Builtin.append_ #[t, tn] ty #[.slice A n c, .int .i64 k]).run P w = .ok (.slice A' (n + k) c') w' ∧ Own w' base e 1 A' (n + k) c' (xs ++ List.replicate k z) ∧ Grew w w' A A' := by
  obtain ⟨i, z', hi, hzz, hsize, hby, hzs⟩ := hT.info
  have hz' : i.zero = some z := by rw [hi] at hz; simpa using hz
  have hlen := hown.len
  have hcap := hown.cap
  have h48 : k * i.bytes ≤ 281474976710656 := by rw [hby]; have := Nat.mul_le_mul_right bytes (show k ≤ n + k by omega); omega
  by_cases hr : n + k ≤ c
  · rcases hown.2 with ⟨h1, _⟩ | ⟨g, cap, cur, h1, h2, h3, h4, h5, h6, h7⟩
    · simp only [Value.slice.injEq] at h1; omega
    · simp only [Value.slice.injEq] at h1
      obtain ⟨rfl, _, rfl⟩ := h1
      have hx := hown.ext (vs := List.replicate k z) (k := k) (by simp) hr
      have hcur : cur.size = c * 1 := h6
      have hst := run_storeCells_at P g n e (List.replicate k z) 0 cur w h3 (by simp; omega) (fun u hu => by rw [(List.mem_replicate.1 hu).2]; exact hz1)
      have hst2 := run_storeCells_cells (P := P) g n (List.replicate k z) 0 w (fun j hj => by
        rw [cell_of_row w g _ cur e (0, 0) h3]
        simp only [List.length_replicate] at hj
        rw [Array.getElem?_eq_getElem (by omega)]; rfl) (fun j hj => by simp [World.frozen?, h3]) (fun u hu => by rw [(List.mem_replicate.1 hu).2]; exact hz1)
      simp only [Nat.add_zero] at hst2
      refine ⟨some ⟨g, 0, none⟩, c, w.setCells g n (List.replicate k z), ?_, by simpa using hx, ?_⟩
      · have hk : k ≠ 0 := by omega
        have hw : IntKind.i64.wrap (k : Int) = k := by rw [IntKind.wrap_i64]; omega
        have hneg : ¬ ((k : Int) < 0) := by omega
        have h48i : ¬ (281474976710656 < (k : Int) * (i.bytes : Int)) := by rw [← Int.natCast_mul]; omega
        have hzl := zeroCells_one z hzc k
        simp [Builtin.append_, run_underlying hT.und, run_underlying htn, sizeOf, typeInfo, zeroValue, hi, hz', asInt, asIntOf, hw, hneg, h48i, hsize, hk, hr, hzl, addr_add, hst2]
      · obtain ⟨k1, k2, k3, k4, k5⟩ := keep_setCells g (List.replicate k z) n w
        exact ⟨⟨k2, k3, k4, Nat.le_of_eq k1.symm, fun j _ hj => k5 j (fun e => hj (by rw [e]; rfl))⟩, .inl rfl⟩
  · have hfit : Builtin.nextslicecap (n + k) c * i.bytes ≤ 281474976710656 := growslice_fits (by omega) (by rw [hby]; exact hroom)
    have hold : (Builtin.firstCells i.size n (.slice A n c)).run P w.drew = .ok xs.toArray w.drew := by
      rcases hown.2 with ⟨h1, hn0⟩ | ⟨g, cap, cur, h1, h2, h3, h4, h5, h6, h7⟩
      · simp only [Value.slice.injEq] at h1
        obtain ⟨rfl, rfl, rfl⟩ := h1
        have hx0 : xs = [] := List.eq_nil_of_length_eq_zero (by simpa using hlen)
        subst hx0
        exact run_firstCells_none w.drew i.size 0 0 0
      · simp only [Value.slice.injEq] at h1
        obtain ⟨rfl, _, rfl⟩ := h1
        refine run_firstCells_some w.drew i.size n ⟨g, 0, none⟩ n c xs (by rw [hlen, hsize]) (fun j u hu => ?_)
        obtain ⟨g', e1, _, _, hc⟩ := hown.cell hu
        simp only [Option.some.injEq, Addr.mk.injEq, and_true] at e1
        subst e1
        rw [addr_add, Nat.zero_add]
        exact hc
    have hrun := Lib.run_append_grow_zeros (P := P) w t tn ty e i z .i64 kn hT.und htn hi hz' A n c xs hold k h0 (by omega) (by omega) (by omega) h48 hfit
    have hge := grownCap_ge w (n + k) c e
    have hcm : grownCap w (n + k) c e ≤ maxLen := grownCap_le_maxLen w (n + k) c e (by unfold maxLen; omega)
    rw [zeroCells_one z hzc, zeroCells_one z hzc, List.append_toArray, List.append_toArray] at hrun
    refine ⟨_, _, _, hrun, ?_, ?_⟩
    · have h := Own.new w.drew base e 1 (n + k) (grownCap w (n + k) c e) (xs ++ List.replicate k z) (xs ++ List.replicate k z ++ List.replicate (grownCap w (n + k) c e - (n + k)) z) (by simpa using hbase) (by simp; omega) (by simp; omega) hge hcm (by rw [List.take_append_of_le_length (by simp; omega), List.take_of_length_le (by simp; omega)])
      exact h
    · exact ⟨⟨rfl, rfl, rfl, by simp, fun j hj _ => Below.heap_alloc w.drew _ j hj⟩, .inr ⟨w.heap.size, Nat.le_refl _, rfl⟩⟩

theorem wp_appz {P : Program} (w : World) {ops : Array Oper} {rest : List Oper} {o : Oper} {a : Act} {Q : Exit → Act → World → Prop} (hgd : o.guard = none) (s x : Operand) (t tn : TypeId)
    (ho : o.op = .call { callee := .builtin .append, args := #[s, x], argTypes := #[t, tn] }) {e : TypeId} {z : Value} {bytes : Nat} (hT : ElemT P t e 1 bytes) (hz : (P.info? e).map (·.zero) = some (some z)) (hzc : z.cells = #[z]) (hz1 : z.oneCell' = true) {kn : IntKind} (htn : P.underlying tn = some (.int kn)) (base : Nat) (A : Option Addr) (n c : Nat) (xs : List Value) (hs : a.eval s = .slice A n c) (hown : Own w base e 1 A n c xs) (k : Nat) (i : Int) (hx : a.eval x = .int .i64 i) (hi : i = k) (h0 : 0 < k)
    (hroom : (n + k) * bytes ≤ 140737488355328) (h63 : n + k ≤ 9223372036854775807) (hbase : base ≤ w.heap.size)
    (h : ∀ A' c' w', Own w' base e 1 A' (n + k) c' (xs ++ List.replicate k z) → Grew w w' A A' → wpList P ops Q rest (a.put o.dst (.slice A' (n + k) c')) w') : wpList P ops Q (o :: rest) a w := by
  subst hi
  obtain ⟨A', c', w', hr, h2, h3⟩ := run_appz (P := P) w o.type hT hz hzc hz1 htn base A n c xs hown k h0 hroom h63 hbase
  exact wp_run w hgd s x t tn ho hs hx hr (h A' c' w' h2 h3)

/-- bytes copied into a row of one's own, as a step of a region that draws -/
theorem step_copy {P : Program} {ops : Array Oper} {o : Oper} {a : Act} {w : World} {K : Act → World → Prop} {Q : Exit → Act → World → Prop} {E : Prop} (hgd : o.guard = none) (d s : Operand) (dT sT : TypeId)
    (ho : o.op = .call { callee := .builtin .copy, args := #[d, s], argTypes := #[dT, sT] }) {elem : TypeId} {bytes : Nat} (hT : ElemT P dT elem 1 bytes)
    (base : Nat) (A : Option Addr) (n c : Nat) (xs : List Value) (hown : Own w base elem 1 A n c xs) (off dLen dCap sLen sCap : Nat) (sp : Option Addr) (hd : a.eval d = .slice (cutA A c off 1) dLen dCap) (hs : a.eval s = .slice sp sLen sCap)
    (hoff : off ≤ n) (hdl : dLen = n - off) (cs : List Value) (hcs : cs.length = sLen) (hle : sLen ≤ dLen) (hsrc : Cells w sp cs) (h1 : ∀ v ∈ cs, v.oneCell' = true)
    (h : ∀ w', Own w' base elem 1 A n c (xs.take off ++ cs ++ xs.drop (off + cs.length)) → Grew w w' A A → K (a.put o.dst (goInt cs.length)) w') :
    if Region.wanted o (yielded ops a.tmps) = true then Oper.wp P o a w K Q else E := by
  have hw : Region.wanted o (yielded ops a.tmps) = true := by simp [Region.wanted, hgd]
  rw [if_pos hw]
  obtain ⟨i, z, hi, hzz, hsize, hby, hzs⟩ := hT.info
  have hsz : (P.info? elem).map (·.size) = some 1 := by rw [hi]; simp [hsize]
  have hlen := hown.len
  by_cases h0 : cs.length = 0
  · obtain rfl : cs = [] := List.eq_nil_of_length_eq_zero h0
    have hs0 : sLen = 0 := by simpa using hcs.symm
    have hrun := run_copy_none (P := P) w dT sT o.type elem (cutA A c off 1) sp dLen dCap sLen sCap hT.und hsz (by rw [hs0]; exact Nat.zero_min _)
    unfold Oper.wp
    simp [execOp, ho, resolve, invoke, builtin, hd, hs, hrun, Result.andThen]
    exact h w (by simpa using hown) (Grew.refl w A)
  · rcases hsrc with rfl | ⟨b2, o2, rfl, hc2⟩
    · simp at h0
    rcases hown.2 with ⟨k1, _⟩ | ⟨g, cap, cur, k1, k2, k3, k4, k5, k6, k7⟩
    · simp only [Value.slice.injEq] at k1; omega
    · simp only [Value.slice.injEq] at k1
      obtain ⟨rfl, _, rfl⟩ := k1
      have hcut : cutA (some ⟨g, 0, none⟩) c off 1 = some ⟨g, off, none⟩ := by unfold cutA; rw [if_neg (by omega)]; simp [addr_add]
      rw [hcut] at hd
      have hsize2 : cur.size = c := by rw [k6, Nat.mul_one]
      have hq : off + cs.length ≤ cur.toList.length := by
        have h9 : cur.toList.length = cur.size := Array.length_toList
        rw [h9, hsize2, hcs]
        omega
      have hrun := run_copy_cells (P := P) w dT sT o.type elem g off dLen dCap ⟨b2, o2, none⟩ sLen sCap cs hT.und hsz (by show cs.length = min sLen dLen; rw [Nat.min_eq_left hle]; exact hcs) (fun j v hv => by rw [addr_add]; exact hc2 j v hv)
        (fun j hj => by rw [cell_of_row w g _ cur elem (0, 0) k3, Array.getElem?_eq_getElem (by omega)]; rfl) (fun j hj => by simp [World.frozen?, k3]) h1
      unfold Oper.wp
      simp [execOp, ho, resolve, invoke, builtin, hd, hs, hrun, Result.andThen]
      obtain ⟨q1, q2, q3, q4, q5⟩ := keep_setCells g cs off w
      refine h _ ?_ ⟨⟨q2, q3, q4, Nat.le_of_eq q1.symm, fun j _ hj => q5 j (fun e => hj (by rw [e]; rfl))⟩, .inl rfl⟩
      refine ⟨by rw [List.length_append, List.length_append, List.length_take, List.length_drop]; omega, .inr ⟨g, c, (overl cur.toList off cs).toArray, rfl, k2, heap_setCells_same g elem cs off w cur k3, k4, k5, ?_, ?_⟩⟩
      · have := overl_len cs cur.toList off
        simp only [List.size_toArray]
        rw [this]; simpa using k6
      · show (overl cur.toList off cs).take (n * 1) = _
        rw [Nat.mul_one] at k7 ⊢
        rw [← k7]
        apply List.ext_getElem?
        intro j
        rw [List.getElem?_take, overl_get _ _ _ _ hq]
        have hl1 : ((cur.toList.take n).take off).length = off := by rw [List.length_take, List.length_take, Array.length_toList]; omega
        by_cases j1 : j < off
        · rw [if_pos (by omega), if_neg (by omega), List.append_assoc, List.getElem?_append_left (by omega), List.getElem?_take, if_pos j1, List.getElem?_take, if_pos (by omega)]
        · by_cases j2 : j < off + cs.length
          · rw [if_pos (by omega), if_pos (by omega), List.append_assoc, List.getElem?_append_right (by omega), hl1, List.getElem?_append_left (by omega)]
          · rw [if_neg (by omega : ¬ (off ≤ j ∧ j < off + cs.length)), List.append_assoc, List.getElem?_append_right (by omega), hl1, List.getElem?_append_right (by omega), List.getElem?_drop, List.getElem?_take]
            rw [show off + cs.length + (j - off - cs.length) = j by omega]
            try rfl
end Go.Proofs.YtlcjdlnhniemcaaDoor
end
section
namespace Go.Proofs.YtlcjdlnhniemcaaDoor
open Go.RowKit
set_option linter.unusedSimpArgs false

/-- a row copied to the front of a row of the call's own -/
theorem run_copyF {P : Program} (w : World) (dT sT ty : TypeId) {elem : TypeId} {bytes : Nat} (hT : ElemT P dT elem 1 bytes)
    (base g n c : Nat) (xs : List Value) (hown : Own w base elem 1 (some ⟨g, 0, none⟩) n c xs) (sp : Option Addr) (sLen sCap : Nat)
    (cs : List Value) (hcs : cs.length = min sLen n) (hsrc : Cells w sp cs) (h1 : ∀ v ∈ cs, v.oneCell' = true) :
    ∃ w', (Builtin.copy_ #[dT, sT] ty #[.slice (some ⟨g, 0, none⟩) n c, .slice sp sLen sCap]).run P w = .ok (goInt cs.length) w' ∧ Own w' base elem 1 (some ⟨g, 0, none⟩) n c (cs ++ xs.drop cs.length) ∧ Grew w w' (some ⟨g, 0, none⟩) (some ⟨g, 0, none⟩) := by
  obtain ⟨i, z, hi, hzz, hsize, hby, hzs⟩ := hT.info
  have hsz : (P.info? elem).map (·.size) = some 1 := by rw [hi]; simp [hsize]
  have hlen := hown.len
  by_cases h0 : cs.length = 0
  · obtain rfl : cs = [] := List.eq_nil_of_length_eq_zero h0
    have hs0 : min sLen n = 0 := by simpa using hcs.symm
    exact ⟨w, run_copy_none (P := P) w dT sT ty elem (some ⟨g, 0, none⟩) sp n c sLen sCap hT.und hsz hs0, by simpa using hown, Grew.refl w _⟩
  · rcases hsrc with rfl | ⟨b2, o2, rfl, hc2⟩
    · simp at h0
    rcases hown.2 with ⟨k1, _⟩ | ⟨g', cap, cur, k1, k2, k3, k4, k5, k6, k7⟩
    · simp only [Value.slice.injEq] at k1
      cases k1.1
    · simp only [Value.slice.injEq, Option.some.injEq, Addr.mk.injEq, and_true] at k1
      obtain ⟨rfl, _, rfl⟩ := k1
      have hsize2 : cur.size = c := by rw [k6, Nat.mul_one]
      have hq : 0 + cs.length ≤ cur.toList.length := by
        have h9 : cur.toList.length = cur.size := Array.length_toList
        rw [h9, hsize2, hcs]
        have := Nat.min_le_right sLen n
        omega
      have hrun := run_copy_cells (P := P) w dT sT ty elem g 0 n c ⟨b2, o2, none⟩ sLen sCap cs hT.und hsz hcs (fun j v hv => by rw [addr_add]; exact hc2 j v hv)
        (fun j hj => by rw [cell_of_row w g _ cur elem (0, 0) k3, Array.getElem?_eq_getElem (by omega)]; rfl) (fun j hj => by simp [World.frozen?, k3]) h1
      obtain ⟨q1, q2, q3, q4, q5⟩ := keep_setCells g cs 0 w
      refine ⟨_, hrun, ?_, ⟨⟨q2, q3, q4, Nat.le_of_eq q1.symm, fun j _ hj => q5 j (fun e => hj (by rw [e]; rfl))⟩, .inl rfl⟩⟩
      refine ⟨by rw [List.length_append, List.length_drop]; have := Nat.min_le_right sLen n; omega, .inr ⟨g, c, (overl cur.toList 0 cs).toArray, rfl, k2, heap_setCells_same g elem cs 0 w cur k3, k4, k5, ?_, ?_⟩⟩
      · have := overl_len cs cur.toList 0
        simp only [List.size_toArray]
        rw [this]; simpa using k6
      · show (overl cur.toList 0 cs).take (n * 1) = _
        rw [Nat.mul_one] at k7 ⊢
        rw [← k7]
        apply List.ext_getElem?
        intro j
        rw [List.getElem?_take, overl_get _ _ _ _ hq]
        by_cases j2 : j < cs.length
        · rw [if_pos (by omega), if_pos (by omega), List.getElem?_append_left (by omega)]
          rfl
        · rw [if_neg (by omega : ¬ (0 ≤ j ∧ j < 0 + cs.length)), List.getElem?_append_right (by omega), List.getElem?_drop, List.getElem?_take, show cs.length + (j - cs.length) = j by omega]
end Go.Proofs.YtlcjdlnhniemcaaDoor
end
