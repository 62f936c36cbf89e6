/- Structs of many cells: made, read, written, handed back, as one range. No condition. -/
import Derived.Test.YtkbmpppendelcaaPrB
import Derived.Deep.MidRow
import Derived.Great.BuildSlice
namespace Go.Proofs.Ytkbmpppendelcaa
open Go.RowKit

section
variable {P : Program}
theorem run_new (w : World) (t : TypeId) (z : Value) (hz : ((P.info? t).bind (·.zero)) = some z) : (Instr.alloc t true (.tuple #[])).run P w = .ok (.pointer (some ⟨w.heap.size, 0, none⟩)) (w.alloc (.cells z.cells t)) := by
  cases hi : P.info? t with
  | none => simp [hi] at hz
  | some i =>
    simp only [hi, Option.bind_some] at hz
    simp [Instr.alloc, zeroValue, typeInfo, hi, hz, newVar, newRow]
theorem wpList_new {ops : Array Oper} {rest : List Oper} {o : Oper} {a : Act} {w : World} {Q : Exit → Act → World → Prop} (hg : o.guard = none) (t : TypeId) (ho : o.op = .alloc t) (cs : List Value) (hz : ((P.info? t).bind (·.zero)).map (·.cells.toList) = some cs)
    (h : wpList P ops Q rest (a.put o.dst (.pointer (some ⟨w.heap.size, 0, none⟩))) (w.alloc (.cells cs.toArray t))) : wpList P ops Q (o :: rest) a w := by
  cases hzz : (P.info? t).bind (·.zero) with
  | none => rw [hzz] at hz; cases hz
  | some z =>
    rw [hzz] at hz
    simp only [Option.map_some, Option.some.injEq] at hz
    subst hz
    refine wpList_plain hg fun _ hK => ?_
    unfold Oper.wp execOp
    simp only [ho, Sem.run_bind, run_new w t z hzz, Result.andThen_ok]
    exact hK _ _ (by simpa using h)
theorem wpList_buildAs {ops : Array Oper} {rest : List Oper} {o : Oper} {a : Act} {w : World} {Q : Exit → Act → World → Prop} (hg : o.guard = none) (t : TypeId) (parts : List (Nat × Operand)) (ho : o.op = .build t parts.toArray)
    (cs : List Value) (hf : (P.built t (parts.map fun x => (x.1, a.eval x.2))).map (·.toList) = some cs)
    (h : wpList P ops Q rest (a.put o.dst (.agg cs.toArray)) w) : wpList P ops Q (o :: rest) a w := by
  cases hb : P.built t (parts.map fun x => (x.1, a.eval x.2)) with
  | none => rw [hb] at hf; cases hf
  | some c =>
    rw [hb] at hf
    simp only [Option.map_some, Option.some.injEq] at hf
    subst hf
    refine wpList_plain hg fun _ hK => ?_
    unfold Oper.wp execOp
    simp only [ho, Sem.run_bind, List.map_toArray]
    rw [run_build w t _ c (by simpa using hb)]
    simp only [Result.andThen_ok]
    exact hK _ _ (by simpa using h)
theorem foldl_set : ∀ (l : List Value) (k : Nat) (acc : Array Value), acc.size = k + l.length → (l.zipIdx k).foldl (fun a x => a.setIfInBounds x.2 x.1) acc = (acc.toList.take k ++ l).toArray
  | [], k, acc, h => by
    simp only [List.zipIdx_nil, List.foldl_nil, List.append_nil]
    rw [List.take_of_length_le (by simp at h ⊢; omega)]
  | x :: r, k, acc, h => by
    rw [List.length_cons] at h
    rw [List.zipIdx_cons, List.foldl_cons, foldl_set r (k + 1) _ (by simp only [Array.size_setIfInBounds]; omega)]
    congr 1
    rw [Array.toList_setIfInBounds, List.take_add_one, List.take_set_of_le (Nat.le_refl _), List.getElem?_set_self (by simp; omega)]
    simp
/-- a slice of one struct -/
theorem fill_one (size : Nat) (z : Array Value) (cs : List Value) (hz : z.size = size) (hc : cs.length = size) : Instr.fill (fun i => some (i * size, size)) ((Array.range (1 * size)).map (z[· % z.size]!)) [(0, .agg cs.toArray)] = some cs.toArray := by
  have h1 : ((Array.range (1 * size)).map (z[· % z.size]!)) = z := by
    apply Array.ext
    · simp [hz]
    · intro i h1 h2
      simp only [Array.getElem_map, Array.getElem_range]
      rw [Nat.mod_eq_of_lt h2]
      simp [h2]
  rw [h1]
  have h2 := foldl_set cs 0 z (by omega)
  simp only [List.take_zero, List.nil_append] at h2
  simp only [Instr.fill, Value.cells, List.size_toArray, hc, hz, Nat.zero_mul, Nat.zero_add, ne_eq, not_true_eq_false, decide_false, Bool.false_or, gt_iff_lt, Nat.lt_irrefl, Bool.false_eq_true, if_false]
  refine congrArg some (Eq.trans ?_ h2)
  rw [← Array.foldl_toList, Array.toList_zipIdx]
theorem wpList_buildOne {ops : Array Oper} {rest : List Oper} {o : Oper} {a : Act} {w : World} {Q : Exit → Act → World → Prop} (hg : o.guard = none) (t e : TypeId) (x : Operand) (ho : o.op = .buildSlice t 1 #[(0, x)]) {size bytes : Nat} (hT : ElemT P t e size bytes) (hs : size ≤ 1000)
    (cs : List Value) (hc : cs.length = size) (hx : a.eval x = .agg cs.toArray)
    (h : wpList P ops Q rest (a.put o.dst (.slice (some ⟨w.heap.size, 0, none⟩) 1 1)) (w.alloc (.cells cs.toArray e))) : wpList P ops Q (o :: rest) a w := by
  obtain ⟨i, z, hi, hz, hsize, hby, hzs⟩ := hT.info
  have hpos := hT.pos
  refine wpList_buildSlice hg t e 1 _ ho cs.toArray i z hT.und hi hz (by rw [hsize]; omega) (by rw [hsize]; omega) ?_ h
  rw [hsize]
  simp only [List.map_toArray, List.map_cons, List.map_nil, hx]
  exact fill_one size _ cs hzs hc
/-- results, one of them in memory -/
theorem results_one {fn : Func} {a t : Nat} {tmps : Array Value} {w : World} (hr : fn.results = #[.cell a t]) (b : Nat) (cs : List Value) (d : TypeDesc) (ha : tmps.getD a undef = .pointer (some ⟨b, 0, none⟩)) (hc : w.rangeAt b 0 cs)
    (hu : P.underlying t = some d) (hd : d.isRow = true) (hi : (P.info? t).map (·.size) = some cs.length) : (results fn tmps).run P w = .ok (.agg cs.toArray) w := by
  have ha' : tmps[a]?.getD undef = .pointer (some ⟨b, 0, none⟩) := by simpa using ha
  simp [results, hr, ha', asAddr, run_loadVar_mid w b 0 t cs d hc hu hd hi]
theorem results_three {fn : Func} {a t r s : Nat} {tmps : Array Value} {w : World} (hr : fn.results = #[.cell a t, .tmp r, .tmp s]) (b : Nat) (cs : List Value) (d : TypeDesc) (ha : tmps.getD a undef = .pointer (some ⟨b, 0, none⟩)) (hc : w.rangeAt b 0 cs)
    (hu : P.underlying t = some d) (hd : d.isRow = true) (hi : (P.info? t).map (·.size) = some cs.length) (v1 v2 : Value) (h1 : tmps.getD r undef = v1) (h2 : tmps.getD s undef = v2) : (results fn tmps).run P w = .ok (.tuple #[.agg cs.toArray, v1, v2]) w := by
  have ha' : tmps[a]?.getD undef = .pointer (some ⟨b, 0, none⟩) := by simpa using ha
  have h1' : tmps[r]?.getD undef = v1 := by simpa using h1
  have h2' : tmps[s]?.getD undef = v2 := by simpa using h2
  simp [results, hr, ha', asAddr, run_loadVar_mid w b 0 t cs d hc hu hd hi, h1', h2']
end

/-! ### Ranges -/
theorem set_other {w : World} {a b : Addr} (v : Value) (h : a ≠ b) : (w.setCell a v).cell? b = w.cell? b := by
  first
    | exact World.cell?_setCell_other w v h
    | exact World.cell?_setCell_other w a b v h
    | exact World.cell?_setCell_other w a v h
    | exact World.cell?_setCell_other _ _ _ h
theorem rangeAt_new (w : World) (cs : List Value) (t : TypeId) : (w.alloc (.cells cs.toArray t)).rangeAt w.heap.size 0 cs := fun j v hj => by
  rw [Nat.zero_add, World.cell?_alloc_new]
  simpa using hj
theorem there_new (w : World) (cs : List Value) (t : TypeId) : (w.alloc (.cells cs.toArray t)).there w.heap.size 0 cs.length := fun j hj => by
  rw [Nat.zero_add]
  refine ⟨?_, by simp [go_sem]⟩
  rw [World.cell?_alloc_new]
  simp [hj]
theorem rangeAt_set {w : World} {b : Nat} {cs : List Value} (h : w.rangeAt b 0 cs) (i : Nat) (v : Value) : (w.setCell ⟨b, i, none⟩ v).rangeAt b 0 (cs.set i v) := fun j u hj => by
  rw [List.getElem?_set] at hj
  rw [Nat.zero_add]
  by_cases e : i = j
  · subst e
    rw [if_pos rfl] at hj
    split at hj
    · rename_i hl
      cases hj
      have h1 := h i _ (List.getElem?_eq_getElem hl)
      rw [Nat.zero_add] at h1
      exact World.cell?_setCell_same' w _ v (by rw [h1]; rfl)
    · cases hj
  · rw [if_neg e] at hj
    rw [set_other v (by intro h2; cases h2; exact e rfl)]
    have := h j u hj
    rwa [Nat.zero_add] at this
theorem there_set {w : World} {b n : Nat} (h : w.there b 0 n) (p : Addr) (v : Value) : (w.setCell p v).there b 0 n := fun j hj => by
  obtain ⟨h1, h2⟩ := h j hj
  exact ⟨by rw [isSome_setCell]; exact h1, by rw [World.frozen?_setCell]; exact h2⟩
theorem rangeAt_block {w w' : World} {b o : Nat} {cs : List Value} (h : w.rangeAt b o cs) (hb : w'.heap[b]? = w.heap[b]?) : w'.rangeAt b o cs := fun j v hj => (World.cell?_of_block hb).trans (h j v hj)
theorem there_block {w w' : World} {b o n : Nat} (h : w.there b o n) (hb : w'.heap[b]? = w.heap[b]?) : w'.there b o n := fun j hj => by
  obtain ⟨h1, h2⟩ := h j hj
  exact ⟨by rw [World.cell?_of_block (a := ⟨b, o + j, none⟩) hb]; exact h1, (World.frozen?_of_block (a := ⟨b, o + j, none⟩) hb).trans h2⟩
theorem below_setCells {B : Nat} {a : World} {b : Nat} (hb : B ≤ b) : ∀ (vs : List Value) (o : Nat) {w : World}, Below B a w → Below B a (w.setCells b o vs)
  | [], _, _, h => h
  | v :: vs, o, w, h => below_setCells hb vs (o + 1) (h.setCell (p := ⟨b, o, none⟩) hb v)
end Go.Proofs.Ytkbmpppendelcaa
