/- Functions of package slices on rows of bytes and of ranges: Clone; an append within a region that draws its order. No condition. -/
import Derived.Test.YtdldfllllgogoaaBytes
import Derived.Test.YtdldfllllgogoaaOwn2
import Derived.Deep.RegionHeld3
import Derived.Lib.SliceRun
namespace Go.Proofs.Ytdldfllllgogoaa
open Go.RowKit

section
variable {P : Program} (w : World)
theorem wp_run {ops : Array Oper} {rest : List Oper} {o : Oper} {a : Act} {Q : Exit → Act → World → Prop} (hgd : o.guard = none) (s x : Operand) (t1 t2 : TypeId)
    (ho : o.op = .call { callee := .builtin .append, args := #[s, x], argTypes := #[t1, t2] }) {v1 v2 v : Value} {w' : World} (hs : a.eval s = v1) (hx : a.eval x = v2)
    (hr : (Builtin.append_ #[t1, t2] o.type #[v1, v2]).run P w = .ok v w') (h : wpList P ops Q rest (a.put o.dst v) w') : wpList P ops Q (o :: rest) a w :=
  wpList_plain hgd fun K hK => by
    unfold Oper.wp execOp
    simp only [ho, resolve, invoke, builtin, Sem.run_bind, Sem.run_pure, Result.andThen_ok, List.map_toArray, List.map_cons, List.map_nil, hs, hx, hr]
    exact hK _ _ h
theorem step_app {ops : Array Oper} {o : Oper} {a : Act} {K : Act → World → Prop} {Q : Exit → Act → World → Prop} {E : Prop} (hgd : o.guard = none) (s x : Operand) (t : TypeId)
    (ho : o.op = .call { callee := .builtin .append, args := #[s, x], argTypes := #[t, t] }) {e : TypeId} {size bytes : Nat} (hT : ElemT P t e size bytes) (base : Nat) (A : Option Addr) (n c : Nat) (xs : List Value) (hs : a.eval s = .slice A n c) (hown : Own w base e size A n c xs)
    (B : Option Addr) (m d : Nat) (news : List Value) (hx : a.eval x = .slice B m d) (hl : news.length = m * size) (hnews : Cells w B news) (h1 : ∀ u ∈ news, u.oneCell' = true) (hroom : (n + m) * bytes ≤ 140737488355328) (h63 : n + m ≤ maxLen) (hbase : base ≤ w.heap.size)
    (h : ∀ A' c' w', Own w' base e size A' (n + m) c' (xs ++ news) → Grew w w' A A' → K (a.put o.dst (.slice A' (n + m) c')) w') :
    if Region.wanted o (yielded ops a.tmps) = true then Oper.wp P o a w K Q else E := by
  have hw : Region.wanted o (yielded ops a.tmps) = true := by simp [Region.wanted, hgd]
  rw [if_pos hw]
  obtain ⟨A', c', w', hr, h2, h3⟩ := run_app (P := P) (ty := o.type) w hT base A n c xs hown B m d news hl hnews h1 hroom h63 hbase
  unfold Oper.wp execOp
  simp only [ho, resolve, invoke, builtin, Sem.run_bind, Sem.run_pure, Result.andThen_ok, List.map_toArray, List.map_cons, List.map_nil, hs, hx, hr]
  exact h A' c' w' h2 h3
end

theorem Cells.below {w w' : World} {A : Option Addr} {xs : List Value} (h : Cells w A xs) {B : Nat} (hb : Below B w w') (hA : ∀ k, blkOf A = some k → k < B) : Cells w' A xs := by
  rcases h with rfl | ⟨b, o, rfl, hc⟩
  · exact .inl rfl
  · exact .inr ⟨b, o, rfl, fun j u hu => (hb.cell (p := ⟨b, o + j, none⟩) (hA b rfl)).trans (hc j u hu)⟩
theorem Grew.ne {w w' : World} {A A' : Option Addr} (h : Grew w w' A A') {b : Nat} (hA : ∀ k, blkOf A = some k → k ≠ b) (hb : b < w.heap.size) : ∀ k, blkOf A' = some k → k ≠ b := by
  intro k hk
  rcases h.blk with e | ⟨g, hg, e⟩
  · rw [e] at hk
    exact hA k hk
  · rw [hk] at e
    cases e
    omega
theorem Cells.len_of_none {w : World} {xs : List Value} (h : Cells w none xs) : xs = [] := by
  rcases h with h | ⟨b, o, h, _⟩
  · exact h
  · cases h

/-! ### A cut of a slice: its address under one name -/
def cutA (A : Option Addr) (c f size : Nat) : Option Addr := if c = f then A else A.map (·.add (f * size))
theorem addr_add (b o n : Nat) : (⟨b, o, none⟩ : Addr).add n = ⟨b, o + n, none⟩ := by unfold Addr.add; split <;> simp_all
theorem cutA_blk {A : Option Addr} {c f size : Nat} (h : ∀ a, A = some a → a.spot = none) : blkOf (cutA A c f size) = blkOf A := by
  unfold cutA
  split
  · rfl
  · cases A with
    | none => rfl
    | some a =>
      obtain ⟨b, o, s⟩ := a
      obtain rfl : s = none := h _ rfl
      simp [blkOf, addr_add]
theorem SlRep.cut {α : Type} {R : Rep α} {w : World} {S : Nat → Prop} {l : List α} {A : Option Addr} {c : Nat} (h : SlRep R w S l A c) {f n : Nat} (hf : f + n ≤ l.length) : SlRep R w S ((l.drop f).take n) (cutA A c f R.size) (c - f) := by
  have hl : ((l.drop f).take n).length = n := by rw [List.length_take, List.length_drop]; omega
  obtain ⟨h1, h2, h3⟩ := h
  refine ⟨by rw [hl]; omega, by omega, ?_⟩
  by_cases hn : n = 0
  · subst hn
    exact .inl (by simp)
  · rcases h3 with rfl | ⟨b, o, rfl, hb, hr⟩
    · simp at hf; omega
    · refine .inr ⟨b, o + f * R.size, ?_, hb, fun i a hi => ?_⟩
      · unfold cutA
        rw [if_neg (by omega), Option.map_some, addr_add]
      · have hi' : l[f + i]? = some a := by
          rw [List.getElem?_take] at hi
          split at hi
          · rwa [List.getElem?_drop] at hi
          · cases hi
        obtain ⟨cs, hcs, hc⟩ := hr (f + i) a hi'
        refine ⟨cs, hcs, fun j u hu => ?_⟩
        rw [← hc j u hu]
        congr 2
        rw [Nat.add_mul]
        omega
theorem SlRep.take {α : Type} {R : Rep α} {w : World} {S : Nat → Prop} {l : List α} {A : Option Addr} {c : Nat} (h : SlRep R w S l A c) (n : Nat) : SlRep R w S (l.take n) A c := by
  obtain ⟨h1, h2, h3⟩ := h
  refine ⟨Nat.le_trans (by rw [List.length_take]; exact Nat.min_le_right _ _) h1, h2, ?_⟩
  rcases h3 with rfl | ⟨b, o, rfl, hb, hr⟩
  · exact .inl (by simp)
  · refine .inr ⟨b, o, rfl, hb, fun i a hi => hr i a ?_⟩
    rw [List.getElem?_take] at hi
    split at hi
    · exact hi
    · cases hi
theorem SlRep.drop {α : Type} {R : Rep α} {w : World} {S : Nat → Prop} {l : List α} {A : Option Addr} {c : Nat} (h : SlRep R w S l A c) {f : Nat} (hf : f ≤ l.length) : SlRep R w S (l.drop f) (cutA A c f R.size) (c - f) := by
  have := h.cut (f := f) (n := l.length - f) (by omega)
  rwa [List.take_of_length_le (by rw [List.length_drop]; exact Nat.le_refl _)] at this
section
variable {P : Program}
theorem run_sizeOf_ {e : TypeId} {i : TypeInfo} {size : Nat} (hi : P.info? e = some i) (hs : i.size = size) (W : World) : (sizeOf e).run P W = .ok size W := by
  simp [sizeOf, typeInfo, hi, hs]
theorem run_cut_lh {t e : TypeId} {size bytes : Nat} (hT : ElemT P t e size bytes) (A : Option Addr) (n c f m : Nat) (hc : f + m ≤ c) (i j : Int) (hi : i = f) (hj : j = (f : Int) + m) (W : World) :
    (Instr.slice t (.slice A n c) (some (.int .i64 i)) (some (.int .i64 j)) none).run P W = .ok (.slice (cutA A c f size) m (c - f)) W := by
  subst hi; subst hj
  obtain ⟨inf, z, hi, hz, hsize, hby, hzs⟩ := hT.info
  have he : P.underlying t = some (.slice (P.elem t)) := by rw [hT.und, Program.elem, hT.und]
  have he2 : P.elem t = e := by rw [Program.elem, hT.und]
  rw [run_slice_lh W t A n c he .i64 .i64 f ((f : Int) + m) (by omega) (by omega) (by omega), he2]
  rw [run_sizeOf_ hi hsize W]
  simp [sliced, cutA, show ((f : Int) + m).toNat = f + m by omega]
theorem run_cut_l {t e : TypeId} {size bytes : Nat} (hT : ElemT P t e size bytes) (A : Option Addr) (n c f : Nat) (hn : f ≤ n) (i : Int) (hi : i = f) (W : World) :
    (Instr.slice t (.slice A n c) (some (.int .i64 i)) none none).run P W = .ok (.slice (cutA A c f size) (n - f) (c - f)) W := by
  subst hi
  obtain ⟨inf, z, hi, hz, hsize, hby, hzs⟩ := hT.info
  have he : P.underlying t = some (.slice (P.elem t)) := by rw [hT.und, Program.elem, hT.und]
  have he2 : P.elem t = e := by rw [Program.elem, hT.und]
  rw [run_slice_l W t A n c he .i64 f (by omega) (by omega), he2]
  rw [run_sizeOf_ hi hsize W]
  simp [sliced, cutA]
theorem run_cut_h {t e : TypeId} {size bytes : Nat} (hT : ElemT P t e size bytes) (A : Option Addr) (n c m : Nat) (hc : m ≤ c) (j : Int) (hj : j = m) (W : World) :
    (Instr.slice t (.slice A n c) none (some (.int .i64 j)) none).run P W = .ok (.slice A m c) W := by
  subst hj
  obtain ⟨inf, z, hi, hz, hsize, hby, hzs⟩ := hT.info
  have he : P.underlying t = some (.slice (P.elem t)) := by rw [hT.und, Program.elem, hT.und]
  have he2 : P.elem t = e := by rw [Program.elem, hT.und]
  rw [run_slice_h W t A n c he .i64 m (by omega) (by omega), he2]
  rw [run_sizeOf_ hi hsize W]
  simp only [sliced, Result.andThen_ok]
  have : ∀ a : Addr, a.add 0 = a := fun a => by unfold Addr.add; split <;> simp_all
  cases A <;> simp [this]
end

set_option maxRecDepth 100000 in
set_option maxHeartbeats 400000 in
theorem clone_u8 (n : Nat) (A : Option Addr) (c : Nat) (xs : List Value) (w : World) (hx : xs.length = n) (hc : ∀ w', Below w.heap.size w w' → Cells w' A xs) (h1 : ∀ u ∈ xs, u.oneCell' = true) (hn : n ≤ 140737488351232) :
    Calls Try.prog 36 #[.slice A n c] w fun e w' => ∃ A' c', e = .returned (.slice A' n c') ∧ Own w' w.heap.size 5 1 A' n c' xs ∧ Below w.heap.size w w' := by
  cases A with
  | none =>
    obtain rfl := (hc w (bself w)).len_of_none
    obtain rfl : n = 0 := by simpa using hx.symm
    have hq := Lib.run_eql_slice_nil (P := Try.prog) w 28 5 none 0 c 0 0 Try.underlying28
    simp only [Option.isNone] at hq
    go_enter Try.func36, Try.ntmps36
    go_wp2
    go_ret
    exact ⟨none, 0, rfl, Own.nil _ _ _ _, bself w⟩
  | some a =>
    have HC := Lib.hid hc
    have HX := Lib.hid hx
    have H1 := Lib.hid h1
    clear hc hx h1
    have hq := Lib.run_eql_slice_nil (P := Try.prog) w 28 5 (some a) n c 0 0 Try.underlying28
    simp only [Option.isNone] at hq
    go_enter Try.func36, Try.ntmps36
    go_wp2_with (at_builtin; refine wp_app _ rfl _ _ _ rfl elemU8 w.heap.size _ 0 0 [] rfl (Own.lit w w.heap.size _ 1 0 [] (Nat.le_refl _) rfl (by decide)) _ n _ xs rfl (by rw [HX.out, Nat.mul_one]) (HC.out _ (balloc (bself w) _)) H1.out (by omega) (by unfold maxLen; omega) (by simp) ?_; intro A3 c3 w4 hO4 hg4; have HO4 := Lib.hid hO4; clear hO4)
    go_ret
    exact ⟨A3, c3, rfl, by simpa using HO4.out, Grew.step (balloc (bself w) _) hg4 (fun k hk => by cases hk; exact Nat.le_refl _)⟩
end Go.Proofs.Ytdldfllllgogoaa
