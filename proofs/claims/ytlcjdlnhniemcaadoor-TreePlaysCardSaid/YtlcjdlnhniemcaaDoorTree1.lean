/- The tree in memory: nodes, the maps of directories, the bytes of files. No condition. -/
import Derived.Test.YtlcjdlnhniemcaaDoorTreeS
import Derived.Test.YtlcjdlnhniemcaaDoorMapN
import Derived.Test.YtlcjdlnhniemcaaDoorMgA
namespace Go.Proofs.YtlcjdlnhniemcaaDoor
open Go.RowKit

/-- where a node lies: its block; a directory's map; a file's bytes -/
structure NA where
  p : Nat
  q : Nat
  A : Option Addr
  c : Nat
def NA.z : NA := ⟨0, 0, none, 0⟩
def pl (P : List NA) (i : Nat) : NA := P.getD i NA.z
def nty (k : Int) : TypeId := if k = 1 then 42 else if k = 2 then 52 else 55
/-- a node as a value -/
def nv (k : Int) (p : Nat) : Value := .iface (nty k) (.pointer (some ⟨p, 0, none⟩))
def kidV (W : List tr.Item) (P : List NA) (i : Nat) : List UInt8 → Option Value := fun nm => (tr.child W i nm).map fun j => nv (tr.it W j).kind (pl P j).p
/-- a node in memory, of a map of at most M entries -/
def NodeAt (w : World) (B M : Nat) (x : tr.Item) (a : NA) (f : List UInt8 → Option Value) : Prop :=
  (x.kind = 1 → BlkA w a.p 45 #[.map (some a.q)] ∧ MapV w Tryd.prog 9 a.q M (nmap f)) ∧
  (x.kind = 2 → BlkA w a.p 54 #[.slice a.A x.data.length a.c] ∧ Own w B 5 1 a.A x.data.length a.c (x.data.map u8v)) ∧
  (x.kind = 3 → BlkA w a.p 57 #[.string (strOf x.to)])
/-- the blocks of a node -/
def NF (x : tr.Item) (a : NA) (k : Nat) : Prop := k = a.p ∨ (x.kind = 1 ∧ k = a.q) ∨ (x.kind = 2 ∧ blkOf a.A = some k)
section
variable {w w' : World} {B M : Nat} {x : tr.Item} {a : NA} {f : List UInt8 → Option Value}
theorem NodeAt.mono (h : NodeAt w B M x a f) {M' : Nat} (hM : M ≤ M') : NodeAt w B M' x a f := ⟨fun e => ⟨(h.1 e).1, (h.1 e).2.mono hM⟩, h.2.1, h.2.2⟩
theorem NodeAt.stays {No : Nat → Prop} (h : NodeAt w B M x a f) (hs : Stays w w' No) (hn : ∀ k, NF x a k → ¬ No k) : NodeAt w' B M x a f :=
  ⟨fun e => ⟨(h.1 e).1.stays hs (hn _ (.inl rfl)), (h.1 e).2.stays hs (hn _ (.inr (.inl ⟨e, rfl⟩)))⟩,
   fun e => ⟨(h.2.1 e).1.stays hs (hn _ (.inl rfl)), (h.2.1 e).2.stays hs fun k hk => hn k (.inr (.inr ⟨e, hk⟩))⟩,
   fun e => (h.2.2 e).stays hs (hn _ (.inl rfl))⟩
theorem NodeAt.lt (h : NodeAt w B M x a f) (hk : x.kind = 1 ∨ x.kind = 2 ∨ x.kind = 3) {k : Nat} (hf : NF x a k) : k < w.heap.size := by
  rcases hf with rfl | ⟨e, rfl⟩ | ⟨e, hb⟩
  · rcases hk with e | e | e
    · exact (h.1 e).1.lt
    · exact (h.2.1 e).1.lt
    · exact (h.2.2 e).lt
  · exact (h.1 e).2.lt
  · exact ((h.2.1 e).2.lt k hb).2
end
/-- the tree in memory: its block Tb, its nodes at P, all blocks from B on, maps of at most M entries -/
structure TAt (w : World) (B Tb M : Nat) (W : List tr.Item) (P : List NA) : Prop where
  inv : tr.Inv W
  len : P.length = W.length
  top : BlkA w Tb 47 #[.pointer (some ⟨(pl P 0).p, 0, none⟩), .int .i64 (tr.liveN W : Int)]
  node : ∀ i, tr.Live W i → NodeAt w B M (tr.it W i) (pl P i) (kidV W P i)
  lo : ∀ i, tr.Live W i → ∀ k, NF (tr.it W i) (pl P i) k → B ≤ k ∧ k ≠ Tb
  tlo : B ≤ Tb
  apart : ∀ i j, tr.Live W i → tr.Live W j → i ≠ j → ∀ k, NF (tr.it W i) (pl P i) k → ¬ NF (tr.it W j) (pl P j) k
/-- the blocks of a tree -/
def TF (Tb : Nat) (W : List tr.Item) (P : List NA) (k : Nat) : Prop := k = Tb ∨ ∃ i, tr.Live W i ∧ NF (tr.it W i) (pl P i) k
section
variable {w w' : World} {B Tb M : Nat} {W : List tr.Item} {P : List NA}
theorem TAt.lt (h : TAt w B Tb M W P) {k : Nat} (hk : TF Tb W P k) : B ≤ k ∧ k < w.heap.size := by
  rcases hk with rfl | ⟨i, hi, hf⟩
  · exact ⟨h.tlo, h.top.lt⟩
  · exact ⟨(h.lo i hi k hf).1, (h.node i hi).lt (h.inv.kind i hi) hf⟩
theorem TAt.stays {No : Nat → Prop} (h : TAt w B Tb M W P) (hs : Stays w w' No) (hn : ∀ k, TF Tb W P k → ¬ No k) : TAt w' B Tb M W P :=
  ⟨h.inv, h.len, h.top.stays hs (hn _ (.inl rfl)), fun i hi => (h.node i hi).stays hs fun k hk => hn k (.inr ⟨i, hi, hk⟩), h.lo, h.tlo, h.apart⟩
theorem TAt.next (h : TAt w B Tb M W P) (hb : Below w.heap.size w w') : TAt w' B Tb M W P :=
  h.stays (Stays.of_below hb fun _ => False) fun _ _ e => e
theorem TAt.mono (h : TAt w B Tb M W P) {M' : Nat} (hM : M ≤ M') : TAt w B Tb M' W P := ⟨h.inv, h.len, h.top, fun i hi => (h.node i hi).mono hM, h.lo, h.tlo, h.apart⟩
theorem TAt.root (h : TAt w B Tb M W P) : w.cell? ⟨Tb, 0, none⟩ = some (.pointer (some ⟨(pl P 0).p, 0, none⟩)) := h.top.get 0
theorem TAt.dir (h : TAt w B Tb M W P) {i : Nat} (hi : tr.Live W i) (hk : (tr.it W i).kind = 1) : w.cell? ⟨(pl P i).p, 0, none⟩ = some (.map (some (pl P i).q)) ∧ MapV w Tryd.prog 9 (pl P i).q M (nmap (kidV W P i)) ∧ (pl P i).p < w.heap.size :=
  ⟨((h.node i hi).1 hk).1.get 0, ((h.node i hi).1 hk).2, ((h.node i hi).1 hk).1.lt⟩
theorem TAt.file (h : TAt w B Tb M W P) {i : Nat} (hi : tr.Live W i) (hk : (tr.it W i).kind = 2) : w.cell? ⟨(pl P i).p, 0, none⟩ = some (.slice (pl P i).A (tr.it W i).data.length (pl P i).c) ∧ Own w B 5 1 (pl P i).A (tr.it W i).data.length (pl P i).c ((tr.it W i).data.map u8v) ∧ (pl P i).p < w.heap.size :=
  ⟨((h.node i hi).2.1 hk).1.get 0, ((h.node i hi).2.1 hk).2, ((h.node i hi).2.1 hk).1.lt⟩
theorem TAt.link (h : TAt w B Tb M W P) {i : Nat} (hi : tr.Live W i) (hk : (tr.it W i).kind = 3) : w.cell? ⟨(pl P i).p, 0, none⟩ = some (.string (strOf (tr.it W i).to)) ∧ (pl P i).p < w.heap.size :=
  ⟨((h.node i hi).2.2 hk).get 0, ((h.node i hi).2.2 hk).lt⟩
/-- two nodes of one block are one -/
theorem TAt.one (h : TAt w B Tb M W P) {i j : Nat} (hi : tr.Live W i) (hj : tr.Live W j) (e : (pl P i).p = (pl P j).p) : i = j := by
  rcases Nat.lt_trichotomy i j with c | c | c
  · exact absurd (.inl e) (h.apart i j hi hj (by omega) _ (.inl rfl))
  · exact c
  · exact absurd (.inl e.symm) (h.apart j i hj hi (by omega) _ (.inl rfl))

/-! ### A node put into a directory, taken out, put elsewhere; bytes written -/
theorem pl_snoc (P : List NA) (a : NA) (i : Nat) : pl (P ++ [a]) i = if i = P.length then a else pl P i := by
  unfold pl
  rw [List.getD_eq_getElem?_getD, List.getD_eq_getElem?_getD]
  rcases Nat.lt_trichotomy i P.length with h | h | h
  · rw [List.getElem?_append_left h, if_neg (by omega)]
  · subst h
    rw [List.getElem?_append_right (Nat.le_refl _), Nat.sub_self, if_pos rfl]
    rfl
  · rw [List.getElem?_append_right (by omega), if_neg (by omega), List.getElem?_eq_none (by simp; omega), List.getElem?_eq_none (by omega)]
theorem kidV_live (h : TAt w B Tb M W P) {i : Nat} {nm : List UInt8} {v : Value} (hv : kidV W P i nm = some v) : ∃ j, tr.child W i nm = some j ∧ tr.Live W j ∧ v = nv (tr.it W j).kind (pl P j).p := by
  unfold kidV at hv
  cases hc : tr.child W i nm with
  | none => rw [hc] at hv; cases hv
  | some j =>
    rw [hc] at hv
    cases hv
    exact ⟨j, rfl, (tr.child_live hc).2.1, rfl⟩
/-- a new node x at a, put into the directory d under its name -/
theorem TAt.put (h : TAt w B Tb M W P) {x : tr.Item} {d : Nat} {a : NA} (hx : x.gone = false) (hp : x.par = d) (hd : tr.Live W d) (hdk : (tr.it W d).kind = 1) (hno : tr.child W d x.name = none) (hk : x.kind = 1 ∨ x.kind = 2 ∨ x.kind = 3) (hn : x.name.length ≤ 16) (hda : x.data.length ≤ 2048) (hto : x.to.length ≤ 200) (hf : tr.liveN W < 40)
    {w1 w2 : World} (hnode : NodeAt w B M x a (fun _ => none)) (hfar : ∀ k, NF x a k → B ≤ k ∧ ¬ TF Tb W P k)
    (hs : Stays w w2 (fun k => k = (pl P d).q ∨ k = Tb)) (hm : MapV w2 Tryd.prog 9 (pl P d).q (M + 1) (nmap fun y => if y = x.name then some (nv x.kind a.p) else kidV W P d y))
    (ht : BlkA w2 Tb 47 #[.pointer (some ⟨(pl P 0).p, 0, none⟩), .int .i64 ((tr.liveN W : Int) + 1)]) : TAt w2 B Tb (M + 1) (W ++ [x]) (P ++ [a]) := by
  have hI := h.inv.snoc hx hp hd hdk hno hk hn hda hto hf
  have hl := h.len
  have old : ∀ i, tr.Live W i → tr.it (W ++ [x]) i = tr.it W i ∧ pl (P ++ [a]) i = pl P i := fun i hi => ⟨by rw [tr.it_snoc, if_neg (by have := hi.lt; omega)], by rw [pl_snoc, if_neg (by have := hi.lt; omega)]⟩
  have new : tr.it (W ++ [x]) W.length = x ∧ pl (P ++ [a]) W.length = a := ⟨by rw [tr.it_snoc, if_pos rfl], by rw [pl_snoc, if_pos hl.symm]⟩
  have cs : ∀ i, tr.Live (W ++ [x]) i → i = W.length ∨ tr.Live W i := fun i hi => by
    rcases tr.live_snoc.1 hi with ⟨e, _⟩ | e
    · exact .inl e
    · exact .inr e
  have h0 : tr.Live W 0 := h.inv.root.2.1
  have kv : ∀ i, kidV (W ++ [x]) (P ++ [a]) i = if i = d then (fun y => if y = x.name then some (nv x.kind a.p) else kidV W P d y) else kidV W P i := fun i => by
    have step : ∀ nm, kidV (W ++ [x]) (P ++ [a]) i nm = if i = d ∧ nm = x.name then some (nv x.kind a.p) else kidV W P i nm := fun nm => by
      unfold kidV
      rw [tr.child_snoc h.inv hx hp hno]
      split
      · show some (nv (tr.it (W ++ [x]) W.length).kind (pl (P ++ [a]) W.length).p) = _
        rw [new.1, new.2]
      · cases hc : tr.child W i nm with
        | none => rfl
        | some j =>
          have := old j (tr.child_live hc).2.1
          show some (nv (tr.it (W ++ [x]) j).kind (pl (P ++ [a]) j).p) = some _
          rw [this.1, this.2]
    funext nm
    rw [step]
    by_cases e : i = d
    · subst e
      simp only [true_and, if_true]
    · rw [if_neg e, if_neg (fun c => e c.1)]
  have kx : ∀ nm, kidV (W ++ [x]) (P ++ [a]) W.length nm = none := fun nm => by
    rw [kv, if_neg (by have := hd.lt; omega)]
    unfold kidV
    have : tr.child W W.length nm = none := tr.child_no fun j hj => by
      cases e : tr.isChild W W.length nm j with
      | false => rfl
      | true =>
        obtain ⟨k1, k2, k3, k4⟩ := tr.isChild_iff.1 e
        obtain ⟨d', e1, e2, _⟩ := h.inv.par j k1 k2
        rw [e1] at k3
        have := Int.ofNat.inj k3
        have := e2.lt
        omega
    rw [this]
    rfl
  have hq : (pl P d).q ≠ (pl P d).p := (((h.node d hd).1 hdk).2.ne_cells ((h.node d hd).1 hdk).1)
  refine ⟨hI, by rw [List.length_append, List.length_append, hl]; rfl, ?_, fun i hi => ?_, fun i hi k hkk => ?_, h.tlo, fun i j hi hj hij k k1 k2 => ?_⟩
  · rw [(old 0 h0).2, tr.liveN_snoc, hx]
    exact ht
  · rcases cs i hi with rfl | hi2
    · rw [new.1, new.2, show kidV (W ++ [x]) (P ++ [a]) W.length = fun _ => none from funext kx]
      refine (hnode.mono (by omega)).stays hs fun k hkk => ?_
      have := (hfar k hkk).2
      rintro (rfl | rfl)
      · exact this (.inr ⟨d, hd, .inr (.inl ⟨hdk, rfl⟩)⟩)
      · exact this (.inl rfl)
    · rw [(old i hi2).1, (old i hi2).2, kv]
      by_cases e : i = d
      · subst e
        rw [if_pos rfl]
        refine ⟨fun _ => ⟨((h.node i hi2).1 hdk).1.stays hs ?_, hm⟩, fun e => ?_, fun e => ?_⟩
        · rintro (e2 | e2)
          · exact hq e2.symm
          · exact (h.lo i hi2 _ (.inl rfl)).2 e2
        · rw [hdk] at e; cases e
        · rw [hdk] at e; cases e
      · rw [if_neg e]
        refine ((h.node i hi2).mono (by omega)).stays hs fun k hkk => ?_
        rintro (e2 | e2)
        · exact h.apart i d hi2 hd e k hkk (by rw [e2]; exact .inr (.inl ⟨hdk, rfl⟩))
        · exact (h.lo i hi2 k hkk).2 e2
  · rcases cs i hi with rfl | hi2
    · rw [new.1, new.2] at hkk
      exact ⟨(hfar k hkk).1, fun e => (hfar k hkk).2 (.inl e)⟩
    · rw [(old i hi2).1, (old i hi2).2] at hkk
      exact h.lo i hi2 k hkk
  · rcases cs i hi with e1 | hi2
    · rcases cs j hj with e2 | hj2
      · omega
      · subst e1
        rw [new.1, new.2] at k1
        rw [(old j hj2).1, (old j hj2).2] at k2
        exact (hfar k k1).2 (.inr ⟨j, hj2, k2⟩)
    · rcases cs j hj with e2 | hj2
      · subst e2
        rw [new.1, new.2] at k2
        rw [(old i hi2).1, (old i hi2).2] at k1
        exact (hfar k k2).2 (.inr ⟨i, hi2, k1⟩)
      · rw [(old i hi2).1, (old i hi2).2] at k1
        rw [(old j hj2).1, (old j hj2).2] at k2
        exact h.apart i j hi2 hj2 hij k k1 k2
theorem kidV_gone (h : TAt w B Tb M W P) {n : Nat} (h0 : 0 < n) (hn : tr.Live W n) (x : tr.Item) (hx : x.gone = true) (i : Nat) :
    kidV (W.set n x) P i = fun y => if (tr.it W n).par = i ∧ y = (tr.it W n).name then none else kidV W P i y := by
  funext y
  unfold kidV
  rw [tr.child_gone h.inv h0 hn x hx]
  split
  · rfl
  · next c =>
    cases hc : tr.child W i y with
    | none => rfl
    | some j =>
      have hj : j ≠ n := fun e => by
        subst e
        obtain ⟨_, _, k3, k4⟩ := tr.child_live hc
        exact c ⟨k3, k4.symm⟩
      show some (nv (tr.it (W.set n x) j).kind (pl P j).p) = some _
      rw [tr.it_set hn.lt, if_neg hj]
theorem TAt.del (h : TAt w B Tb M W P) {n d : Nat} (h0 : 0 < n) (hn : tr.Live W n) (x : tr.Item) (hx : x.gone = true) (hd : (tr.it W n).par = d) (hk : ∀ i, tr.kid W n i = false)
    {w2 : World} (hs : Stays w w2 (fun k => k = (pl P d).q ∨ k = Tb)) (hm : MapV w2 Tryd.prog 9 (pl P d).q M (nmap fun y => if y = (tr.it W n).name then none else kidV W P d y))
    (ht : BlkA w2 Tb 47 #[.pointer (some ⟨(pl P 0).p, 0, none⟩), .int .i64 ((tr.liveN W : Int) - 1)]) : TAt w2 B Tb M (W.set n x) P := by
  have hI := h.inv.gone h0 hn x hx hk
  obtain ⟨d2, e1, hdl, hdk⟩ := h.inv.par n h0 hn
  obtain rfl : d2 = d := by rw [hd] at e1; exact (Int.ofNat.inj e1).symm
  have li : ∀ i, tr.Live (W.set n x) i → i ≠ n ∧ tr.Live W i := fun i hi => by
    rw [tr.live_set hn.lt] at hi
    split at hi
    · rw [hx] at hi; cases hi
    · next c => exact ⟨c, hi⟩
  have old : ∀ i, i ≠ n → tr.it (W.set n x) i = tr.it W i := fun i hi => by rw [tr.it_set hn.lt, if_neg hi]
  have hq : (pl P d2).q ≠ (pl P d2).p := (((h.node d2 hdl).1 hdk).2.ne_cells ((h.node d2 hdl).1 hdk).1)
  have hlv : (tr.liveN (W.set n x) : Int) = (tr.liveN W : Int) - 1 := by
    have := tr.liveN_set W n x hn.lt
    rw [hx, show (tr.it W n).gone = false from hn] at this
    simp at this
    omega
  refine ⟨hI, by rw [List.length_set]; exact h.len, by rw [hlv]; exact ht, fun i hi => ?_, fun i hi k hkk => ?_, h.tlo, fun i j hi hj hij k k1 k2 => ?_⟩
  · obtain ⟨c1, c2⟩ := li i hi
    rw [old i c1, kidV_gone h h0 hn x hx]
    by_cases e : i = d2
    · subst e
      have e3 : (fun y => if (tr.it W n).par = (i : Int) ∧ y = (tr.it W n).name then none else kidV W P i y) = fun y => if y = (tr.it W n).name then none else kidV W P i y := by
        funext y
        simp [hd]
      rw [e3]
      refine ⟨fun _ => ⟨((h.node i c2).1 hdk).1.stays hs ?_, hm⟩, fun e => ?_, fun e => ?_⟩
      · rintro (e2 | e2)
        · exact hq e2.symm
        · exact (h.lo i c2 _ (.inl rfl)).2 e2
      · rw [hdk] at e; cases e
      · rw [hdk] at e; cases e
    · have e3 : (fun y => if (tr.it W n).par = (i : Int) ∧ y = (tr.it W n).name then none else kidV W P i y) = kidV W P i := by
        funext y
        rw [if_neg]
        rintro ⟨e4, _⟩
        rw [hd] at e4
        exact e (Int.ofNat.inj e4).symm
      rw [e3]
      refine (h.node i c2).stays hs fun k hkk => ?_
      rintro (e2 | e2)
      · exact h.apart i d2 c2 hdl e k hkk (by rw [e2]; exact .inr (.inl ⟨hdk, rfl⟩))
      · exact (h.lo i c2 k hkk).2 e2
  · obtain ⟨c1, c2⟩ := li i hi
    rw [old i c1] at hkk
    exact h.lo i c2 k hkk
  · obtain ⟨c1, c2⟩ := li i hi
    obtain ⟨c3, c4⟩ := li j hj
    rw [old i c1] at k1
    rw [old j c3] at k2
    exact h.apart i j c2 c4 hij k k1 k2
theorem kidV_mv (h : TAt w B Tb M W P) {n d : Nat} (h0 : 0 < n) (hn : tr.Live W n) {x : tr.Item} (hx : x.gone = false) (hp : x.par = d) (hno : tr.child W d x.name = none) (hk : x.kind = (tr.it W n).kind) (i : Nat) :
    kidV (W.set n x) P i = fun y => if i = d ∧ y = x.name then some (nv (tr.it W n).kind (pl P n).p) else if (tr.it W n).par = i ∧ y = (tr.it W n).name then none else kidV W P i y := by
  funext y
  unfold kidV
  rw [tr.child_mv h.inv h0 hn hx hp hno]
  split
  · show some (nv (tr.it (W.set n x) n).kind (pl P n).p) = _
    rw [tr.it_set hn.lt, if_pos rfl, hk]
  · split
    · rfl
    · next c =>
      cases hc : tr.child W i y with
      | none => rfl
      | some j =>
        have hj : j ≠ n := fun e => by
          subst e
          obtain ⟨_, _, k3, k4⟩ := tr.child_live hc
          exact c ⟨k3, k4.symm⟩
        show some (nv (tr.it (W.set n x) j).kind (pl P j).p) = some _
        rw [tr.it_set hn.lt, if_neg hj]
theorem TAt.mv (h : TAt w B Tb M W P) {n d d0 : Nat} (h0 : 0 < n) (hn : tr.Live W n) {x : tr.Item} (hx : x.gone = false) (hp : x.par = d) (hd : tr.Live W d) (hdk : (tr.it W d).kind = 1) (hno : tr.child W d x.name = none) (hon : ¬ tr.On W n d) (hk : x.kind = (tr.it W n).kind) (hnm : x.name.length ≤ 16) (hda : x.data = (tr.it W n).data) (hto : x.to = (tr.it W n).to) (hp0 : (tr.it W n).par = d0)
    {w2 : World} {M' : Nat} (hM : M ≤ M') (hs : Stays w w2 (fun k => k = (pl P d0).q ∨ k = (pl P d).q)) (hm : ∀ i, i = d0 ∨ i = d → MapV w2 Tryd.prog 9 (pl P i).q M' (nmap (kidV (W.set n x) P i))) : TAt w2 B Tb M' (W.set n x) P := by
  have hI := h.inv.mv h0 hn hx hp hd hdk hno hon hk hnm hda hto
  obtain ⟨d2, e1, hdl, hdk0⟩ := h.inv.par n h0 hn
  obtain rfl : d2 = d0 := by rw [hp0] at e1; exact (Int.ofNat.inj e1).symm
  have li : ∀ i, tr.Live (W.set n x) i → tr.Live W i := fun i hi => by
    rw [tr.live_set hn.lt] at hi
    split at hi
    · next c => subst c; exact hn
    · exact hi
  have fields : ∀ i, (tr.it (W.set n x) i).kind = (tr.it W i).kind ∧ (tr.it (W.set n x) i).data = (tr.it W i).data ∧ (tr.it (W.set n x) i).to = (tr.it W i).to := fun i => by
    rw [tr.it_set hn.lt]
    split
    · next c => subst c; exact ⟨hk, hda, hto⟩
    · exact ⟨rfl, rfl, rfl⟩
  have nf : ∀ i k, NF (tr.it (W.set n x) i) (pl P i) k ↔ NF (tr.it W i) (pl P i) k := fun i k => by unfold NF; rw [(fields i).1]
  have hq : ∀ i, tr.Live W i → (tr.it W i).kind = 1 → ∀ j, tr.Live W j → (pl P i).q ≠ (pl P j).p := fun i hi hki j hj e => by
    by_cases c : i = j
    · subst c
      exact ((h.node i hi).1 hki).2.ne_cells ((h.node i hi).1 hki).1 e
    · exact h.apart i j hi hj c _ (.inr (.inl ⟨hki, rfl⟩)) (.inl e)
  have hlv : tr.liveN (W.set n x) = tr.liveN W := by
    have := tr.liveN_set W n x hn.lt
    rw [hx, show (tr.it W n).gone = false from hn] at this
    omega
  have nod : ∀ i, tr.Live W i → ∀ f, NodeAt w2 B M' (tr.it W i) (pl P i) f → NodeAt w2 B M' (tr.it (W.set n x) i) (pl P i) f := fun i _ f hf => by
    unfold NodeAt at hf ⊢
    rw [(fields i).1, (fields i).2.1, (fields i).2.2]
    exact hf
  refine ⟨hI, by rw [List.length_set]; exact h.len, (by rw [hlv]; exact h.top.stays hs (by rintro (e | e); exact (h.lo d2 hdl _ (.inr (.inl ⟨hdk0, rfl⟩))).2 e.symm; exact (h.lo d hd _ (.inr (.inl ⟨hdk, rfl⟩))).2 e.symm)), fun i hi => nod i (li i hi) _ ?_, fun i hi k hkk => h.lo i (li i hi) k ((nf i k).1 hkk), h.tlo, fun i j hi hj hij k k1 k2 => h.apart i j (li i hi) (li j hj) hij k ((nf i k).1 k1) ((nf j k).1 k2)⟩
  · have hi2 := li i hi
    by_cases e : i = d2 ∨ i = d
    · have hki : (tr.it W i).kind = 1 := by rcases e with rfl | rfl <;> assumption
      refine ⟨fun _ => ⟨((h.node i hi2).1 hki).1.stays hs ?_, hm i e⟩, fun e => ?_, fun e => ?_⟩
      · rintro (e2 | e2)
        · exact hq d2 hdl hdk0 i hi2 e2.symm
        · exact hq d hd hdk i hi2 e2.symm
      · rw [hki] at e; cases e
      · rw [hki] at e; cases e
    · have e3 : kidV (W.set n x) P i = kidV W P i := by
        rw [kidV_mv h h0 hn hx hp hno hk]
        funext y
        rw [if_neg (fun c => e (.inr c.1)), if_neg]
        rintro ⟨e4, _⟩
        rw [hp0] at e4
        exact e (.inl (Int.ofNat.inj e4).symm)
      rw [e3]
      refine ((h.node i hi2).mono hM).stays hs fun k hkk => ?_
      rintro (e2 | e2)
      · exact h.apart i d2 hi2 hdl (fun c => e (.inl c)) k hkk (by rw [e2]; exact .inr (.inl ⟨hdk0, rfl⟩))
      · exact h.apart i d hi2 hd (fun c => e (.inr c)) k hkk (by rw [e2]; exact .inr (.inl ⟨hdk, rfl⟩))
theorem pl_set {n : Nat} (h : n < P.length) (a : NA) (i : Nat) : pl (P.set n a) i = if i = n then a else pl P i := by
  unfold pl
  rw [List.getD_eq_getElem?_getD, List.getD_eq_getElem?_getD, List.getElem?_set]
  by_cases e : n = i
  · subst e
    rw [if_pos rfl, if_pos h, if_pos rfl]
    rfl
  · rw [if_neg e, if_neg (fun h => e h.symm)]
theorem TAt.bytes (h : TAt w B Tb M W P) {n : Nat} (hn : tr.Live W n) (hk : (tr.it W n).kind = 2) (D : List UInt8) (hD : D.length ≤ 2048) {A' : Option Addr} {c' : Nat} {w2 : World}
    (hs : Stays w w2 (fun k => k = (pl P n).p ∨ blkOf (pl P n).A = some k)) (hb : BlkA w2 (pl P n).p 54 #[.slice A' D.length c']) (ho : Own w2 B 5 1 A' D.length c' (D.map u8v))
    (hnew : ∀ k, blkOf A' = some k → blkOf (pl P n).A = some k ∨ w.heap.size ≤ k) : TAt w2 B Tb M (W.set n ((tr.it W n).wd D)) (P.set n ⟨(pl P n).p, (pl P n).q, A', c'⟩) := by
  have hnl := hn.lt
  have hnP : n < P.length := by rw [h.len]; exact hnl
  have hI := h.inv.same (x := ((tr.it W n).wd D)) hn hn rfl rfl rfl hD rfl
  have li : ∀ i, tr.Live (W.set n ((tr.it W n).wd D)) i → tr.Live W i := fun i hi => by
    rw [tr.live_set hnl] at hi
    split at hi
    · next c => subst c; exact hn
    · exact hi
  have kd : ∀ i, (tr.it (W.set n ((tr.it W n).wd D)) i).kind = (tr.it W i).kind := fun i => by
    rw [tr.it_set hnl]
    split
    · next c => subst c; rfl
    · rfl
  have pp : ∀ i, (pl (P.set n ⟨(pl P n).p, (pl P n).q, A', c'⟩) i).p = (pl P i).p := fun i => by
    rw [pl_set hnP]
    split
    · next c => subst c; rfl
    · rfl
  have kv : ∀ i, kidV (W.set n ((tr.it W n).wd D)) (P.set n ⟨(pl P n).p, (pl P n).q, A', c'⟩) i = kidV W P i := fun i => by
    funext y
    unfold kidV
    rw [tr.child_same (x := (tr.it W n).wd D) hnl rfl rfl rfl]
    cases tr.child W i y with
    | none => rfl
    | some j =>
      show some (nv _ _) = some (nv _ _)
      rw [kd, pp]
  have hlv : tr.liveN (W.set n ((tr.it W n).wd D)) = tr.liveN W := by
    have := tr.liveN_set W n ((tr.it W n).wd D) hnl
    rw [show ((tr.it W n).wd D).gone = (tr.it W n).gone from rfl] at this
    omega
  have oth : ∀ i, i ≠ n → tr.it (W.set n ((tr.it W n).wd D)) i = tr.it W i ∧ pl (P.set n ⟨(pl P n).p, (pl P n).q, A', c'⟩) i = pl P i := fun i hi => ⟨by rw [tr.it_set hnl, if_neg hi], by rw [pl_set hnP, if_neg hi]⟩
  have slf : tr.it (W.set n ((tr.it W n).wd D)) n = ((tr.it W n).wd D) ∧ pl (P.set n ⟨(pl P n).p, (pl P n).q, A', c'⟩) n = ⟨(pl P n).p, (pl P n).q, A', c'⟩ := ⟨by rw [tr.it_set hnl, if_pos rfl], by rw [pl_set hnP, if_pos rfl]⟩
  have nfn : ∀ k, NF ((tr.it W n).wd D) ⟨(pl P n).p, (pl P n).q, A', c'⟩ k → NF (tr.it W n) (pl P n) k ∨ w.heap.size ≤ k := fun k hkk => by
    rcases hkk with e | ⟨e, _⟩ | ⟨_, e⟩
    · exact .inl (.inl e)
    · exact absurd (e.symm.trans hk) (by decide)
    · rcases hnew k e with e2 | e2
      · exact .inl (.inr (.inr ⟨hk, e2⟩))
      · exact .inr e2
  have hin : ∀ k, (k = (pl P n).p ∨ blkOf (pl P n).A = some k) → NF (tr.it W n) (pl P n) k := fun k e => by
    rcases e with e | e
    · exact .inl e
    · exact .inr (.inr ⟨hk, e⟩)
  refine ⟨hI, by rw [List.length_set, List.length_set]; exact h.len, by rw [hlv, pp]; exact h.top.stays hs (fun e => (h.lo n hn _ (hin _ e)).2 rfl), fun i hi => ?_, fun i hi k hkk => ?_, h.tlo, fun i j hi hj hij k k1 k2 => ?_⟩
  · rw [kv]
    by_cases e : i = n
    · subst e
      rw [slf.1, slf.2]
      exact ⟨fun e => absurd (e.symm.trans hk) (by decide), fun _ => ⟨hb, ho⟩, fun e => absurd (e.symm.trans hk) (by decide)⟩
    · rw [(oth i e).1, (oth i e).2]
      exact (h.node i (li i hi)).stays hs fun k hkk e2 => h.apart i n (li i hi) hn e k hkk (hin k e2)
  · by_cases e : i = n
    · subst e
      rw [slf.1, slf.2] at hkk
      rcases nfn k hkk with e2 | e2
      · exact h.lo i hn k e2
      · have h1 := h.top.lt
        have h2 := h.tlo
        exact ⟨by omega, by omega⟩
    · rw [(oth i e).1, (oth i e).2] at hkk
      exact h.lo i (li i hi) k hkk
  · by_cases e1 : i = n
    · by_cases e2 : j = n
      · omega
      · subst e1
        rw [slf.1, slf.2] at k1
        rw [(oth j e2).1, (oth j e2).2] at k2
        rcases nfn k k1 with e3 | e3
        · exact h.apart i j hn (li j hj) hij k e3 k2
        · have := (h.node j (li j hj)).lt (h.inv.kind j (li j hj)) k2
          omega
    · rw [(oth i e1).1, (oth i e1).2] at k1
      by_cases e2 : j = n
      · subst e2
        rw [slf.1, slf.2] at k2
        rcases nfn k k2 with e3 | e3
        · exact h.apart i j (li i hi) hn hij k k1 e3
        · have := (h.node i (li i hi)).lt (h.inv.kind i (li i hi)) k1
          omega
      · rw [(oth j e2).1, (oth j e2).2] at k2
        exact h.apart i j (li i hi) (li j hj) hij k k1 k2
end
end Go.Proofs.YtlcjdlnhniemcaaDoor
