/- Texts in one: Lib, Types, Own, Bytes, Own2, Sl, Lists, RowOf, Blk, Del, Stay, BlkA, HeapP, SortP. No condition. -/
import Derived.Test.YtfggcmbainhglaaRows
import Derived.WalkKit
import Derived.WalkSpells
import Derived.WalkLawsBesides
import Derived.ProofKit
import Derived.OpenShut
import Derived.SizedLaws
import Derived.Lib.Hide
import Derived.Maps.AppendAt
import Derived.Deep.AppendLies
import Derived.Deep.Draws
import Derived.RegionTactic
import Derived.OwnWalk
import Derived.LoopTactic
import Derived.Deep.QuietTactic
import Derived.BigQuiet
import Derived.Deep.RegionHeld3
import Derived.Lib.SliceRun
import Derived.Lib.AppendZerosOnto
import Derived.Laws.IdiomCopy
namespace Go.Proofs.Ytfggcmbainhglaa
open Go.RowKit Go.WideShapes Go.ChangeShapes Go.ChangeAt

/-! ### Small facts on worlds -/
theorem bcell {W w1 : World} (hb : Below W.heap.size W w1) : (∀ b o, b < W.heap.size → w1.cell? ⟨b, o, none⟩ = W.cell? ⟨b, o, none⟩) ∧ (∀ b o, b < W.heap.size → w1.frozen? ⟨b, o, none⟩ = W.frozen? ⟨b, o, none⟩) ∧ (∀ k, k < W.heap.size → k < w1.heap.size) ∧ W.heap.size ≤ w1.heap.size :=
  ⟨fun b o h => hb.cell (p := ⟨b, o, none⟩) h, fun b o h => hb.frozen (p := ⟨b, o, none⟩) h, fun _ hk => Nat.lt_of_lt_of_le hk hb.size, hb.size⟩
theorem bnext {w W W1 : World} (h : Below w.heap.size w W) (hb : Below W.heap.size W W1) : Below w.heap.size w W1 := h.trans (hb.mono h.size)
theorem bself (w : World) : Below w.heap.size w w := Below.refl _ _
theorem balloc {w W : World} (h : Below w.heap.size w W) (o : Obj) : Below w.heap.size w (W.alloc o) := h.alloc h.size o

theorem bset {w W : World} (h : Below w.heap.size w W) {b o : Nat} (hb : w.heap.size ≤ b) (u : Value) : Below w.heap.size w (W.setCell ⟨b, o, none⟩ u) := h.setCell (p := ⟨b, o, none⟩) hb u
theorem bdrewN {B : Nat} {a w : World} (h : Below B a w) (n : Nat) : Below B a (w.drewN n) := ⟨h.os, h.tape, h.output, h.size, h.block⟩

theorem size_drewN (w : World) (n : Nat) : (w.drewN n).heap.size = w.heap.size := rfl

theorem isSome_setCell (w : World) (a b : Addr) (v : Value) : ((w.setCell a v).cell? b).isSome = (w.cell? b).isSome := by
  simp only [World.setCell, World.cell?, Array.getElem?_modify]
  by_cases hb : a.block = b.block
  · simp only [hb, if_true]
    cases hh : w.heap[b.block]? with
    | none => simp
    | some x =>
      cases x <;> simp
      rename_i c e f
      by_cases hs : b.spot.isSome = true <;> by_cases ha : a.spot.isSome = true <;> simp [hs, ha]
      by_cases hl : b.off < c.size
      · simp [hl]
      · simp [hl]
  · simp [hb]
theorem setCell_twice (w : World) (a : Addr) (u v : Value) : (w.setCell a u).setCell a v = w.setCell a v := by
  unfold World.setCell
  congr 1
  apply Array.ext_getElem?
  intro i
  simp only [Array.getElem?_modify]
  by_cases h : a.block = i
  · simp only [h, if_true]
    cases w.heap[i]? with
    | none => rfl
    | some x =>
      cases x <;> simp
      by_cases hs : a.spot.isSome = true <;> simp [hs]
  · simp [h]
attribute [go_sem] isSome_setCell setCell_twice

/-! ### Ends of walks -/
theorem ret_bool {a b : Bool} (h : a = b) : Ending.returned (.bool a) = .returned (.bool b) := by rw [h]
theorem ret_int {k : IntKind} {a b : Int} (h : a = b) : Ending.returned (.int k a) = .returned (.int k b) := by rw [h]
theorem ret2_int {k l : IntKind} {a b c d : Int} (h : a = b) (h' : c = d) : Ending.returned (.tuple #[.int k a, .int l c]) = .returned (.tuple #[.int k b, .int l d]) := by rw [h, h']
theorem ret2_bool {l : IntKind} {a b : Bool} {c d : Int} (h : a = b) (h' : c = d) : Ending.returned (.tuple #[.bool a, .int l c]) = .returned (.tuple #[.bool b, .int l d]) := by rw [h, h']

/-! ### A reading of cells as a Lean value: 'S' bounds the blocks that it leads to. -/
structure Rep (α : Type) where
  size : Nat
  rep : World → (Nat → Prop) → α → List Value → Prop
  bulk : α → Nat
  len : ∀ {w S a cs}, rep w S a cs → cs.length = size
  mono : ∀ {w w' S S' a cs}, rep w S a cs → (∀ k, S k → S' k ∧ w'.heap[k]? = w.heap[k]?) → rep w' S' a cs

namespace Rep
def int : Rep Int := ⟨1, fun _ _ n cs => cs = [.int .i64 n], fun _ => 1, fun h => by subst h; rfl, fun h _ => h⟩
def u8 : Rep UInt8 := ⟨1, fun _ _ n cs => cs = [.int .u8 n.toNat], fun _ => 1, fun h => by subst h; rfl, fun h _ => h⟩
def bool : Rep Bool := ⟨1, fun _ _ n cs => cs = [.bool n], fun _ => 1, fun h => by subst h; rfl, fun h _ => h⟩
def str : Rep ByteArray := ⟨1, fun _ _ n cs => cs = [.string n], fun s => s.size + 1, fun h => by subst h; rfl, fun h _ => h⟩
def unit : Rep Unit := ⟨0, fun _ _ _ cs => cs = [], fun _ => 0, fun h => by subst h; rfl, fun h _ => h⟩
def pair {α β : Type} (R : Rep α) (T : Rep β) : Rep (α × β) :=
  ⟨R.size + T.size, fun w S a cs => ∃ c d, cs = c ++ d ∧ R.rep w S a.1 c ∧ T.rep w S a.2 d, fun a => R.bulk a.1 + T.bulk a.2,
    fun ⟨c, d, e, h1, h2⟩ => by rw [e, List.length_append, R.len h1, T.len h2],
    fun ⟨c, d, e, h1, h2⟩ hk => ⟨c, d, e, R.mono h1 hk, T.mono h2 hk⟩⟩
def via {α β : Type} (f : α → β) (R : Rep β) : Rep α :=
  ⟨R.size, fun w S a cs => R.rep w S (f a) cs, fun a => R.bulk (f a), fun h => R.len h, fun h hk => R.mono h hk⟩

/-- the elements of a slice from an address on -/
def at_ {α : Type} (R : Rep α) (w : World) (S : Nat → Prop) (b o : Nat) (l : List α) : Prop :=
  ∀ i a, l[i]? = some a → ∃ cs, R.rep w S a cs ∧ ∀ j u, cs[j]? = some u → w.cell? ⟨b, o + i * R.size + j, none⟩ = some u

def slice {α : Type} (R : Rep α) : Rep (List α) :=
  ⟨1, fun w S l cs => ∃ A c, cs = [.slice A l.length c] ∧ l.length ≤ c ∧ c ≤ maxLen ∧ (l = [] ∨ ∃ b o, A = some ⟨b, o, none⟩ ∧ S b ∧ R.at_ w S b o l), fun l => (l.map R.bulk).sum + 1,
    fun ⟨_, _, e, _⟩ => by subst e; rfl,
    fun ⟨A, c, e, h1, h2, h3⟩ hk => ⟨A, c, e, h1, h2, h3.imp id fun ⟨b, o, e, hb, h⟩ => ⟨b, o, e, (hk b hb).1, fun i a hi =>
      let ⟨cs, h4, h5⟩ := h i a hi
      ⟨cs, R.mono h4 hk, fun j u hu => (World.cell?_of_block (hk b hb).2).trans (h5 j u hu)⟩⟩⟩⟩
end Rep

/-! ### Opened from the form's reading -/
/-- every reading of type t is a reading by R, and is 'ok' -/
structure Opens (P : Program) {α : Type} (R : Rep α) (ok : α → Prop) (t : TypeId) : Prop where
  one : P.cellsOf t = R.size
  two : ∀ {H : Type} {enc : TypeId × Value → H} {w : World} {base : Nat} {sp : Nat → Bool} {held : Bool} {fuel : Nat} {cs : List Value} {x : DataW H × List MemPlace},
    DataW.trod enc P w base sp held fuel t cs = some x → (∀ n, n ∈ x.1.weights P t → n ≤ reachBytes) → ∃ a, R.rep w (· < w.heap.size) a cs ∧ ok a ∧ R.bulk a ≤ Rows.uptoBulk x.1

def IntOk (n : Int) : Prop := -9223372036854775808 ≤ n ∧ n ≤ 9223372036854775807
def StrOk (s : ByteArray) : Prop := s.size ≤ 140737488351232
/-- every element is ok, and the whole is within the form's reach, 'bytes' an element -/
def AllOk {α : Type} (bytes : Nat) (ok : α → Prop) (l : List α) : Prop := (∀ a, a ∈ l → ok a) ∧ l.length * bytes ≤ 140737488351232
def PairOk {α β : Type} (o1 : α → Prop) (o2 : β → Prop) (x : α × β) : Prop := o1 x.1 ∧ o2 x.2
def AnyOk {α : Type} (_ : α) : Prop := True

section
variable {P : Program}
theorem opens_int {t : TypeId} (ht : P.underlying t = some (.int .i64)) (hc : P.cellsOf t = 1) : Opens P Rep.int IntOk t := by
  refine ⟨hc, fun h _ => ?_⟩
  obtain ⟨n, rfl, rfl, hw⟩ := DataW.trod_int ht h
  exact ⟨n, rfl, by simpa [IntOk, Lit.wf, IntKind.min, IntKind.max, IntKind.signed, IntKind.bits] using hw, by simp [Rows.uptoBulk, Rep.int]⟩

theorem opens_u8 {t : TypeId} (ht : P.underlying t = some (.int .u8)) (hc : P.cellsOf t = 1) : Opens P Rep.u8 AnyOk t := by
  refine ⟨hc, fun h _ => ?_⟩
  obtain ⟨n, rfl, rfl, hw⟩ := DataW.trod_int ht h
  have hb : 0 ≤ n ∧ n ≤ 255 := by simpa [Lit.wf, IntKind.min, IntKind.max, IntKind.signed, IntKind.bits] using hw
  refine ⟨UInt8.ofNat n.toNat, ?_, trivial, by simp [Rows.uptoBulk, Rep.u8]⟩
  have : ((UInt8.ofNat n.toNat).toNat : Int) = n := by
    rw [UInt8.toNat_ofNat']; omega
  show _ = [Value.int .u8 _]
  rw [this]

theorem opens_bool {t : TypeId} (ht : P.underlying t = some .bool) (hc : P.cellsOf t = 1) : Opens P Rep.bool AnyOk t := by
  refine ⟨hc, fun h _ => ?_⟩
  obtain ⟨n, rfl, rfl, _⟩ := DataW.trod_bool ht h
  exact ⟨n, rfl, trivial, by simp [Rows.uptoBulk, Rep.bool]⟩

theorem opens_str {t : TypeId} (ht : P.underlying t = some .string) (hc : P.cellsOf t = 1) : Opens P Rep.str StrOk t := by
  refine ⟨hc, fun h hs => ?_⟩
  obtain ⟨s, rfl, rfl, _⟩ := DataW.trod_string ht h
  refine ⟨s, rfl, ?_, by simp only [Rows.uptoBulk, Rep.str, Array.length_toList]; exact Nat.le_refl _⟩
  have := hs s.data.toList.length (by simp [DataW.weights])
  unfold reachBytes at this
  unfold StrOk
  have e : s.data.toList.length = s.size := by rw [Array.length_toList]; rfl
  omega

/-- the fields of a struct, one behind the other -/
structure OpensF (P : Program) {α : Type} (R : Rep α) (ok : α → Prop) (k : Nat) (fs : List Field) : Prop where
  out : ∀ {H : Type} {enc : TypeId × Value → H} {w : World} {base : Nat} {sp : Nat → Bool} {held : Bool} {n : Nat} {cs : List Value} (xs : List (DataW H × List MemPlace)),
    cs.length = k + R.size → (∀ (i : Nat) (f : Field), fs[i]? = some f → DataW.trod enc P w base sp held n f.type ((cs.drop f.offset).take (P.cellsOf f.type)) = xs[i]?) → xs.length = fs.length →
    (∀ n, n ∈ DataW.weightsEach P (fs.map (·.type)) (xs.map (·.1)) → n ≤ reachBytes) → ∃ a, R.rep w (· < w.heap.size) a (cs.drop k) ∧ ok a ∧ R.bulk a ≤ Rows.uptoBulkAll (xs.map (·.1))

theorem opensF_nil (k : Nat) : OpensF P Rep.unit AnyOk k [] := by
  constructor
  intro H enc w base sp held n cs xs hl _ _ _
  exact ⟨(), List.drop_eq_nil_of_le (by rw [hl]; simp [Rep.unit]), trivial, by simp [Rep.unit]⟩

theorem opensF_cons {α β : Type} {R : Rep α} {T : Rep β} {o1 : α → Prop} {o2 : β → Prop} {k : Nat} {f : Field} {fs : List Field} (h1 : Opens P R o1 f.type) (hk : f.offset = k) (h2 : OpensF P T o2 (k + R.size) fs) :
    OpensF P (Rep.pair R T) (PairOk o1 o2) k (f :: fs) := by
  constructor
  intro H enc w base sp held n cs xs hl hx hxl hw
  have hl' : cs.length = k + R.size + T.size := by rw [hl]; simp only [Rep.pair]; omega
  match xs, hxl with
  | x :: xs', hxl =>
    have e0 := hx 0 f rfl
    simp only [List.getElem?_cons_zero] at e0
    simp only [List.map_cons, DataW.weightsEach, List.mem_append] at hw
    obtain ⟨a, ha, hao, hab⟩ := h1.two e0 (fun m hm => hw m (.inl hm))
    obtain ⟨b, hb, hbo, hbb⟩ := h2.out (n := n) (enc := enc) (w := w) (base := base) (sp := sp) (held := held) (cs := cs) xs' hl' (fun i g hg => by
      have := hx (i + 1) g (by simpa using hg)
      simpa using this) (by simpa using hxl) (fun m hm => hw m (.inr hm))
    refine ⟨(a, b), ⟨_, _, ?_, ha, hb⟩, ⟨hao, hbo⟩, by simp only [List.map_cons, Rows.uptoBulkAll, Rep.pair]; omega⟩
    rw [hk, h1.one, ← List.drop_drop]
    exact (List.take_append_drop _ _).symm

theorem opens_struct {α : Type} {R : Rep α} {ok : α → Prop} {t : TypeId} {fs : Array Field} (ht : P.underlying t = some (.struct fs)) (hc : P.cellsOf t = R.size) (h : OpensF P R ok 0 fs.toList) : Opens P R ok t := by
  refine ⟨hc, fun hd hw => ?_⟩
  obtain ⟨xs, n, _, rfl, hlen, hxl, hf⟩ := DataW.trod_struct ht hd
  simp only [DataW.weights, ht] at hw
  obtain ⟨a, ha, hao, hab⟩ := h.out (cs := _) xs (by rw [hlen, hc]; omega) (fun i f hi => hf i f (by simpa using hi)) (by simpa using hxl) hw
  exact ⟨a, by simpa using ha, hao, by simp only [Rows.uptoBulk]; omega⟩

theorem opens_via {α β : Type} {R : Rep β} {ok : β → Prop} {t : TypeId} (f : α → β) (g : β → α) (hfg : ∀ b, f (g b) = b) (h : Opens P R ok t) : Opens P (Rep.via f R) (fun a => ok (f a)) t := by
  refine ⟨h.one, fun hd hw => ?_⟩
  obtain ⟨b, hb, hbo, hbb⟩ := h.two hd hw
  exact ⟨g b, by simpa [Rep.via, hfg] using hb, by simpa [hfg] using hbo, by simpa [Rep.via, hfg] using hbb⟩

theorem opens_weak {α : Type} {R : Rep α} {ok ok' : α → Prop} {t : TypeId} (h : Opens P R ok t) (hw : ∀ a, ok a → ok' a) : Opens P R ok' t :=
  ⟨h.one, fun hd hs => let ⟨a, ha, ho, hb⟩ := h.two hd hs; ⟨a, ha, hw _ ho, hb⟩⟩

theorem spot_none {w : World} {a : Addr} {v : Value} (h : w.cell? a = some v) : a.spot = none := by
  unfold World.cell? at h
  split at h
  · split at h
    · cases h
    · rename_i hs; simpa using hs
  · cases h

theorem bulk_app {H : Type} (l r : List (DataW H)) : Rows.uptoBulkAll (l ++ r) = Rows.uptoBulkAll l + Rows.uptoBulkAll r := by
  induction l with
  | nil => simp [Rows.uptoBulkAll]
  | cons x l ih => simp only [List.cons_append, Rows.uptoBulkAll, ih]; omega
theorem mem_weightsAll {H : Type} (e : TypeId) {d : DataW H} {l : List (DataW H)} (h : d ∈ l) {n : Nat} (hn : n ∈ d.weights P e) : n ∈ DataW.weightsAll P e l := by
  induction l with
  | nil => cases h
  | cons x r ih =>
    simp only [DataW.weightsAll, List.mem_append]
    rcases List.mem_cons.1 h with rfl | h
    · exact .inl hn
    · exact .inr (ih h)

theorem opens_slice {α : Type} {R : Rep α} {ok : α → Prop} {t e : TypeId} {bytes : Nat} (ht : P.underlying t = some (.slice e)) (hc : P.cellsOf t = 1) (hpos : 0 < R.size) (hby : P.bytesOf e = bytes) (h : Opens P R ok e) : Opens P (Rep.slice R) (AllOk bytes ok) t := by
  refine ⟨hc, fun {H enc w base sp held fuel cs x} hd hw => ?_⟩
  rcases DataW.trod_slice ht hd with ⟨rfl, rfl⟩ | ⟨a, len, cap, elems, rest, n, _, rfl, rfl, hb, hl, hm, hlen, hel, _⟩
  · exact ⟨[], ⟨none, 0, rfl, Nat.le_refl _, Nat.zero_le _, .inl rfl⟩, ⟨(fun a ha => by cases ha), by simp⟩, by simp [Rep.slice, Rows.uptoBulk]⟩
  · simp only [DataW.weights, ht, List.mem_cons, List.mem_append] at hw
    have hreach : len * bytes ≤ 140737488351232 := by
      have h1 := hw _ (.inl rfl)
      rw [hby] at h1
      simp only [List.length_map, reachBytes] at h1
      have h2 : len * bytes ≤ (elems.length + rest.length) * bytes := Nat.mul_le_mul_right _ (by omega)
      omega
    have hone : ∀ i (hi : i < len), ∃ y cs', R.rep w (· < w.heap.size) y cs' ∧ ok y ∧ R.bulk y ≤ Rows.uptoBulk (elems[i]'(by omega)).1 ∧ ∀ j u, cs'[j]? = some u → w.cell? (a.add (i * R.size + j)) = some u := by
      intro i hi
      have h1 := hel i hi
      rw [h.one] at h1
      have h2 : elems[i]? = some (elems[i]'(by omega)) := List.getElem?_eq_getElem (by omega)
      rw [h2] at h1
      obtain ⟨cs', hcs, ht'⟩ := Option.bind_eq_some_iff.1 h1
      obtain ⟨y, hy, hyo, hyb⟩ := h.two ht' (fun m hm => hw m (.inr (.inl (mem_weightsAll e (List.mem_map.2 ⟨_, List.getElem_mem _, rfl⟩) hm))))
      obtain ⟨_, hcl, hat⟩ := World.cells?_some hcs
      refine ⟨y, cs', hy, hyo, hyb, fun j u hu => ?_⟩
      have hj : j < cs'.length := (List.getElem?_eq_some_iff.1 hu).1
      have := hat j (by omega)
      rw [hu] at this
      rw [← this]
      congr 1
      unfold Addr.add
      by_cases c1 : i * R.size = 0 <;> by_cases c2 : j = 0 <;> simp [c1, c2, Nat.add_assoc]
    rcases Nat.eq_zero_or_pos len with h0 | h0
    · subst h0
      exact ⟨[], ⟨some a, cap, rfl, Nat.zero_le _, hm, .inl rfl⟩, ⟨(fun a ha => by cases ha), by simp⟩, by simp [Rep.slice, Rows.uptoBulk]⟩
    · have hchoose : ∀ m, m ≤ len → ∃ l : List α, l.length = m ∧ (∀ a, a ∈ l → ok a) ∧ (l.map R.bulk).sum ≤ Rows.uptoBulkAll ((elems.take m).map (·.1)) ∧ ∀ i y, l[i]? = some y → ∃ cs', R.rep w (· < w.heap.size) y cs' ∧ ∀ j u, cs'[j]? = some u → w.cell? (a.add (i * R.size + j)) = some u := by
        intro m
        induction m with
        | zero => exact fun _ => ⟨[], rfl, fun _ hm => (List.not_mem_nil hm).elim, by simp, fun i y hy => by simp at hy⟩
        | succ m ih =>
          intro hml
          obtain ⟨l, hl1, hl2, hlb, hl3⟩ := ih (by omega)
          obtain ⟨y, cs', hy, hyo, hyb, hcell⟩ := hone m (by omega)
          refine ⟨l ++ [y], by simp [hl1], fun z hz => ?_, by rw [List.take_succ_eq_append_getElem (by omega), List.map_append, List.map_append, bulk_app, List.sum_append]; simp only [List.map_cons, List.map_nil, List.sum_cons, List.sum_nil, Rows.uptoBulkAll]; omega, fun i z hz => ?_⟩
          · rcases List.mem_append.1 hz with hz | hz
            · exact hl2 z hz
            · rw [List.mem_singleton.1 hz]; exact hyo
          · by_cases hi : i < m
            · rw [List.getElem?_append_left (by omega)] at hz
              exact hl3 i z hz
            · have hi' : i = m := by
                have := (List.getElem?_eq_some_iff.1 hz).1
                simp [hl1] at this
                omega
              subst hi'
              rw [List.getElem?_append_right (by omega), hl1] at hz
              simp at hz
              subst hz
              exact ⟨cs', hy, hcell⟩
      obtain ⟨l, hl1, hl2, hlb, hl3⟩ := hchoose len (Nat.le_refl _)
      rw [List.take_of_length_le (by omega)] at hlb
      have hsp : a.spot = none := by
        have h2 : l[0]? = some (l[0]'(by omega)) := List.getElem?_eq_getElem (by omega)
        obtain ⟨cs', hr, hcell⟩ := hl3 0 _ h2
        have hlr := R.len hr
        have := hcell 0 _ (List.getElem?_eq_getElem (by omega))
        simpa [Addr.add] using spot_none this
      obtain ⟨ab, ao, sp0⟩ := a
      simp only at hsp
      subst hsp
      have hadd : ∀ n, (⟨ab, ao, none⟩ : Addr).add n = ⟨ab, ao + n, none⟩ := fun n => by unfold Addr.add; split <;> simp_all
      have hblk : ab < w.heap.size := by
        have h2 : l[0]? = some (l[0]'(by omega)) := List.getElem?_eq_getElem (by omega)
        obtain ⟨cs', hr, hcell⟩ := hl3 0 _ h2
        have hlr := R.len hr
        have := World.block_lt_of_cell? w _ (hcell 0 _ (List.getElem?_eq_getElem (by omega)))
        rw [hadd] at this
        exact this
      refine ⟨l, ⟨some ⟨ab, ao, none⟩, cap, by rw [hl1], by omega, hm, .inr ⟨ab, ao, rfl, hblk, fun i y hy => ?_⟩⟩, ⟨hl2, by rw [hl1]; exact hreach⟩, by simp only [Rep.slice, Rows.uptoBulk]; omega⟩
      obtain ⟨cs', hr, hcell⟩ := hl3 i y hy
      refine ⟨cs', hr, fun j u hu => ?_⟩
      have := hcell j u hu
      rw [hadd] at this
      rw [Nat.add_assoc]
      exact this

/-- what is read before the call, argument by argument, is within the form's reach -/
theorem reach_of {H : Type} {ts : List TypeId} {ds : List (DataW H)} (h : (DataW.weightsEach P ts ds).all (· ≤ reachBytes) = true) {j : Nat} {t : TypeId} {d : DataW H} (ht : ts[j]? = some t) (hd : ds[j]? = some d) : ∀ n, n ∈ d.weights P t → n ≤ reachBytes :=
  fun n hn => by simpa using List.all_eq_true.1 h n (DataW.weights_mem_each ht hd n hn)
end

/-! ### The last step of a law's row -/
section
variable {H : Type} {enc : TypeId × Value → H} {P : Program}
theorem trodAll_stays (hl : laidOutB P = true) {W W' : World} {sp' : Nat → Bool} : ∀ (ts : List TypeId) (vs : List Value) (ds : List (DataW H)) (ps : List MemPlace),
    (∀ t, t ∈ ts → P.readableRec t = true ∧ t < P.types.size) → DataW.TrodAll enc P W 0 (fun _ => true) true ts vs ds ps → (∀ p ∈ ps, W.sameAt W' p) → (∀ p ∈ ps, sp' p.block = true) →
    DataW.TrodAll enc P W' 0 sp' true ts vs ds ps
  | [], vs, ds, ps, _, h, _, _ => by
    obtain ⟨rfl, rfl, rfl⟩ := trodAll_nil h
    rfl
  | t :: ts, vs, ds, ps, hr, h, hs, hsp => by
    obtain ⟨v, vs', d, ds', p, q, rfl, rfl, rfl, h1, h2⟩ := trodAll_cons h
    exact ⟨p, q, WideElems.Trod_stays hl (hr t (by simp)).1 (hr t (by simp)).2 h1 (fun x hx => hs x (by simp [hx])) (fun x hx => hsp x (by simp [hx])),
      trodAll_stays hl ts vs' ds' q (fun u hu => hr u (by simp [hu])) h2 (fun x hx => hs x (by simp [hx])) (fun x hx => hsp x (by simp [hx])), rfl⟩

theorem law_post {f : Func} {s : ChangeSpec} {W W' : World} {args : Array Value} {ds gs : List (DataW H)} {before : List MemPlace} {T : TypeId}
    (hl : laidOutB P = true) (hrd : ∀ t, t ∈ f.params.toList → P.readableRec t = true ∧ t < P.types.size) (hvars : s.vars = []) (hres : f.resultTypes = #[T]) (hT : P.underlying T = some .bool)
    (hW : DataW.Whole enc P f.params.toList s.vars false W args.toList ds gs before)
    (hfn : s.fn H (ds ++ gs) = { results := [.lit (.bool true)], args := ds }) (hb : Below W.heap.size W W') :
    s.post enc P f false true false false W args (.bool true) W' := by
  have hlt : ∀ p ∈ before, p.block < W.heap.size := fun p hp => hW.lt p hp
  have hW0 := hW
  obtain ⟨p, q, hA, hV, rfl, hz, hn⟩ := hW
  rw [hvars] at hV
  obtain ⟨rfl, rfl⟩ := trodVars_none hV
  rw [List.append_nil] at hfn
  have hold : ∀ x ∈ p ++ [], (fun b => decide (b < W.heap.size)) x.block = true := fun x hx => by simpa using hlt x hx
  have hsame : ∀ x ∈ p, W.sameAt W' x := fun x hx => hb.same (hlt x (by simp [hx]))
  have hresl : ((Value.bool true).resultList f.resultTypes.size) = [.bool true] := by rw [hres]; rfl
  have hok : ∀ (j : Nat) (t : TypeId) (r : Value), f.resultTypes[j]? = some t → ((Value.bool true).resultList f.resultTypes.size)[j]? = some r → Value.okWide P W' .any 0 t r := ok_one hres rfl (okWide_bool_mk hT true)
  have hR : ∀ (b : Nat) (sp : Nat → Bool) (hd : Bool), DataW.TrodAll enc P W' b sp hd f.resultTypes.toList ((Value.bool true).resultList f.resultTypes.size) (s.fn H (ds ++ [])).results [] := fun b sp hd => by
    rw [List.append_nil, hfn, hresl, hres]
    exact trodAll_mk1 (shut_bool hT true)
  have hA' : ∀ sp : Nat → Bool, (∀ x ∈ p ++ [], sp x.block = true) → DataW.TrodAll enc P W' 0 sp true f.params.toList args.toList (s.fn H (ds ++ [])).args p := fun sp hsp => by
    rw [List.append_nil, hfn]
    exact trodAll_stays hl _ _ _ _ hrd hA hsame (fun x hx => hsp x (by simp [hx]))
  have hV' : ∀ sp : Nat → Bool, DataW.TrodVars enc P W' sp s.vars (s.fn H (ds ++ [])).vars [] := fun sp => by
    rw [List.append_nil, hfn, hvars]
    rfl
  refine ⟨ds, [], p ++ [], [], p, [], hW0, hR _ _ _, hA' _ hold, hV' _, World.keptBut_mono (fun x hx => ⟨hx, by simpa using hx⟩) (hb.frame (· ∈ p ++ [])), fun _ => ?_⟩
  refine ⟨hok, _, _, ([] ++ p) ++ [], ⟨[] ++ p, [], trodAll_append (hA' _ (fun _ _ => rfl)) (hR _ _ _), hV' _, rfl, ?_, ?_⟩, ?_⟩
  · intro b off hp
    have hin : MemPlace.cell b off ∈ p ++ [] := by simpa using hp
    rw [hb.frozen (hlt _ hin)]
    exact hz b off hin
  · intro ha
    cases ha
  · intro x hx _
    simpa using hx
end
end Go.Proofs.Ytfggcmbainhglaa
namespace Go.Proofs.Ytfggcmbainhglaa
open Go.RowKit

def SlRep {α : Type} (R : Rep α) (w : World) (S : Nat → Prop) (l : List α) (A : Option Addr) (c : Nat) : Prop :=
  l.length ≤ c ∧ c ≤ maxLen ∧ (l = [] ∨ ∃ b o, A = some ⟨b, o, none⟩ ∧ S b ∧ R.at_ w S b o l)
theorem rep_slice_iff {α : Type} {R : Rep α} {w : World} {S : Nat → Prop} {l : List α} {cs : List Value} : (Rep.slice R).rep w S l cs ↔ ∃ A c, cs = [.slice A l.length c] ∧ SlRep R w S l A c := Iff.rfl
theorem rep_slice_val {α : Type} {R : Rep α} {w : World} {S : Nat → Prop} {l : List α} {A : Option Addr} {n c : Nat} : (Rep.slice R).rep w S l [.slice A n c] ↔ n = l.length ∧ SlRep R w S l A c := by
  constructor
  · rintro ⟨A', c', e, h⟩
    simp only [List.cons.injEq, Value.slice.injEq, and_true] at e
    obtain ⟨rfl, rfl, rfl⟩ := e
    exact ⟨rfl, h⟩
  · rintro ⟨rfl, h⟩
    exact ⟨A, c, rfl, h⟩

theorem SlRep.keep {α : Type} {R : Rep α} {w w' : World} {S S' : Nat → Prop} {l : List α} {A : Option Addr} {c : Nat} (h : SlRep R w S l A c) (hk : ∀ k, S k → S' k ∧ w'.heap[k]? = w.heap[k]?) : SlRep R w' S' l A c :=
  (rep_slice_val.1 ((Rep.slice R).mono (rep_slice_val.2 ⟨rfl, h⟩) hk)).2
theorem SlRep.below {α : Type} {R : Rep α} {w0 w w' : World} {l : List α} {A : Option Addr} {c : Nat} (h : SlRep R w (· < w0.heap.size) l A c) (hb : Below w0.heap.size w w') : SlRep R w' (· < w0.heap.size) l A c :=
  h.keep fun k hk => ⟨hk, hb.block k hk⟩
theorem SlRep.next {α : Type} {R : Rep α} {w w' : World} {l : List α} {A : Option Addr} {c : Nat} (h : SlRep R w (· < w.heap.size) l A c) (hb : Below w.heap.size w w') : SlRep R w' (· < w'.heap.size) l A c :=
  h.keep fun k hk => ⟨Nat.lt_of_lt_of_le hk hb.size, hb.block k hk⟩
theorem u8_at {w : World} {S : Nat → Prop} {l : List UInt8} {A : Option Addr} {c k : Nat} (h : SlRep Rep.u8 w S l A c) (hk : k < l.length) :
    ∃ b o, A = some ⟨b, o, none⟩ ∧ S b ∧ w.cell? ⟨b, o + k, none⟩ = some (.int .u8 ((l.getD k 0).toNat : Int)) := by
  rcases h.2.2 with rfl | ⟨b, o, rfl, hb, hr⟩
  · simp at hk
  · obtain ⟨cs, hcs, hc⟩ := hr k (l.getD k 0) (by rw [List.getD_eq_getElem?_getD, List.getElem?_eq_getElem hk]; rfl)
    subst hcs
    have := hc 0 _ rfl
    exact ⟨b, o, rfl, hb, by simpa [Rep.u8] using this⟩
theorem int_at {w : World} {S : Nat → Prop} {l : List Int} {A : Option Addr} {c k : Nat} (h : SlRep Rep.int w S l A c) (hk : k < l.length) :
    ∃ b o, A = some ⟨b, o, none⟩ ∧ S b ∧ w.cell? ⟨b, o + k, none⟩ = some (.int .i64 (l.getD k 0)) := by
  rcases h.2.2 with rfl | ⟨b, o, rfl, hb, hr⟩
  · simp at hk
  · obtain ⟨cs, hcs, hc⟩ := hr k (l.getD k 0) (by rw [List.getD_eq_getElem?_getD, List.getElem?_eq_getElem hk]; rfl)
    subst hcs
    have := hc 0 _ rfl
    exact ⟨b, o, rfl, hb, by simpa [Rep.int] using this⟩

structure Token where
  byte : UInt8
  dist : Int
  len : Int
  deriving DecidableEq

def Token.tup (x : Token) : UInt8 × Int × Int × Unit := (x.byte, x.dist, x.len, ())

def Token.rep : Rep Token := Rep.via Token.tup (Rep.pair Rep.u8 (Rep.pair Rep.int (Rep.pair Rep.int Rep.unit)))

def Token.ok (x : Token) : Prop := IntOk x.dist ∧ IntOk x.len

def Token.cells (x : Token) : List Value := [.int .u8 x.byte.toNat, .int .i64 x.dist, .int .i64 x.len]
theorem Token.rep_iff {w : World} {S : Nat → Prop} {x : Token} {cs : List Value} : Token.rep.rep w S x cs ↔ cs = Token.cells x := by
  constructor
  · intro h
    obtain ⟨_, _, rfl, rfl, ⟨_, _, rfl, rfl, ⟨_, _, rfl, rfl, rfl⟩⟩⟩ := h
    rfl
  · rintro rfl
    exact ⟨_, _, rfl, rfl, ⟨_, _, rfl, rfl, ⟨_, _, rfl, rfl, rfl⟩⟩⟩

theorem Token.enc (w : World) (S : Nat → Prop) (x : Token) : Token.rep.rep w S x (Token.cells x) := Token.rep_iff.2 rfl
theorem Token.one (l : List Token) : ∀ u ∈ l.flatMap Token.cells, u.oneCell' = true := by
  intro u hu
  obtain ⟨x, _, hx⟩ := List.mem_flatMap.1 hu
  simp only [Token.cells, List.mem_cons, List.not_mem_nil, or_false] at hx
  rcases hx with rfl | rfl | rfl <;> rfl

theorem Token.cells_at (z : Token) {w : World} {S : Nat → Prop} {l : List Token} {A : Option Addr} {c k : Nat} (h : SlRep Token.rep w S l A c) (hk : k < l.length) :
    ∃ b o, A = some ⟨b, o, none⟩ ∧ S b ∧ w.cell? ⟨b, o + k * 3, none⟩ = some (.int .u8 (l.getD k z).byte.toNat) ∧ w.cell? ⟨b, o + k * 3 + 1, none⟩ = some (.int .i64 (l.getD k z).dist) ∧ w.cell? ⟨b, o + k * 3 + 2, none⟩ = some (.int .i64 (l.getD k z).len) := by
  rcases h.2.2 with rfl | ⟨b, o, rfl, hb, hr⟩
  · simp at hk
  · obtain ⟨cs, hcs, hc⟩ := hr k (l.getD k z) (by rw [List.getD_eq_getElem?_getD, List.getElem?_eq_getElem hk]; rfl)
    rw [Token.rep_iff] at hcs
    subst hcs
    exact ⟨b, o, rfl, hb, hc 0 _ rfl, hc 1 _ rfl, hc 2 _ rfl⟩

set_option maxRecDepth 100000 in
theorem opens_Token : Opens Try.prog Token.rep Token.ok 36 :=
  opens_weak (opens_via Token.tup (fun b => ⟨b.1, b.2.1, b.2.2.1⟩) (fun _ => rfl) (opens_struct Try.underlying36 (by kernel_rfl) (opensF_cons (opens_u8 Try.underlying5 (by kernel_rfl)) rfl (opensF_cons (opens_int Try.underlying3 (by kernel_rfl)) rfl (opensF_cons (opens_int Try.underlying3 (by kernel_rfl)) rfl (opensF_nil _)))))) (fun a ho => by
    obtain ⟨h0, ⟨h1, ⟨h2, _⟩⟩⟩ := ho
    exact ⟨h1, h2⟩)

end Go.Proofs.Ytfggcmbainhglaa
namespace Go.Proofs.Ytfggcmbainhglaa
open Go.RowKit

/-- a slice type and its element's table row -/
structure ElemT (P : Program) (t e : TypeId) (size bytes : Nat) : Prop where
  und : P.underlying t = some (.slice e)
  info : ∃ i z, P.info? e = some i ∧ i.zero = some z ∧ i.size = size ∧ i.bytes = bytes ∧ z.cells.size = size
  pos : 0 < size
theorem ElemT.of {P : Program} {t e : TypeId} {size bytes : Nat} {z : Value} (h : P.underlying t = some (.slice e)) (hi : (P.info? e).map (fun i => (i.zero, i.size, i.bytes)) = some (some z, size, bytes)) (hz : z.cells.size = size) (hp : 0 < size) :
    ElemT P t e size bytes := by
  obtain ⟨i0, a1, a2, a3, a4⟩ := info_parts hi
  exact ⟨h, ⟨i0, z, a1, a2, a3, a4, hz⟩, hp⟩

/-- the block of an address -/
def blkOf (A : Option Addr) : Option Nat := A.map (·.block)
/-- the slice (A, n, c) owns the cells xs, from block base on -/
def Own (w : World) (base : Nat) (e : TypeId) (size : Nat) (A : Option Addr) (n c : Nat) (xs : List Value) : Prop := w.ownsRow base e size (.slice A n c) n xs
/-- w' is w with new blocks and writes into A's block; A' lies there or in a new block -/
structure Grew (w w' : World) (A A' : Option Addr) : Prop where
  grown : w.grownBy w' (blkOf A)
  blk : blkOf A' = blkOf A ∨ ∃ k, w.heap.size ≤ k ∧ blkOf A' = some k

theorem ownBlock_slice (A : Option Addr) (n c : Nat) : (Value.slice A n c).ownBlock = blkOf A := by cases A <;> rfl
theorem Grew.refl (w : World) (A : Option Addr) : Grew w w A A := ⟨World.grownBy.refl w _, .inl rfl⟩
theorem Grew.trans {a b c : World} {A B C : Option Addr} (h : Grew a b A B) (k : Grew b c B C) : Grew a c A C := by
  refine ⟨⟨k.grown.os.trans h.grown.os, k.grown.tape.trans h.grown.tape, k.grown.output.trans h.grown.output, Nat.le_trans h.grown.size k.grown.size, fun i hi hne => ?_⟩, ?_⟩
  · refine (k.grown.block i (Nat.lt_of_lt_of_le hi h.grown.size) (fun e => ?_)).trans (h.grown.block i hi hne)
    rcases h.blk with hb | ⟨g, hg, hb⟩
    · exact hne (e.trans hb)
    · rw [hb] at e
      injection e with e
      omega
  · have hs := h.grown.size
    rcases k.blk with hb | ⟨g, hg, hb⟩
    · rw [hb]; exact h.blk
    · exact .inr ⟨g, by omega, hb⟩
theorem Grew.alloc {a b : World} {A B : Option Addr} (h : Grew a b A B) (o : Obj) : Grew a (b.alloc o) A B :=
  ⟨⟨h.grown.os, h.grown.tape, h.grown.output, by simp only [World.size_alloc]; have := h.grown.size; omega, fun i hi hne => (Below.heap_alloc b o i (Nat.lt_of_lt_of_le hi h.grown.size)).trans (h.grown.block i hi hne)⟩, h.blk⟩
theorem Grew.drew {a b : World} {A B : Option Addr} (h : Grew a b A B) : Grew a b.drew A B := ⟨⟨h.grown.os, h.grown.tape, h.grown.output, h.grown.size, h.grown.block⟩, h.blk⟩
theorem Grew.drewN {a b : World} {A B : Option Addr} (h : Grew a b A B) (n : Nat) : Grew a (b.drewN n) A B := ⟨⟨h.grown.os, h.grown.tape, h.grown.output, h.grown.size, h.grown.block⟩, h.blk⟩
theorem Grew.below {w w' : World} {A A' : Option Addr} {B : Nat} (h : Grew w w' A A') (hB : B ≤ w.heap.size) (hA : ∀ k, blkOf A = some k → B ≤ k) : Below B w w' :=
  (Below.refl B w).grown h.grown hB hA
theorem Grew.step {w0 w w' : World} {A A' : Option Addr} (hb : Below w0.heap.size w0 w) (h : Grew w w' A A') (hA : ∀ k, blkOf A = some k → w0.heap.size ≤ k) : Below w0.heap.size w0 w' :=
  hb.trans (h.below hb.size hA)

section
variable {w w' : World} {base : Nat} {e : TypeId} {size n c : Nat} {A : Option Addr} {xs : List Value}
theorem Own.nil (w : World) (base : Nat) (e : TypeId) (size : Nat) : Own w base e size none 0 0 [] := World.ownsRow_nil w base e size
theorem Own.new (w : World) (base : Nat) (e : TypeId) (size n c : Nat) (xs cs : List Value) (hb : base ≤ w.heap.size) (hx : xs.length = n * size) (hc : cs.length = c * size) (hn : n ≤ c) (hm : c ≤ maxLen) (ht : cs.take (n * size) = xs) :
    Own (w.alloc (.cells cs.toArray e)) base e size (some ⟨w.heap.size, 0, none⟩) n c xs :=
  ⟨hx, .inr ⟨w.heap.size, c, cs.toArray, rfl, hb, heap_alloc_new w _, hn, hm, by simpa using hc, by simpa using ht⟩⟩
theorem Own.lit (w : World) (base : Nat) (e : TypeId) (size n : Nat) (xs : List Value) (hb : base ≤ w.heap.size) (hx : xs.length = n * size) (hm : n ≤ maxLen) : Own (w.alloc (.cells xs.toArray e)) base e size (some ⟨w.heap.size, 0, none⟩) n n xs :=
  Own.new w base e size n n xs xs hb hx hx (Nat.le_refl _) hm (by rw [← hx, List.take_length])
theorem Own.lt (h : Own w base e size A n c xs) : ∀ k, blkOf A = some k → base ≤ k ∧ k < w.heap.size := fun k hk => World.ownsRow.lt h k (by rw [ownBlock_slice]; exact hk)
theorem Own.len (h : Own w base e size A n c xs) : xs.length = n * size := h.1
theorem Own.cap (h : Own w base e size A n c xs) : n ≤ c ∧ c ≤ maxLen := by
  rcases h.2 with ⟨h1, rfl⟩ | ⟨g, cap, cur, h1, _, _, h2, h3, _⟩
  · simp only [Value.slice.injEq] at h1
    omega
  · simp only [Value.slice.injEq] at h1
    omega
theorem Own.alloc (h : Own w base e size A n c xs) (o : Obj) : Own (w.alloc o) base e size A n c xs := World.ownsRow.alloc h o
theorem Own.drew (h : Own w base e size A n c xs) : Own w.drew base e size A n c xs := h
theorem Own.drewN (h : Own w base e size A n c xs) (k : Nat) : Own (w.drewN k) base e size A n c xs := h
theorem Own.kept {row : Option Nat} (h : Own w base e size A n c xs) (hg : w.grownBy w' row) (hne : blkOf A = none ∨ blkOf A ≠ row) : Own w' base e size A n c xs :=
  World.ownsRow.kept h hg (by rw [ownBlock_slice]; exact hne)
theorem Own.below {B : Nat} (h : Own w base e size A n c xs) (hb : Below B w w') (hB : ∀ k, blkOf A = some k → k < B) : Own w' base e size A n c xs := by
  refine ⟨h.1, ?_⟩
  rcases h.2 with h2 | ⟨g, cap, cur, h1, h2, h3, h4⟩
  · exact .inl h2
  · refine .inr ⟨g, cap, cur, h1, h2, (hb.block g (hB g ?_)).trans h3, h4⟩
    simp only [Value.slice.injEq] at h1
    rw [h1.1]
    rfl
theorem Own.next (h : Own w base e size A n c xs) (hb : Below w.heap.size w w') : Own w' base e size A n c xs := h.below hb fun k hk => (h.lt k hk).2
theorem Own.setCell (h : Own w base e size A n c xs) {p : Addr} (hp : blkOf A ≠ some p.block) (u : Value) : Own (w.setCell p u) base e size A n c xs := by
  refine ⟨h.1, ?_⟩
  rcases h.2 with h2 | ⟨g, cap, cur, h1, h2, h3, h4⟩
  · exact .inl h2
  · refine .inr ⟨g, cap, cur, h1, h2, (Below.heap_setCell w p u g (fun e => hp ?_)).trans h3, h4⟩
    simp only [Value.slice.injEq] at h1
    rw [h1.1, ← e]
    rfl
theorem Own.base_le {b' : Nat} (h : Own w base e size A n c xs) (hb : b' ≤ base) : Own w b' e size A n c xs := by
  refine ⟨h.1, ?_⟩
  rcases h.2 with h2 | ⟨g, cap, cur, h1, h2, h3⟩
  · exact .inl h2
  · exact .inr ⟨g, cap, cur, h1, Nat.le_trans hb h2, h3⟩
theorem Own.cell (h : Own w base e size A n c xs) {j : Nat} {u : Value} (hj : xs[j]? = some u) : ∃ g, A = some ⟨g, 0, none⟩ ∧ base ≤ g ∧ g < w.heap.size ∧ w.cell? ⟨g, j, none⟩ = some u := by
  rcases h.2 with ⟨h1, rfl⟩ | ⟨g, cap, cur, h1, h2, h3, h4, h5, h6, h7⟩
  · have := h.1
    have hl := (List.getElem?_eq_some_iff.1 hj).1
    omega
  · simp only [Value.slice.injEq] at h1
    refine ⟨g, h1.1, h2, (Array.getElem?_eq_some_iff.1 h3).1, ?_⟩
    rw [cell_of_row w g j cur e (0, 0) h3]
    rw [← h7, List.getElem?_take] at hj
    split at hj
    · simpa using hj
    · cases hj
end

/-- the cells that a slice begins with -/
def Cells (w : World) (A : Option Addr) (xs : List Value) : Prop := xs = [] ∨ ∃ b o, A = some ⟨b, o, none⟩ ∧ ∀ j u, xs[j]? = some u → w.cell? ⟨b, o + j, none⟩ = some u
theorem Cells.nil (w : World) (A : Option Addr) : Cells w A [] := .inl rfl
theorem Own.cells {w : World} {base : Nat} {e : TypeId} {size n c : Nat} {A : Option Addr} {xs : List Value} (h : Own w base e size A n c xs) : Cells w A xs := by
  rcases h.2 with ⟨h1, rfl⟩ | ⟨g, cap, cur, h1, h2, h3, h4, h5, h6, h7⟩
  · exact .inl (List.eq_nil_of_length_eq_zero (by have := h.1; omega))
  · simp only [Value.slice.injEq] at h1
    refine .inr ⟨g, 0, h1.1, fun j u hu => ?_⟩
    obtain ⟨g', e1, _, _, hc⟩ := h.cell hu
    rw [h1.1] at e1
    simp only [Option.some.injEq, Addr.mk.injEq, and_true] at e1
    rw [e1, Nat.zero_add]
    exact hc

theorem Cells.new (w : World) (t : TypeId) (xs : List Value) : Cells (w.alloc (.cells xs.toArray t)) (some ⟨w.heap.size, 0, none⟩) xs :=
  .inr ⟨_, _, rfl, fun j u hu => by rw [Nat.zero_add, World.cell?_alloc_new]; simpa using hu⟩
theorem Cells.one (w : World) (t : TypeId) (x : Value) : Cells (w.alloc (.cells #[x] t)) (some ⟨w.heap.size, 0, none⟩) [x] := Cells.new w t [x]

section
variable {P : Program} (w : World)
theorem run_app_nil (base : Nat) (t ty e : TypeId) (i : TypeInfo) (size : Nat) (ht : P.underlying t = some (.slice e)) (hi : P.info? e = some i)
    (v : Value) (n : Nat) (xs : List Value) (hown : w.ownsRow base e size v n xs) (c : Nat) : (Builtin.append_ #[t, t] ty #[v, .slice none 0 c]).run P w = .ok v w := by
  rcases hown.2 with ⟨rfl, rfl⟩ | ⟨g, cap, cur, rfl, _, _, hnc, _⟩
  · simp [Builtin.append_, run_underlying ht, sizeOf, typeInfo, hi, Builtin.lenOf, Builtin.firstCells]
  · simp [Builtin.append_, run_underlying ht, sizeOf, typeInfo, hi, Builtin.lenOf, Builtin.firstCells, hnc, storeCells]

theorem own_shape {w : World} {base : Nat} {e : TypeId} {size n : Nat} {v : Value} {xs : List Value} (h : w.ownsRow base e size v n xs) : ∃ A c, v = .slice A n c := by
  rcases h.2 with ⟨rfl, rfl⟩ | ⟨g, cap, cur, rfl, _⟩
  · exact ⟨_, _, rfl⟩
  · exact ⟨_, _, rfl⟩

theorem run_app {t ty e : TypeId} {size bytes : Nat} (hT : ElemT P t e size bytes) (base : Nat) (A : Option Addr) (n c : Nat) (xs : List Value) (hown : Own w base e size A n c xs)
    (B : Option Addr) (m d : Nat) (news : List Value) (hl : news.length = m * size) (hnews : Cells w B news) (h1 : ∀ u ∈ news, u.oneCell' = true) (hroom : (n + m) * bytes ≤ 140737488355328) (h63 : n + m ≤ maxLen) (hbase : base ≤ w.heap.size) :
    ∃ A' c' w', (Builtin.append_ #[t, t] ty #[.slice A n c, .slice B m d]).run P w = .ok (.slice A' (n + m) c') w' ∧ Own w' base e size A' (n + m) c' (xs ++ news) ∧ Grew w w' A A' := by
  obtain ⟨i, z, hi, hz, hsize, hby, hzs⟩ := hT.info
  have hpos := hT.pos
  have key : ∀ ad : Addr, B = some ad → (∀ j u, news[j]? = some u → w.cell? (ad.add j) = some u) → ∃ A' c' w', (Builtin.append_ #[t, t] ty #[.slice A n c, .slice B m d]).run P w = .ok (.slice A' (n + m) c') w' ∧ Own w' base e size A' (n + m) c' (xs ++ news) ∧ Grew w w' A A' := by
    rintro ad rfl hc
    obtain ⟨v', w', hr, h2, h3, _, h5⟩ := run_append_own_at (P := P) w base t ty e i z size bytes hT.und hi hz hsize hby hzs hT.pos (.slice A n c) n xs hown ad m d news hl hc h1 h63 hroom hbase
    obtain ⟨A', c', rfl⟩ := own_shape h2
    rw [ownBlock_slice] at h3
    rw [ownBlock_slice, ownBlock_slice] at h5
    exact ⟨A', c', w', hr, h2, h3, h5.imp id fun h => ⟨_, Nat.le_refl _, h⟩⟩
  rcases hnews with rfl | ⟨b, o, rfl, hc⟩
  · have hm : m = 0 := by
      rcases Nat.eq_zero_or_pos m with h | h
      · exact h
      · have := Nat.mul_pos h hpos
        simp at hl
        omega
    subst hm
    cases B with
    | none => exact ⟨A, c, w, run_app_nil w base t ty e i size hT.und hi _ n xs hown d, by simpa [Own] using hown, Grew.refl w A⟩
    | some ad => exact key ad rfl (fun j u h => by simp at h)
  · refine key _ rfl fun j u hu => ?_
    have : (⟨b, o, none⟩ : Addr).add j = ⟨b, o + j, none⟩ := by unfold Addr.add; split <;> simp_all
    rw [this]
    exact hc j u hu

theorem wp_app {ops : Array Oper} {rest : List Oper} {o : Oper} {a : Act} {Q : Exit → Act → World → Prop} (hgd : o.guard = none) (s x : Operand) (t : TypeId)
    (ho : o.op = .call { callee := .builtin .append, args := #[s, x], argTypes := #[t, t] }) {e : TypeId} {size bytes : Nat} (hT : ElemT P t e size bytes) (base : Nat) (A : Option Addr) (n c : Nat) (xs : List Value) (hs : a.eval s = .slice A n c) (hown : Own w base e size A n c xs)
    (B : Option Addr) (m d : Nat) (news : List Value) (hx : a.eval x = .slice B m d) (hl : news.length = m * size) (hnews : Cells w B news) (h1 : ∀ u ∈ news, u.oneCell' = true) (hroom : (n + m) * bytes ≤ 140737488355328) (h63 : n + m ≤ maxLen) (hbase : base ≤ w.heap.size)
    (h : ∀ A' c' w', Own w' base e size A' (n + m) c' (xs ++ news) → Grew w w' A A' → wpList P ops Q rest (a.put o.dst (.slice A' (n + m) c')) w') : wpList P ops Q (o :: rest) a w :=
  wpList_plain hgd fun K hK => by
    obtain ⟨A', c', w', hr, h2, h3⟩ := run_app (P := P) (ty := o.type) w hT base A n c xs hown B m d news hl hnews h1 hroom h63 hbase
    unfold Oper.wp execOp
    simp only [ho, resolve, invoke, builtin, Sem.run_bind, Sem.run_pure, Result.andThen_ok, List.map_toArray, List.map_cons, List.map_nil, hs, hx, hr]
    exact hK _ _ (h A' c' w' h2 h3)
end

/-! ### Readings out of rows of the call's own -/
theorem SlRep.cells_u8 {w : World} {S : Nat → Prop} {l : List UInt8} {A : Option Addr} {c : Nat} (h : SlRep Rep.u8 w S l A c) : Cells w A (l.map fun b => Value.int .u8 (b.toNat : Int)) := by
  rcases h.2.2 with rfl | ⟨b, o, rfl, _, hr⟩
  · exact .inl rfl
  · refine .inr ⟨b, o, rfl, fun j u hu => ?_⟩
    rw [List.getElem?_map] at hu
    obtain ⟨y, hy, rfl⟩ := Option.map_eq_some_iff.1 hu
    obtain ⟨cs, hcs, hc⟩ := hr j y hy
    subst hcs
    have := hc 0 _ rfl
    simpa [Rep.u8] using this
theorem Own.u8 {w : World} {base : Nat} {e : TypeId} {A : Option Addr} {n c : Nat} {l : List UInt8} (h : Own w base e 1 A n c (l.map fun b => Value.int .u8 (b.toNat : Int))) : n = l.length ∧ SlRep Rep.u8 w (fun k => base ≤ k ∧ k < w.heap.size) l A c := by
  have hn : n = l.length := by have := h.len; simp at this; omega
  refine ⟨hn, ⟨by have := h.cap; omega, h.cap.2, ?_⟩⟩
  cases l with
  | nil => exact .inl rfl
  | cons x r =>
    obtain ⟨g, rfl, h1, h2, _⟩ := h.cell (j := 0) (u := .int .u8 (x.toNat : Int)) rfl
    refine .inr ⟨g, 0, rfl, ⟨h1, h2⟩, fun i y hy => ⟨_, rfl, fun j u hu => ?_⟩⟩
    obtain ⟨g', e1, _, _, hc⟩ := h.cell (j := i) (u := .int .u8 (y.toNat : Int)) (by rw [List.getElem?_map, hy]; rfl)
    simp only [Option.some.injEq, Addr.mk.injEq, and_true] at e1
    subst e1
    have hj : j = 0 := by have := (List.getElem?_eq_some_iff.1 hu).1; simp at this; omega
    subst hj
    simp at hu
    subst hu
    simpa [Rep.u8] using hc
theorem oneCell_u8 (l : List UInt8) : ∀ u ∈ (l.map fun b => Value.int .u8 (b.toNat : Int)), u.oneCell' = true := by
  intro u hu
  obtain ⟨b, _, rfl⟩ := List.mem_map.1 hu
  rfl
end Go.Proofs.Ytfggcmbainhglaa
namespace Go.Proofs.Ytfggcmbainhglaa
open Go.RowKit

theorem elemU8 : ElemT Try.prog 29 5 1 1 := ElemT.of Try.underlying29 (z := .int .u8 0) (by kernel_rfl) rfl (by decide)

def u8v (b : UInt8) : Value := .int .u8 (b.toNat : Int)
/-- a number's lowest byte -/
def byteOf (x : Int) : UInt8 := UInt8.ofNat (x % 256).toNat
theorem byteOf_toNat (x : Int) : ((byteOf x).toNat : Int) = x % 256 := by
  unfold byteOf
  rw [UInt8.toNat_ofNat']
  omega
/-- a number in so many bytes, the highest one first -/
def beBytes (n : Int) : Nat → List UInt8
  | 0 => []
  | k + 1 => byteOf (n / 2 ^ (8 * k)) :: beBytes n k


/-! ### What a call answers: a list, or a fault -/
def exL {α : Type} : Except Int (List α) → List α
  | .ok l => l
  | .error _ => []
def exC {β : Type} : Except Int β → Int
  | .ok _ => 0
  | .error c => c
def BytesRes (r : Except Int (List UInt8)) (w : World) (e : Ending) (w' : World) : Prop :=
  ∃ A c, e = .returned (.tuple #[.slice A (exL r).length c, .int .i64 (exC r)]) ∧ Own w' w.heap.size 5 1 A (exL r).length c ((exL r).map u8v) ∧ Below w.heap.size w w'
theorem BytesRes.no {r : Except Int (List UInt8)} {c : Int} (h : r = .error c) {w w' : World} (hb : Below w.heap.size w w') : BytesRes r w (.returned (.tuple #[.slice none 0 0, .int .i64 c])) w' := by
  subst h
  exact ⟨none, 0, rfl, Own.nil _ _ _ _, hb⟩
theorem BytesRes.yes {r : Except Int (List UInt8)} {l : List UInt8} (h : r = .ok l) {w w' : World} {A : Option Addr} {n c : Nat} (ho : Own w' w.heap.size 5 1 A n c (l.map u8v)) (hb : Below w.heap.size w w') : BytesRes r w (.returned (.tuple #[.slice A n c, .int .i64 0])) w' := by
  subst h
  have hn := ho.u8.1
  subst hn
  exact ⟨A, c, rfl, ho, hb⟩
end Go.Proofs.Ytfggcmbainhglaa
namespace Go.Proofs.Ytfggcmbainhglaa
open Go.RowKit

theorem Cells.newAt (w : World) (t : TypeId) (xs : List Value) {b : Nat} (hb : b = w.heap.size) : Cells (w.alloc (.cells xs.toArray t)) (some ⟨b, 0, none⟩) xs := by
  subst hb
  exact Cells.new w t xs

theorem Grew.cell {w w' : World} {A A' : Option Addr} (h : Grew w w' A A') {b : Nat} (o : Nat) (hb : b < w.heap.size) (hne : ∀ k, blkOf A = some k → k ≠ b) : w'.cell? ⟨b, o, none⟩ = w.cell? ⟨b, o, none⟩ :=
  World.cell?_of_block (h.grown.block b hb (fun e => hne b e.symm rfl))
theorem Grew.frozen {w w' : World} {A A' : Option Addr} (h : Grew w w' A A') {b : Nat} (o : Nat) (hb : b < w.heap.size) (hne : ∀ k, blkOf A = some k → k ≠ b) : w'.frozen? ⟨b, o, none⟩ = w.frozen? ⟨b, o, none⟩ :=
  World.frozen?_of_block (h.grown.block b hb (fun e => hne b e.symm rfl))

theorem flatMap_at {α : Type} (f : α → List Value) (size : Nat) (hf : ∀ a, (f a).length = size) : ∀ (l : List α) (i : Nat) (y : α), l[i]? = some y → ∀ j, j < size → (l.flatMap f)[i * size + j]? = (f y)[j]?
  | [], i, y, h, j, _ => by simp at h
  | x :: r, 0, y, h, j, hj => by
    simp at h
    subst h
    rw [List.flatMap_cons, Nat.zero_mul, Nat.zero_add, List.getElem?_append_left (by rw [hf]; exact hj)]
  | x :: r, i + 1, y, h, j, hj => by
    rw [List.flatMap_cons, List.getElem?_append_right (by rw [hf, Nat.succ_mul]; omega), hf, show (i + 1) * size + j - size = i * size + j by rw [Nat.succ_mul]; omega]
    exact flatMap_at f size hf r i y (by simpa using h) j hj
theorem flatMap_len {α : Type} (f : α → List Value) (size : Nat) (hf : ∀ a, (f a).length = size) : ∀ l : List α, (l.flatMap f).length = l.length * size
  | [] => by simp
  | x :: r => by rw [List.flatMap_cons, List.length_append, hf, flatMap_len f size hf r, List.length_cons, Nat.succ_mul, Nat.add_comm]

theorem Own.flat {w : World} {base : Nat} {e : TypeId} {A : Option Addr} {n c size : Nat} {α : Type} {R : Rep α} (enc : α → List Value) (hR : R.size = size) (henc : ∀ (S : Nat → Prop) (a : α), R.rep w S a (enc a)) (hpos : 0 < size) {l : List α}
    (h : Own w base e size A n c (l.flatMap enc)) : n = l.length ∧ SlRep R w (fun k => base ≤ k ∧ k < w.heap.size) l A c := by
  subst hR
  have hf : ∀ a, (enc a).length = R.size := fun a => R.len (henc (fun _ => True) a)
  have hn : n = l.length := by
    have h1 := h.len
    rw [flatMap_len enc R.size hf] at h1
    exact (Nat.eq_of_mul_eq_mul_right hpos h1).symm
  refine ⟨hn, ⟨by have := h.cap; omega, h.cap.2, ?_⟩⟩
  cases l with
  | nil => exact .inl rfl
  | cons x r =>
    have h0 : ((x :: r).flatMap enc)[0]? = some ((enc x)[0]'(by rw [hf]; exact hpos)) := by
      have := flatMap_at enc R.size hf (x :: r) 0 x rfl 0 hpos
      rw [Nat.zero_mul, Nat.zero_add] at this
      rw [this, List.getElem?_eq_getElem]
    obtain ⟨g, rfl, h1, h2, _⟩ := h.cell h0
    refine .inr ⟨g, 0, rfl, ⟨h1, h2⟩, fun i y hy => ⟨enc y, henc _ y, fun j u hu => ?_⟩⟩
    have hj : j < R.size := by rw [← hf y]; exact (List.getElem?_eq_some_iff.1 hu).1
    obtain ⟨g', e1, _, _, hc⟩ := h.cell (j := i * R.size + j) (u := u) (by rw [flatMap_at enc R.size hf _ i y hy j hj]; exact hu)
    simp only [Option.some.injEq, Addr.mk.injEq, and_true] at e1
    subst e1
    rw [Nat.zero_add]
    exact hc

theorem SlRep.cells_flat {w : World} {S : Nat → Prop} {α : Type} {R : Rep α} {l : List α} {A : Option Addr} {c size : Nat} (enc : α → List Value) (hR : R.size = size) (hinv : ∀ a cs, R.rep w S a cs → cs = enc a) (henc : ∀ a, (enc a).length = size) (hpos : 0 < size)
    (h : SlRep R w S l A c) : Cells w A (l.flatMap enc) := by
  subst hR
  rcases h.2.2 with rfl | ⟨b, o, rfl, _, hr⟩
  · exact .inl rfl
  · refine .inr ⟨b, o, rfl, fun j u hu => ?_⟩
    have hj : j < l.length * R.size := by rw [← flatMap_len enc R.size henc]; exact (List.getElem?_eq_some_iff.1 hu).1
    have hi : j / R.size < l.length := (Nat.div_lt_iff_lt_mul hpos).2 hj
    have hy : l[j / R.size]? = some (l[j / R.size]'hi) := List.getElem?_eq_getElem hi
    obtain ⟨cs, hcs, hc⟩ := hr _ _ hy
    rw [hinv _ _ hcs] at hc
    have hm : j % R.size < R.size := Nat.mod_lt _ hpos
    have hdm : j / R.size * R.size + j % R.size = j := by rw [Nat.mul_comm]; exact Nat.div_add_mod j R.size
    have := flatMap_at enc R.size henc l _ _ hy (j % R.size) hm
    rw [hdm, hu] at this
    have h2 := hc (j % R.size) u this.symm
    rw [Nat.add_assoc, hdm] at h2
    exact h2
end Go.Proofs.Ytfggcmbainhglaa
namespace Go.Proofs.Ytfggcmbainhglaa
open Go.RowKit

section
variable {P : Program} (w : World)
theorem wp_run {ops : Array Oper} {rest : List Oper} {o : Oper} {a : Act} {Q : Exit → Act → World → Prop} (hgd : o.guard = none) (s x : Operand) (t1 t2 : TypeId)
    (ho : o.op = .call { callee := .builtin .append, args := #[s, x], argTypes := #[t1, t2] }) {v1 v2 v : Value} {w' : World} (hs : a.eval s = v1) (hx : a.eval x = v2)
    (hr : (Builtin.append_ #[t1, t2] o.type #[v1, v2]).run P w = .ok v w') (h : wpList P ops Q rest (a.put o.dst v) w') : wpList P ops Q (o :: rest) a w :=
  wpList_plain hgd fun K hK => by
    unfold Oper.wp execOp
    simp only [ho, resolve, invoke, builtin, Sem.run_bind, Sem.run_pure, Result.andThen_ok, List.map_toArray, List.map_cons, List.map_nil, hs, hx, hr]
    exact hK _ _ h
theorem step_app {ops : Array Oper} {o : Oper} {a : Act} {K : Act → World → Prop} {Q : Exit → Act → World → Prop} {E : Prop} (hgd : o.guard = none) (s x : Operand) (t : TypeId)
    (ho : o.op = .call { callee := .builtin .append, args := #[s, x], argTypes := #[t, t] }) {e : TypeId} {size bytes : Nat} (hT : ElemT P t e size bytes) (base : Nat) (A : Option Addr) (n c : Nat) (xs : List Value) (hs : a.eval s = .slice A n c) (hown : Own w base e size A n c xs)
    (B : Option Addr) (m d : Nat) (news : List Value) (hx : a.eval x = .slice B m d) (hl : news.length = m * size) (hnews : Cells w B news) (h1 : ∀ u ∈ news, u.oneCell' = true) (hroom : (n + m) * bytes ≤ 140737488355328) (h63 : n + m ≤ maxLen) (hbase : base ≤ w.heap.size)
    (h : ∀ A' c' w', Own w' base e size A' (n + m) c' (xs ++ news) → Grew w w' A A' → K (a.put o.dst (.slice A' (n + m) c')) w') :
    if Region.wanted o (yielded ops a.tmps) = true then Oper.wp P o a w K Q else E := by
  have hw : Region.wanted o (yielded ops a.tmps) = true := by simp [Region.wanted, hgd]
  rw [if_pos hw]
  obtain ⟨A', c', w', hr, h2, h3⟩ := run_app (P := P) (ty := o.type) w hT base A n c xs hown B m d news hl hnews h1 hroom h63 hbase
  unfold Oper.wp execOp
  simp only [ho, resolve, invoke, builtin, Sem.run_bind, Sem.run_pure, Result.andThen_ok, List.map_toArray, List.map_cons, List.map_nil, hs, hx, hr]
  exact h A' c' w' h2 h3
end

theorem Cells.below {w w' : World} {A : Option Addr} {xs : List Value} (h : Cells w A xs) {B : Nat} (hb : Below B w w') (hA : ∀ k, blkOf A = some k → k < B) : Cells w' A xs := by
  rcases h with rfl | ⟨b, o, rfl, hc⟩
  · exact .inl rfl
  · exact .inr ⟨b, o, rfl, fun j u hu => (hb.cell (p := ⟨b, o + j, none⟩) (hA b rfl)).trans (hc j u hu)⟩
theorem Grew.ne {w w' : World} {A A' : Option Addr} (h : Grew w w' A A') {b : Nat} (hA : ∀ k, blkOf A = some k → k ≠ b) (hb : b < w.heap.size) : ∀ k, blkOf A' = some k → k ≠ b := by
  intro k hk
  rcases h.blk with e | ⟨g, hg, e⟩
  · rw [e] at hk
    exact hA k hk
  · rw [hk] at e
    cases e
    omega
theorem Cells.len_of_none {w : World} {xs : List Value} (h : Cells w none xs) : xs = [] := by
  rcases h with h | ⟨b, o, h, _⟩
  · exact h
  · cases h

/-! ### A cut of a slice: its address under one name -/
def cutA (A : Option Addr) (c f size : Nat) : Option Addr := if c = f then A else A.map (·.add (f * size))
theorem addr_add (b o n : Nat) : (⟨b, o, none⟩ : Addr).add n = ⟨b, o + n, none⟩ := by unfold Addr.add; split <;> simp_all
theorem cutA_blk {A : Option Addr} {c f size : Nat} (h : ∀ a, A = some a → a.spot = none) : blkOf (cutA A c f size) = blkOf A := by
  unfold cutA
  split
  · rfl
  · cases A with
    | none => rfl
    | some a =>
      obtain ⟨b, o, s⟩ := a
      obtain rfl : s = none := h _ rfl
      simp [blkOf, addr_add]
theorem SlRep.cut {α : Type} {R : Rep α} {w : World} {S : Nat → Prop} {l : List α} {A : Option Addr} {c : Nat} (h : SlRep R w S l A c) {f n : Nat} (hf : f + n ≤ l.length) : SlRep R w S ((l.drop f).take n) (cutA A c f R.size) (c - f) := by
  have hl : ((l.drop f).take n).length = n := by rw [List.length_take, List.length_drop]; omega
  obtain ⟨h1, h2, h3⟩ := h
  refine ⟨by rw [hl]; omega, by omega, ?_⟩
  by_cases hn : n = 0
  · subst hn
    exact .inl (by simp)
  · rcases h3 with rfl | ⟨b, o, rfl, hb, hr⟩
    · simp at hf; omega
    · refine .inr ⟨b, o + f * R.size, ?_, hb, fun i a hi => ?_⟩
      · unfold cutA
        rw [if_neg (by omega), Option.map_some, addr_add]
      · have hi' : l[f + i]? = some a := by
          rw [List.getElem?_take] at hi
          split at hi
          · rwa [List.getElem?_drop] at hi
          · cases hi
        obtain ⟨cs, hcs, hc⟩ := hr (f + i) a hi'
        refine ⟨cs, hcs, fun j u hu => ?_⟩
        rw [← hc j u hu]
        congr 2
        rw [Nat.add_mul]
        omega
theorem SlRep.take {α : Type} {R : Rep α} {w : World} {S : Nat → Prop} {l : List α} {A : Option Addr} {c : Nat} (h : SlRep R w S l A c) (n : Nat) : SlRep R w S (l.take n) A c := by
  obtain ⟨h1, h2, h3⟩ := h
  refine ⟨Nat.le_trans (by rw [List.length_take]; exact Nat.min_le_right _ _) h1, h2, ?_⟩
  rcases h3 with rfl | ⟨b, o, rfl, hb, hr⟩
  · exact .inl (by simp)
  · refine .inr ⟨b, o, rfl, hb, fun i a hi => hr i a ?_⟩
    rw [List.getElem?_take] at hi
    split at hi
    · exact hi
    · cases hi
theorem SlRep.drop {α : Type} {R : Rep α} {w : World} {S : Nat → Prop} {l : List α} {A : Option Addr} {c : Nat} (h : SlRep R w S l A c) {f : Nat} (hf : f ≤ l.length) : SlRep R w S (l.drop f) (cutA A c f R.size) (c - f) := by
  have := h.cut (f := f) (n := l.length - f) (by omega)
  rwa [List.take_of_length_le (by rw [List.length_drop]; exact Nat.le_refl _)] at this
section
variable {P : Program}
theorem run_sizeOf_ {e : TypeId} {i : TypeInfo} {size : Nat} (hi : P.info? e = some i) (hs : i.size = size) (W : World) : (sizeOf e).run P W = .ok size W := by
  simp [sizeOf, typeInfo, hi, hs]
theorem run_cut_lh {t e : TypeId} {size bytes : Nat} (hT : ElemT P t e size bytes) (A : Option Addr) (n c f m : Nat) (hc : f + m ≤ c) (i j : Int) (hi : i = f) (hj : j = (f : Int) + m) (W : World) :
    (Instr.slice t (.slice A n c) (some (.int .i64 i)) (some (.int .i64 j)) none).run P W = .ok (.slice (cutA A c f size) m (c - f)) W := by
  subst hi; subst hj
  obtain ⟨inf, z, hi, hz, hsize, hby, hzs⟩ := hT.info
  have he : P.underlying t = some (.slice (P.elem t)) := by rw [hT.und, Program.elem, hT.und]
  have he2 : P.elem t = e := by rw [Program.elem, hT.und]
  rw [run_slice_lh W t A n c he .i64 .i64 f ((f : Int) + m) (by omega) (by omega) (by omega), he2]
  rw [run_sizeOf_ hi hsize W]
  simp [sliced, cutA, show ((f : Int) + m).toNat = f + m by omega]
theorem run_cut_l {t e : TypeId} {size bytes : Nat} (hT : ElemT P t e size bytes) (A : Option Addr) (n c f : Nat) (hn : f ≤ n) (i : Int) (hi : i = f) (W : World) :
    (Instr.slice t (.slice A n c) (some (.int .i64 i)) none none).run P W = .ok (.slice (cutA A c f size) (n - f) (c - f)) W := by
  subst hi
  obtain ⟨inf, z, hi, hz, hsize, hby, hzs⟩ := hT.info
  have he : P.underlying t = some (.slice (P.elem t)) := by rw [hT.und, Program.elem, hT.und]
  have he2 : P.elem t = e := by rw [Program.elem, hT.und]
  rw [run_slice_l W t A n c he .i64 f (by omega) (by omega), he2]
  rw [run_sizeOf_ hi hsize W]
  simp [sliced, cutA]
theorem run_cut_h {t e : TypeId} {size bytes : Nat} (hT : ElemT P t e size bytes) (A : Option Addr) (n c m : Nat) (hc : m ≤ c) (j : Int) (hj : j = m) (W : World) :
    (Instr.slice t (.slice A n c) none (some (.int .i64 j)) none).run P W = .ok (.slice A m c) W := by
  subst hj
  obtain ⟨inf, z, hi, hz, hsize, hby, hzs⟩ := hT.info
  have he : P.underlying t = some (.slice (P.elem t)) := by rw [hT.und, Program.elem, hT.und]
  have he2 : P.elem t = e := by rw [Program.elem, hT.und]
  rw [run_slice_h W t A n c he .i64 m (by omega) (by omega), he2]
  rw [run_sizeOf_ hi hsize W]
  simp only [sliced, Result.andThen_ok]
  have : ∀ a : Addr, a.add 0 = a := fun a => by unfold Addr.add; split <;> simp_all
  cases A <;> simp [this]
end

end Go.Proofs.Ytfggcmbainhglaa
namespace Go.Proofs.Ytfggcmbainhglaa
open Go.RowKit

/-- the call's own blocks other than the row A -/
def Apart (w : World) (base : Nat) (A : Option Addr) (k : Nat) : Prop := base ≤ k ∧ k < w.heap.size ∧ blkOf A ≠ some k
theorem SlRep.grew {α : Type} {R : Rep α} {w w' : World} {base : Nat} {A A' : Option Addr} {l : List α} {B : Option Addr} {c : Nat} (h : SlRep R w (Apart w base A) l B c) (hg : Grew w w' A A') : SlRep R w' (Apart w' base A') l B c :=
  h.keep fun k hk => ⟨⟨hk.1, Nat.lt_of_lt_of_le hk.2.1 hg.grown.size, fun e => by
    rcases hg.blk with e' | ⟨g, hg', e'⟩
    · exact hk.2.2 (e' ▸ e)
    · rw [e'] at e
      cases e
      exact absurd hk.2.1 (by omega)⟩, hg.grown.block k hk.2.1 (fun e => hk.2.2 e.symm)⟩
theorem SlRep.apart_next {α : Type} {R : Rep α} {w w' : World} {base : Nat} {A : Option Addr} {l : List α} {B : Option Addr} {c : Nat} (h : SlRep R w (Apart w base A) l B c) (hb : Below w.heap.size w w') : SlRep R w' (Apart w' base A) l B c :=
  h.keep fun k hk => ⟨⟨hk.1, Nat.lt_of_lt_of_le hk.2.1 hb.size, hk.2.2⟩, hb.block k hk.2.1⟩
theorem SlRep.to_apart {α : Type} {R : Rep α} {w : World} {base b0 : Nat} {A : Option Addr} {l : List α} {B : Option Addr} {c : Nat} (h : SlRep R w (fun k => b0 ≤ k ∧ k < w.heap.size) l B c) (hb : base ≤ b0) (hA : ∀ k, blkOf A = some k → k < b0) : SlRep R w (Apart w base A) l B c :=
  h.keep fun k hk => ⟨⟨by omega, hk.2, fun e => by have := hA k e; omega⟩, rfl⟩
theorem SlRep.of_apart {α : Type} {R : Rep α} {w : World} {base : Nat} {A : Option Addr} {l : List α} {B : Option Addr} {c : Nat} (h : SlRep R w (Apart w base A) l B c) : SlRep R w (fun k => base ≤ k ∧ k < w.heap.size) l B c :=
  h.keep fun k hk => ⟨⟨hk.1, hk.2.1⟩, rfl⟩

/-- cells that hold slices in blocks of S, which read as L -/
def RowsIn (w : World) (S : Nat → Prop) (L : List (List UInt8)) (xs : List Value) : Prop :=
  xs.length = L.length ∧ ∀ (i : Nat) (l : List UInt8), L[i]? = some l → ∃ Ai ci, xs[i]? = some (Value.slice Ai l.length ci) ∧ SlRep Rep.u8 w S l Ai ci
theorem RowsIn.nil (w : World) (S : Nat → Prop) : RowsIn w S [] [] := ⟨rfl, fun i l h => by simp at h⟩
theorem RowsIn.keep {w w' : World} {S S' : Nat → Prop} {L : List (List UInt8)} {xs : List Value} (h : RowsIn w S L xs) (hk : ∀ k, S k → S' k ∧ w'.heap[k]? = w.heap[k]?) : RowsIn w' S' L xs :=
  ⟨h.1, fun i l hl => let ⟨Ai, ci, h1, h2⟩ := h.2 i l hl; ⟨Ai, ci, h1, h2.keep hk⟩⟩
theorem RowsIn.snoc {w : World} {S : Nat → Prop} {L : List (List UInt8)} {xs : List Value} (h : RowsIn w S L xs) {l : List UInt8} {B : Option Addr} {n c : Nat} (hn : n = l.length) (hl : SlRep Rep.u8 w S l B c) : RowsIn w S (L ++ [l]) (xs ++ [.slice B n c]) := by
  subst hn
  refine ⟨by simp [h.1], fun i x hx => ?_⟩
  rcases Nat.lt_or_ge i L.length with hi | hi
  · rw [List.getElem?_append_left hi] at hx
    obtain ⟨Ai, ci, h1, h2⟩ := h.2 i x hx
    exact ⟨Ai, ci, by rw [List.getElem?_append_left (by rw [h.1]; exact hi)]; exact h1, h2⟩
  · have hi' : i = L.length := by
      have := (List.getElem?_eq_some_iff.1 hx).1
      simp at this
      omega
    subst hi'
    rw [List.getElem?_append_right (Nat.le_refl _)] at hx
    simp at hx
    subst hx
    exact ⟨B, c, by rw [List.getElem?_append_right (by rw [h.1]; exact Nat.le_refl _), h.1]; simp, hl⟩
theorem RowsIn.rep {w : World} {base : Nat} {S : Nat → Prop} {e : TypeId} {A : Option Addr} {n c : Nat} {L : List (List UInt8)} {xs : List Value} (h : RowsIn w S L xs) (hS : ∀ k, S k → base ≤ k ∧ k < w.heap.size) (ho : Own w base e 1 A n c xs) : n = L.length ∧ SlRep (Rep.slice Rep.u8) w (fun k => base ≤ k ∧ k < w.heap.size) L A c := by
  have hn : n = L.length := by have := ho.len; rw [h.1, Nat.mul_one] at this; exact this.symm
  refine ⟨hn, ⟨by have := ho.cap; omega, ho.cap.2, ?_⟩⟩
  cases L with
  | nil => exact .inl rfl
  | cons y r =>
    obtain ⟨A0, c0, h0, _⟩ := h.2 0 y rfl
    obtain ⟨g, rfl, h1, h2, _⟩ := ho.cell h0
    refine .inr ⟨g, 0, rfl, ⟨h1, h2⟩, fun i z hz => ?_⟩
    obtain ⟨Ai, ci, h3, h4⟩ := h.2 i z hz
    obtain ⟨g', e1, _, _, hc⟩ := ho.cell h3
    simp only [Option.some.injEq, Addr.mk.injEq, and_true] at e1
    subst e1
    refine ⟨_, rep_slice_val.2 ⟨rfl, h4.keep fun k hk => ⟨hS k hk, rfl⟩⟩, fun j u hu => ?_⟩
    have hj : j = 0 := by have := (List.getElem?_eq_some_iff.1 hu).1; simp at this; omega
    subst hj
    simp at hu
    subst hu
    simpa [Rep.slice] using hc
def RowsAt (w : World) (base : Nat) (A : Option Addr) (L : List (List UInt8)) (xs : List Value) : Prop := RowsIn w (Apart w base A) L xs
theorem RowsAt.nil (w : World) (base : Nat) (A : Option Addr) : RowsAt w base A [] [] := RowsIn.nil _ _
theorem Apart.grew {w w' : World} {base : Nat} {A A' : Option Addr} (hg : Grew w w' A A') : ∀ k, Apart w base A k → Apart w' base A' k ∧ w'.heap[k]? = w.heap[k]? := fun k hk =>
  ⟨⟨hk.1, Nat.lt_of_lt_of_le hk.2.1 hg.grown.size, fun e => by
    rcases hg.blk with e' | ⟨g, hg', e'⟩
    · exact hk.2.2 (e' ▸ e)
    · rw [e'] at e
      cases e
      exact absurd hk.2.1 (by omega)⟩, hg.grown.block k hk.2.1 (fun e => hk.2.2 e.symm)⟩
theorem Apart.next {w w' : World} {base : Nat} {A : Option Addr} (hb : Below w.heap.size w w') : ∀ k, Apart w base A k → Apart w' base A k ∧ w'.heap[k]? = w.heap[k]? := fun k hk =>
  ⟨⟨hk.1, Nat.lt_of_lt_of_le hk.2.1 hb.size, hk.2.2⟩, hb.block k hk.2.1⟩
theorem RowsAt.grew {w w' : World} {base : Nat} {A A' : Option Addr} {L : List (List UInt8)} {xs : List Value} (h : RowsAt w base A L xs) (hg : Grew w w' A A') : RowsAt w' base A' L xs := RowsIn.keep h (Apart.grew hg)
theorem RowsAt.next {w w' : World} {base : Nat} {A : Option Addr} {L : List (List UInt8)} {xs : List Value} (h : RowsAt w base A L xs) (hb : Below w.heap.size w w') : RowsAt w' base A L xs := RowsIn.keep h (Apart.next hb)
theorem RowsAt.snoc {w : World} {base : Nat} {A : Option Addr} {L : List (List UInt8)} {xs : List Value} (h : RowsAt w base A L xs) {l : List UInt8} {B : Option Addr} {n c : Nat} (hn : n = l.length) (hl : SlRep Rep.u8 w (Apart w base A) l B c) : RowsAt w base A (L ++ [l]) (xs ++ [.slice B n c]) := RowsIn.snoc h hn hl
theorem RowsAt.rep {w : World} {base : Nat} {e : TypeId} {A : Option Addr} {n c : Nat} {L : List (List UInt8)} {xs : List Value} (h : RowsAt w base A L xs) (ho : Own w base e 1 A n c xs) : n = L.length ∧ SlRep (Rep.slice Rep.u8) w (fun k => base ≤ k ∧ k < w.heap.size) L A c :=
  RowsIn.rep h (fun k hk => ⟨hk.1, hk.2.1⟩) ho

/-! Two rows that grow beside each other -/
theorem Own.kept' {w w' : World} {base : Nat} {e : TypeId} {size n c : Nat} {A B B' : Option Addr} {xs : List Value} (h : Own w base e size A n c xs) (hg : Grew w w' B B') (hne : ∀ k, blkOf A = some k → blkOf B ≠ some k) : Own w' base e size A n c xs :=
  h.kept hg.grown (by
    cases hA : blkOf A with
    | none => exact .inl rfl
    | some k => exact .inr (fun e => hne k hA e.symm))
/-- the row A lies in no block of B's -/
def Two (A B : Option Addr) : Prop := ∀ k, blkOf A = some k → blkOf B ≠ some k
theorem Two.left {w w' : World} {A A' B : Option Addr} (h : Two A B) (hg : Grew w w' A A') (hB : ∀ k, blkOf B = some k → k < w.heap.size) : Two A' B := fun k hk e => by
  rcases hg.blk with e' | ⟨g, hg', e'⟩
  · exact h k (e' ▸ hk) e
  · rw [e'] at hk
    cases hk
    have := hB _ e
    omega
theorem Two.symm {A B : Option Addr} (h : Two A B) : Two B A := fun k hk e => h k e hk
theorem Two.none_left (B : Option Addr) : Two none B := fun k hk => by cases hk
/-- the call's own blocks other than A's and B's -/
def Apart2 (w : World) (base : Nat) (A B : Option Addr) (k : Nat) : Prop := Apart w base A k ∧ blkOf B ≠ some k
theorem Apart2.second {w w' : World} {base : Nat} {A B B' : Option Addr} (hg : Grew w w' B B') : ∀ k, Apart2 w base A B k → Apart2 w' base A B' k ∧ w'.heap[k]? = w.heap[k]? := fun k hk =>
  have h := Apart.grew (base := base) hg k ⟨hk.1.1, hk.1.2.1, hk.2⟩
  ⟨⟨⟨hk.1.1, h.1.2.1, hk.1.2.2⟩, h.1.2.2⟩, h.2⟩
theorem Apart2.first {w w' : World} {base : Nat} {A A' B : Option Addr} (hg : Grew w w' A A') : ∀ k, Apart2 w base A B k → Apart2 w' base A' B k ∧ w'.heap[k]? = w.heap[k]? := fun k hk =>
  have h := Apart.grew (base := base) hg k hk.1
  ⟨⟨h.1, hk.2⟩, h.2⟩
theorem Apart2.next {w w' : World} {base : Nat} {A B : Option Addr} (hb : Below w.heap.size w w') : ∀ k, Apart2 w base A B k → Apart2 w' base A B k ∧ w'.heap[k]? = w.heap[k]? := fun k hk =>
  have h := Apart.next (base := base) hb k hk.1
  ⟨⟨h.1, hk.2⟩, h.2⟩
theorem SlRep.in_row {w : World} {S S' : Nat → Prop} {l : List UInt8} {A : Option Addr} {c : Nat} (h : SlRep Rep.u8 w S l A c) (hS : ∀ k, blkOf A = some k → S k → S' k) : SlRep Rep.u8 w S' l A c := by
  obtain ⟨h1, h2, h3⟩ := h
  refine ⟨h1, h2, h3.imp id fun ⟨b, o, e, hb, hr⟩ => ⟨b, o, e, hS b (by rw [e]; rfl) hb, fun i a hi => ?_⟩⟩
  obtain ⟨cs, hcs, hc⟩ := hr i a hi
  exact ⟨cs, hcs, hc⟩
theorem u8_cells {w : World} {S : Nat → Prop} {l : List UInt8} {A : Option Addr} {c : Nat} (h : SlRep Rep.u8 w S l A c) (hp : 0 < l.length) :
    ∃ b o, A = some ⟨b, o, none⟩ ∧ S b ∧ ∀ k, k < l.length → w.cell? ⟨b, o + k, none⟩ = some (.int .u8 ((l.getD k 0).toNat : Int)) := by
  obtain ⟨b, o, e, hb, _⟩ := u8_at (k := 0) h hp
  refine ⟨b, o, e, hb, fun k hk => ?_⟩
  obtain ⟨b', o', e', _, hc⟩ := u8_at (k := k) h hk
  rw [e] at e'
  simp only [Option.some.injEq, Addr.mk.injEq, and_true] at e'
  obtain ⟨rfl, rfl⟩ := e'
  exact hc
/-- the cell of the k-th list -/
theorem list_at {w : World} {S : Nat → Prop} {L : List (List UInt8)} {A : Option Addr} {c k : Nat} (h : SlRep (Rep.slice Rep.u8) w S L A c) (hk : k < L.length) :
    ∃ b o Ak ck, A = some ⟨b, o, none⟩ ∧ S b ∧ w.cell? ⟨b, o + k, none⟩ = some (.slice Ak (L.getD k []).length ck) ∧ SlRep Rep.u8 w S (L.getD k []) Ak ck := by
  rcases h.2.2 with rfl | ⟨b, o, rfl, hb, hr⟩
  · simp at hk
  · obtain ⟨cs, hcs, hc⟩ := hr k (L.getD k []) (by rw [List.getD_eq_getElem?_getD, List.getElem?_eq_getElem hk]; rfl)
    obtain ⟨Ak, ck, rfl, h2⟩ := rep_slice_iff.1 hcs
    have := hc 0 _ rfl
    exact ⟨b, o, Ak, ck, rfl, hb, by simpa [Rep.slice] using this, h2⟩
theorem bulk_u8 (l : List UInt8) : (Rep.slice Rep.u8).bulk l = l.length + 1 := by
  simp only [Rep.slice, Rep.u8]
  congr 1
  induction l with
  | nil => rfl
  | cons x r ih => simp [ih]; omega


end Go.Proofs.Ytfggcmbainhglaa
namespace Go.Proofs.Ytfggcmbainhglaa
open Go.RowKit

/-- the cells xs read as the list L, through blocks of S -/
def RowsOf {α : Type} (R : Rep α) (w : World) (S : Nat → Prop) : List α → List Value → Prop
  | [], xs => xs = []
  | a :: L, xs => ∃ cs ys, xs = cs ++ ys ∧ R.rep w S a cs ∧ RowsOf R w S L ys
section
variable {α : Type} {R : Rep α} {w w' : World} {S S' : Nat → Prop}
theorem RowsOf.nil : RowsOf R w S [] [] := rfl
theorem RowsOf.keep : ∀ {L : List α} {xs : List Value}, RowsOf R w S L xs → (∀ k, S k → S' k ∧ w'.heap[k]? = w.heap[k]?) → RowsOf R w' S' L xs
  | [], _, h, _ => h
  | _ :: _, _, ⟨cs, ys, e, h1, h2⟩, hk => ⟨cs, ys, e, R.mono h1 hk, RowsOf.keep h2 hk⟩
theorem RowsOf.len : ∀ {L : List α} {xs : List Value}, RowsOf R w S L xs → xs.length = L.length * R.size
  | [], xs, h => by rw [show xs = [] from h]; simp
  | a :: L, xs, ⟨cs, ys, e, h1, h2⟩ => by rw [e, List.length_append, R.len h1, RowsOf.len h2, List.length_cons, Nat.succ_mul]; omega
theorem RowsOf.snoc {a : α} {cs : List Value} (ha : R.rep w S a cs) : ∀ {L : List α} {xs : List Value}, RowsOf R w S L xs → RowsOf R w S (L ++ [a]) (xs ++ cs)
  | [], xs, h => ⟨cs, [], by rw [show xs = [] from h]; simp, ha, rfl⟩
  | _ :: _, _, ⟨cs', ys, e, h1, h2⟩ => ⟨cs', ys ++ cs, by rw [e, List.append_assoc], h1, RowsOf.snoc ha h2⟩
theorem RowsOf.at : ∀ {L : List α} {xs : List Value} {i : Nat} {a : α}, RowsOf R w S L xs → L[i]? = some a → ∃ cs, R.rep w S a cs ∧ ∀ j u, cs[j]? = some u → xs[i * R.size + j]? = some u
  | [], _, i, a, _, hi => by simp at hi
  | x :: L, _, 0, a, ⟨cs, ys, e, h1, _⟩, hi => by
    simp at hi
    subst hi
    refine ⟨cs, h1, fun j u hu => ?_⟩
    rw [e, Nat.zero_mul, Nat.zero_add, List.getElem?_append_left (List.getElem?_eq_some_iff.1 hu).1]
    exact hu
  | x :: L, _, i + 1, a, ⟨cs, ys, e, h1, h2⟩, hi => by
    obtain ⟨cs', h3, h4⟩ := RowsOf.at h2 (by simpa using hi)
    refine ⟨cs', h3, fun j u hu => ?_⟩
    have hl := R.len h1
    rw [e, List.getElem?_append_right (by rw [hl, Nat.succ_mul]; omega), hl, show (i + 1) * R.size + j - R.size = i * R.size + j by rw [Nat.succ_mul]; omega]
    exact h4 j u hu
theorem RowsOf.rep {base e size n c : Nat} {A : Option Addr} {L : List α} {xs : List Value} (h : RowsOf R w S L xs) (hsz : R.size = size) (hpos : 0 < size) (hS : ∀ k, S k → S' k) (ho : Own w base e size A n c xs) (hA : ∀ k, blkOf A = some k → S' k) : n = L.length ∧ SlRep R w S' L A c := by
  subst hsz
  have hn : n = L.length := by
    have h1 := ho.len
    rw [h.len] at h1
    exact (Nat.eq_of_mul_eq_mul_right hpos h1).symm
  refine ⟨hn, ⟨by have := ho.cap; omega, ho.cap.2, ?_⟩⟩
  cases L with
  | nil => exact .inl rfl
  | cons y r =>
    obtain ⟨cs0, h0, h0'⟩ := h.at (i := 0) (a := y) rfl
    have h0l : 0 < cs0.length := by rw [R.len h0]; exact hpos
    obtain ⟨g, rfl, h1, h2, _⟩ := ho.cell (h0' 0 _ (List.getElem?_eq_getElem h0l))
    refine .inr ⟨g, 0, rfl, hA g rfl, fun i z hz => ?_⟩
    obtain ⟨cs, h3, h4⟩ := h.at hz
    refine ⟨cs, R.mono h3 fun k hk => ⟨hS k hk, rfl⟩, fun j u hu => ?_⟩
    obtain ⟨g', e1, _, _, hc⟩ := ho.cell (h4 j u hu)
    simp only [Option.some.injEq, Addr.mk.injEq, and_true] at e1
    subst e1
    rw [Nat.zero_add]
    exact hc
theorem Own.setAt {base e size g n c : Nat} {xs : List Value} (h : Own w base e size (some ⟨g, 0, none⟩) n c xs) {j : Nat} (v : Value) : Own (w.setCell ⟨g, j, none⟩ v) base e size (some ⟨g, 0, none⟩) n c (xs.set j v) := by
  obtain ⟨h1, h2⟩ := h
  refine ⟨by rw [List.length_set]; exact h1, .inr ?_⟩
  rcases h2 with ⟨h3, _⟩ | ⟨g', cap, cur, h3, h4, h5, h6, h7, h8, h9⟩
  · simp at h3
  · simp only [Value.slice.injEq, Option.some.injEq, Addr.mk.injEq, and_true] at h3
    obtain ⟨rfl, _, rfl⟩ := h3
    refine ⟨g, c, cur.set! j v, rfl, h4, heap_setCell_same w g j _ _ _ h5, h6, h7, by simpa using h8, ?_⟩
    rw [← h9]
    simp only [Array.set!_eq_setIfInBounds, Array.toList_setIfInBounds, List.take_set]
theorem Own.frozenAt {base e size n c g : Nat} {xs : List Value} (h : Own w base e size (some ⟨g, 0, none⟩) n c xs) (j : Nat) : w.frozen? ⟨g, j, none⟩ = false := by
  rcases h.2 with ⟨h1, _⟩ | ⟨g', cap, cur, h1, _, h3, _⟩
  · simp at h1
  · simp only [Value.slice.injEq, Option.some.injEq, Addr.mk.injEq, and_true] at h1
    obtain ⟨rfl, _⟩ := h1
    simp [World.frozen?, h3]
theorem Own.some {base e size n c : Nat} {A : Option Addr} {xs : List Value} (h : Own w base e size A n c xs) (hp : 0 < xs.length) : ∃ g, A = some ⟨g, 0, none⟩ ∧ base ≤ g ∧ g < w.heap.size := by
  obtain ⟨g, e1, h1, h2, _⟩ := h.cell (List.getElem?_eq_getElem hp)
  exact ⟨g, e1, h1, h2⟩
end
end Go.Proofs.Ytfggcmbainhglaa
namespace Go.Proofs.Ytfggcmbainhglaa
open Go.RowKit

/-- the block F holds these four cells -/
def Blk4 (w : World) (F : Nat) (T : TypeId) (x y z u : Value) : Prop := w.heap[F]? = some (.cells #[x, y, z, u] T (0, 0))
section
variable {w w' : World} {F : Nat} {T : TypeId} {x y z u : Value}
theorem Blk4.lt (h : Blk4 w F T x y z u) : F < w.heap.size := (Array.getElem?_eq_some_iff.1 h).1
theorem Blk4.new (w : World) (T : TypeId) (x y z u : Value) : Blk4 (w.alloc (.cells #[x, y, z, u] T)) w.heap.size T x y z u := heap_alloc_new w _
theorem Blk4.same (h : Blk4 w F T x y z u) (hk : w'.heap[F]? = w.heap[F]?) : Blk4 w' F T x y z u := hk.trans h
theorem Blk4.next (h : Blk4 w F T x y z u) (hb : Below w.heap.size w w') : Blk4 w' F T x y z u := h.same (hb.block F h.lt)
theorem Blk4.alloc (h : Blk4 w F T x y z u) (o : Obj) : Blk4 (w.alloc o) F T x y z u := h.same (Below.heap_alloc w o F h.lt)
theorem Blk4.drewN (h : Blk4 w F T x y z u) (k : Nat) : Blk4 (w.drewN k) F T x y z u := h
theorem Blk4.drew (h : Blk4 w F T x y z u) : Blk4 w.drew F T x y z u := h
theorem Blk4.kept {row : Option Nat} (h : Blk4 w F T x y z u) (hg : w.grownBy w' row) (hne : row ≠ some F) : Blk4 w' F T x y z u := h.same (hg.block F h.lt (fun e => hne e.symm))
theorem Blk4.setCell (h : Blk4 w F T x y z u) {p : Addr} (hp : p.block ≠ F) (v : Value) : Blk4 (w.setCell p v) F T x y z u := h.same (Below.heap_setCell w p v F (fun e => hp e.symm))
theorem Blk4.get (h : Blk4 w F T x y z u) (j : Nat) : w.cell? ⟨F, j, none⟩ = #[x, y, z, u][j]? := cell_of_row w F j _ T (0, 0) h
theorem Blk4.cell0 (h : Blk4 w F T x y z u) : w.cell? ⟨F, 0, none⟩ = some x := h.get 0
theorem Blk4.cell1 (h : Blk4 w F T x y z u) : w.cell? ⟨F, 1, none⟩ = some y := h.get 1
theorem Blk4.cell2 (h : Blk4 w F T x y z u) : w.cell? ⟨F, 2, none⟩ = some z := h.get 2
theorem Blk4.cell3 (h : Blk4 w F T x y z u) : w.cell? ⟨F, 3, none⟩ = some u := h.get 3
theorem Blk4.frozen (h : Blk4 w F T x y z u) (j : Nat) : w.frozen? ⟨F, j, none⟩ = false := by
  have h' : w.heap[F]? = some (.cells #[x, y, z, u] T (0, 0)) := h
  simp [World.frozen?, h']
theorem Blk4.set0 (h : Blk4 w F T x y z u) (v : Value) : Blk4 (w.setCell ⟨F, 0, none⟩ v) F T v y z u := heap_setCell_same w F 0 _ _ _ h
theorem Blk4.set1 (h : Blk4 w F T x y z u) (v : Value) : Blk4 (w.setCell ⟨F, 1, none⟩ v) F T x v z u := heap_setCell_same w F 1 _ _ _ h
theorem Blk4.set2 (h : Blk4 w F T x y z u) (v : Value) : Blk4 (w.setCell ⟨F, 2, none⟩ v) F T x y v u := heap_setCell_same w F 2 _ _ _ h
theorem Blk4.set3 (h : Blk4 w F T x y z u) (v : Value) : Blk4 (w.setCell ⟨F, 3, none⟩ v) F T x y z v := heap_setCell_same w F 3 _ _ _ h
/-- a row of elements of another type lies elsewhere -/
theorem Blk4.apart (h : Blk4 w F T x y z u) {base : Nat} {e : TypeId} {size n c : Nat} {A : Option Addr} {xs : List Value} (ho : Own w base e size A n c xs) (hT : e ≠ T) : blkOf A ≠ some F := by
  intro he
  have h' : w.heap[F]? = some (.cells #[x, y, z, u] T (0, 0)) := h
  rcases ho.2 with ⟨h1, _⟩ | ⟨g, cap, cur, h1, _, h3, _⟩
  · simp only [Value.slice.injEq] at h1
    rw [h1.1] at he
    cases he
  · simp only [Value.slice.injEq] at h1
    rw [h1.1] at he
    have hg : g = F := by simpa [blkOf] using he
    subst hg
    rw [h'] at h3
    simp only [Option.some.injEq, Obj.cells.injEq] at h3
    exact hT h3.2.1.symm
/-- two structs of two types lie in two blocks -/
theorem Blk4.two (h : Blk4 w F T x y z u) {F' : Nat} {T' : TypeId} {x' y' z' u' : Value} (h2 : Blk4 w F' T' x' y' z' u') (hT : T ≠ T') : F ≠ F' := by
  rintro rfl
  have h' : w.heap[F]? = some (.cells #[x, y, z, u] T (0, 0)) := h
  have h2' : w.heap[F]? = some (.cells #[x', y', z', u'] T' (0, 0)) := h2
  rw [h'] at h2'
  simp only [Option.some.injEq, Obj.cells.injEq] at h2'
  exact hT h2'.2.1
end
/-- two rows of elements of two types lie in two blocks -/
theorem Own.two {w : World} {base base' : Nat} {e e' : TypeId} {size size' n n' c c' : Nat} {A A' : Option Addr} {xs xs' : List Value} (h : Own w base e size A n c xs) (h2 : Own w base' e' size' A' n' c' xs') (he : e ≠ e') : blkOf A = none ∨ blkOf A ≠ blkOf A' := by
  rcases h.2 with ⟨h1, _⟩ | ⟨g, cap, cur, h1, _, h3, _⟩
  · simp only [Value.slice.injEq] at h1
    exact .inl (by rw [h1.1]; rfl)
  · refine .inr fun hA => ?_
    simp only [Value.slice.injEq] at h1
    rcases h2.2 with ⟨k1, _⟩ | ⟨g', cap', cur', k1, _, k3, _⟩
    · simp only [Value.slice.injEq] at k1
      rw [h1.1, k1.1] at hA
      cases hA
    · simp only [Value.slice.injEq] at k1
      rw [h1.1, k1.1] at hA
      have hg : g = g' := by simpa [blkOf] using hA
      subst hg
      rw [h3] at k3
      simp only [Option.some.injEq, Obj.cells.injEq] at k3
      exact he k3.2.1

end Go.Proofs.Ytfggcmbainhglaa
namespace Go.Proofs.Ytfggcmbainhglaa
open Go.RowKit

/-- the cells vs laid over a list from place o on -/
def overl (l : List Value) : Nat → List Value → List Value
  | _, [] => l
  | o, v :: r => overl (l.set o v) (o + 1) r
theorem overl_len : ∀ (vs : List Value) (l : List Value) (o : Nat), (overl l o vs).length = l.length
  | [], _, _ => rfl
  | v :: r, l, o => by rw [overl, overl_len r, List.length_set]
theorem overl_get : ∀ (vs : List Value) (l : List Value) (o j : Nat), o + vs.length ≤ l.length → (overl l o vs)[j]? = if o ≤ j ∧ j < o + vs.length then vs[j - o]? else l[j]?
  | [], l, o, j, _ => by rw [overl, if_neg (fun h => by have h2 := h.2; rw [List.length_nil] at h2; omega)]
  | v :: r, l, o, j, h => by
    rw [List.length_cons] at h
    rw [overl, overl_get r (l.set o v) (o + 1) j (by rw [List.length_set]; omega), List.length_cons]
    by_cases h1 : o + 1 ≤ j ∧ j < o + 1 + r.length
    · rw [if_pos h1, if_pos (by omega), show j - o = (j - (o + 1)) + 1 by omega, List.getElem?_cons_succ]
    · rw [if_neg h1]
      by_cases h2 : j = o
      · subst h2
        rw [if_pos (by omega), Nat.sub_self, List.getElem?_set_self (by omega)]; rfl
      · rw [if_neg (by omega), List.getElem?_set_ne (by omega)]
theorem overl_take {vs l : List Value} {o m : Nat} (h : o + vs.length ≤ l.length) (hm : m ≤ o) : (overl l o vs).take m = l.take m := by
  apply List.ext_getElem?
  intro j
  rw [List.getElem?_take, List.getElem?_take]
  by_cases hj : j < m
  · rw [if_pos hj, if_pos hj, overl_get _ _ _ _ h, if_neg (by omega)]
  · rw [if_neg hj, if_neg hj]
theorem overl_take2 {vs l : List Value} {o : Nat} (h : o + vs.length ≤ l.length) : (overl l o vs).take (o + vs.length) = l.take o ++ vs := by
  apply List.ext_getElem?
  intro j
  rw [List.getElem?_take]
  by_cases hj : j < o + vs.length
  · rw [if_pos hj, overl_get _ _ _ _ h]
    by_cases h1 : o ≤ j
    · rw [if_pos ⟨h1, hj⟩, List.getElem?_append_right (by rw [List.length_take]; omega), List.length_take, Nat.min_eq_left (by omega)]
    · rw [if_neg (by omega), List.getElem?_append_left (by rw [List.length_take]; omega), List.getElem?_take, if_pos (by omega)]
  · rw [if_neg hj, List.getElem?_eq_none (by rw [List.length_append, List.length_take]; omega)]

theorem heap_setCells_same (g : Nat) (e : TypeId) : ∀ (vs : List Value) (o : Nat) (w : World) (cur : Array Value), w.heap[g]? = some (.cells cur e (0, 0)) → (w.setCells g o vs).heap[g]? = some (.cells (overl cur.toList o vs).toArray e (0, 0))
  | [], _, w, cur, h => by rw [World.setCells, overl, h]
  | v :: r, o, w, cur, h => by
    rw [World.setCells, heap_setCells_same g e r (o + 1) _ (cur.set! o v) (heap_setCell_same w g o _ _ _ h), overl]
    rw [Array.set!_eq_setIfInBounds, Array.toList_setIfInBounds]
theorem keep_setCells (g : Nat) : ∀ (vs : List Value) (o : Nat) (w : World), (w.setCells g o vs).heap.size = w.heap.size ∧ (w.setCells g o vs).os = w.os ∧ (w.setCells g o vs).tape = w.tape ∧ (w.setCells g o vs).output = w.output ∧ ∀ k, k ≠ g → (w.setCells g o vs).heap[k]? = w.heap[k]?
  | [], _, w => ⟨rfl, rfl, rfl, rfl, fun _ _ => rfl⟩
  | v :: r, o, w => by
    obtain ⟨h1, h2, h3, h4, h5⟩ := keep_setCells g r (o + 1) (w.setCell ⟨g, o, none⟩ v)
    refine ⟨h1.trans (by simp [World.setCell]), h2, h3, h4, fun k hk => (h5 k hk).trans (Below.heap_setCell w _ _ k hk)⟩

section
variable {w : World} {base g : Nat} {e : TypeId} {size n c : Nat} {xs : List Value}
/-- cells stored within and behind what is owned: m elements are owned then -/
theorem Own.over (h : Own w base e size (Option.some ⟨g, 0, none⟩) n c xs) {o : Nat} {vs : List Value} (hv : o + vs.length ≤ n * size) (m : Nat) (hm : m * size ≤ o + vs.length) (hmc : m ≤ c) : Own (w.setCells g o vs) base e size (Option.some ⟨g, 0, none⟩) m c ((xs.take o ++ vs).take (m * size)) := by
  have hl := h.len
  refine ⟨by rw [List.length_take, List.length_append, List.length_take]; omega, .inr ?_⟩
  rcases h.2 with ⟨h1, _⟩ | ⟨g', cap, cur, h1, h2, h3, h4, h5, h6, h7⟩
  · simp at h1
  · simp only [Value.slice.injEq, Option.some.injEq, Addr.mk.injEq, and_true] at h1
    obtain ⟨rfl, _, rfl⟩ := h1
    have hle : n * size ≤ cur.toList.length := by
      have h8 := congrArg List.length h7
      rw [List.length_take, hl] at h8
      omega
    refine ⟨g, c, (overl cur.toList o vs).toArray, rfl, h2, heap_setCells_same g e vs o w cur h3, hmc, h5, ?_, ?_⟩
    · have h8 := overl_len vs cur.toList o
      simp only [List.size_toArray]
      rw [h8]
      simpa using h6
    · show (overl cur.toList o vs).take (m * size) = _
      rw [← h7, List.take_take, Nat.min_eq_left (by omega), ← overl_take2 (by omega), List.take_take, Nat.min_eq_left (by omega)]
/-- cells stored behind what is owned -/
theorem Own.past (h : Own w base e size (Option.some ⟨g, 0, none⟩) n c xs) {o : Nat} {vs : List Value} (ho : n * size ≤ o) (hc : o + vs.length ≤ c * size) : Own (w.setCells g o vs) base e size (Option.some ⟨g, 0, none⟩) n c xs := by
  refine ⟨h.1, .inr ?_⟩
  rcases h.2 with ⟨h1, _⟩ | ⟨g', cap, cur, h1, h2, h3, h4, h5, h6, h7⟩
  · simp at h1
  · simp only [Value.slice.injEq, Option.some.injEq, Addr.mk.injEq, and_true] at h1
    obtain ⟨rfl, _, rfl⟩ := h1
    refine ⟨g, c, (overl cur.toList o vs).toArray, rfl, h2, heap_setCells_same g e vs o w cur h3, h4, h5, ?_, ?_⟩
    · have h8 := overl_len vs cur.toList o
      simp only [List.size_toArray]
      rw [h8]
      simpa using h6
    · show (overl cur.toList o vs).take (n * size) = _
      have hq : o + vs.length ≤ cur.toList.length := by have h9 : cur.toList.length = cur.size := Array.length_toList; rw [h9, h6]; exact hc
      rw [← h7, overl_take hq ho]
theorem Own.there (h : Own w base e size (Option.some ⟨g, 0, none⟩) n c xs) {j : Nat} (hj : j < n * size) : (w.cell? ⟨g, j, none⟩).isSome = true := by
  have hl := h.len
  obtain ⟨g', e1, _, _, hc⟩ := h.cell (j := j) (List.getElem?_eq_getElem (by omega))
  simp only [Option.some.injEq, Addr.mk.injEq, and_true] at e1
  rw [e1, hc]; rfl
end

/-- clear(s) at elements of many cells -/
theorem run_clear_many {P : Program} (w : World) (t e ty : TypeId) (z : Value) (zs : List Value) (ht : P.underlying t = some (.slice e)) (hv : ∀ w, (zeroValue e).run P w = .ok z w) (n : Nat) (hz : (Builtin.zeroCells z.cells n).toList = zs) (h1 : ∀ u ∈ zs, u.oneCell' = true) (b o c : Nat) (hn : 0 < n)
    (hc : ∀ j, j < zs.length → (w.cell? ⟨b, o + j, none⟩).isSome = true) (hf : ∀ j, j < zs.length → w.frozen? ⟨b, o + j, none⟩ = false) :
    (Builtin.clear_ #[t] ty #[.slice (some ⟨b, o, none⟩) n c]).run P w = .ok (.tuple #[]) (w.setCells b o zs) := by
  have hst := run_storeCells_cells (P := P) b o zs 0 w (by simpa using hc) (by simpa using hf) h1
  simp only [Nat.add_zero] at hst
  obtain ⟨m, rfl⟩ : ∃ m, n = m + 1 := ⟨n - 1, by omega⟩
  simp [Builtin.clear_, run_underlying ht, hv, hz, hst]
end Go.Proofs.Ytfggcmbainhglaa
namespace Go.Proofs.Ytfggcmbainhglaa
open Go.RowKit

/-- two rows lie in two blocks -/
def Far (A A' : Option Addr) : Prop := ∀ k, blkOf A = some k → blkOf A' ≠ some k
theorem Far.symm {A A' : Option Addr} (h : Far A A') : Far A' A := fun k hk hA => h k hA hk
theorem Far.none (A : Option Addr) : Far Option.none A := fun k hk => by cases hk
theorem Far.none' (A : Option Addr) : Far A Option.none := (Far.none A).symm
/-- what stays of a world: all but these blocks -/
structure Stays (w w' : World) (No : Nat → Prop) : Prop where
  os : w'.os = w.os
  tape : w'.tape = w.tape
  output : w'.output = w.output
  size : w.heap.size ≤ w'.heap.size
  block : ∀ k, k < w.heap.size → ¬ No k → w'.heap[k]? = w.heap[k]?
section
variable {w w' w2 : World} {No No2 : Nat → Prop}
theorem Stays.refl (w : World) (No : Nat → Prop) : Stays w w No := ⟨rfl, rfl, rfl, Nat.le_refl _, fun _ _ _ => rfl⟩
theorem Stays.trans (h : Stays w w' No) (h2 : Stays w' w2 No2) (hn : ∀ k, k < w.heap.size → No2 k → No k) : Stays w w2 No :=
  ⟨h2.os.trans h.os, h2.tape.trans h.tape, h2.output.trans h.output, Nat.le_trans h.size h2.size, fun k hk hN => (h2.block k (Nat.lt_of_lt_of_le hk h.size) (fun h3 => hN (hn k hk h3))).trans (h.block k hk hN)⟩
theorem Stays.mono (h : Stays w w' No) (hn : ∀ k, k < w.heap.size → No k → No2 k) : Stays w w' No2 := ⟨h.os, h.tape, h.output, h.size, fun k hk hN => h.block k hk (fun h3 => hN (hn k hk h3))⟩
theorem Stays.grew {A A' : Option Addr} (h : Grew w w' A A') : Stays w w' (fun k => blkOf A = some k) := ⟨h.grown.os, h.grown.tape, h.grown.output, h.grown.size, fun k hk hN => h.grown.block k hk (fun e => hN e.symm)⟩
theorem Stays.set (w : World) (b o : Nat) (v : Value) : Stays w (w.setCell ⟨b, o, Option.none⟩ v) (fun k => k = b) := ⟨rfl, rfl, rfl, by simp [World.setCell], fun k _ hN => Below.heap_setCell w _ _ k hN⟩
theorem Stays.sets (w : World) (b o : Nat) (vs : List Value) : Stays w (w.setCells b o vs) (fun k => k = b) := by
  obtain ⟨h1, h2, h3, h4, h5⟩ := keep_setCells b vs o w
  exact ⟨h2, h3, h4, Nat.le_of_eq h1.symm, fun k _ hN => h5 k hN⟩
theorem Stays.below {B : Nat} (h : Stays w w' No) (hB : B ≤ w.heap.size) (hn : ∀ k, No k → B ≤ k) : Below B w w' := by
  exact ⟨h.os, h.tape, h.output, h.size, fun k hk => h.block k (Nat.lt_of_lt_of_le hk hB) (fun h3 => Nat.lt_irrefl _ (Nat.lt_of_lt_of_le hk (hn k h3)))⟩
section
variable {base n c : Nat} {e : TypeId} {size : Nat} {A : Option Addr} {xs : List Value} {F : Nat} {T : TypeId} {x y z u : Value}
theorem Own.stays (h : Own w base e size A n c xs) (hs : Stays w w' No) (hn : ∀ k, blkOf A = Option.some k → ¬ No k) : Own w' base e size A n c xs := by
  refine ⟨h.1, ?_⟩
  have hlt := h.lt
  rcases h.2 with h2 | ⟨g, cap, cur, h1, h2, h3, h4⟩
  · exact .inl h2
  · simp only [Value.slice.injEq] at h1
    have hg : blkOf A = Option.some g := by rw [h1.1]; rfl
    exact .inr ⟨g, cap, cur, by simp only [Value.slice.injEq]; exact h1, h2, (hs.block g (hlt g hg).2 (hn g hg)).trans h3, h4⟩
theorem Blk4.stays (h : Blk4 w F T x y z u) (hs : Stays w w' No) (hn : ¬ No F) : Blk4 w' F T x y z u := h.same (hs.block F h.lt hn)
/-- a row that grew lies apart from a row that was there -/
theorem Grew.far {A1 B : Option Addr} (h : Grew w w' A A1) (hf : Far A B) (hB : ∀ k, blkOf B = Option.some k → k < w.heap.size) : Far A1 B := by
  intro k hk hb
  rcases h.blk with h1 | ⟨g, hg, h1⟩
  · exact hf k (h1 ▸ hk) hb
  · rw [h1] at hk
    cases hk
    have := hB _ hb
    omega
end
end
theorem Stays.of_below {w w' : World} (h : Below w.heap.size w w') (No : Nat → Prop) : Stays w w' No := ⟨h.os, h.tape, h.output, h.size, fun k hk _ => h.block k hk⟩
theorem Stays.comp {w w1 w2 : World} {No : Nat → Prop} (h : Stays w w1 No) (h2 : Stays w1 w2 No) : Stays w w2 No := h.trans h2 fun _ _ h => h
theorem Stays.join {w w1 w2 : World} {N1 N2 : Nat → Prop} (h : Stays w w1 N1) (h2 : Stays w1 w2 N2) : Stays w w2 (fun k => N1 k ∨ N2 k) := (h.mono (No2 := fun k => N1 k ∨ N2 k) (fun _ _ h => .inl h)).trans h2 (fun _ _ h => .inr h)
end Go.Proofs.Ytfggcmbainhglaa
namespace Go.Proofs.Ytfggcmbainhglaa
open Go.RowKit

/-- the block F holds these cells -/
def BlkA (w : World) (F : Nat) (T : TypeId) (cs : Array Value) : Prop := w.heap[F]? = some (.cells cs T (0, 0))
section
variable {w w' : World} {F : Nat} {T : TypeId} {cs : Array Value} {No : Nat → Prop}
theorem BlkA.lt (h : BlkA w F T cs) : F < w.heap.size := (Array.getElem?_eq_some_iff.1 h).1
theorem BlkA.new (w : World) (T : TypeId) (cs : Array Value) : BlkA (w.alloc (.cells cs T)) w.heap.size T cs := heap_alloc_new w _
theorem BlkA.same (h : BlkA w F T cs) (hk : w'.heap[F]? = w.heap[F]?) : BlkA w' F T cs := hk.trans h
theorem BlkA.next (h : BlkA w F T cs) (hb : Below w.heap.size w w') : BlkA w' F T cs := h.same (hb.block F h.lt)
theorem BlkA.below {B : Nat} (h : BlkA w F T cs) (hb : Below B w w') (hF : F < B) : BlkA w' F T cs := h.same (hb.block F hF)
theorem BlkA.alloc (h : BlkA w F T cs) (o : Obj) : BlkA (w.alloc o) F T cs := h.same (Below.heap_alloc w o F h.lt)
theorem BlkA.drewN (h : BlkA w F T cs) (k : Nat) : BlkA (w.drewN k) F T cs := h
theorem BlkA.drew (h : BlkA w F T cs) : BlkA w.drew F T cs := h
theorem BlkA.kept {row : Option Nat} (h : BlkA w F T cs) (hg : w.grownBy w' row) (hne : row ≠ some F) : BlkA w' F T cs := h.same (hg.block F h.lt (fun e => hne e.symm))
theorem BlkA.setCell (h : BlkA w F T cs) {p : Addr} (hp : p.block ≠ F) (v : Value) : BlkA (w.setCell p v) F T cs := h.same (Below.heap_setCell w p v F (fun e => hp e.symm))
theorem BlkA.stays (h : BlkA w F T cs) (hs : Stays w w' No) (hn : ¬ No F) : BlkA w' F T cs := h.same (hs.block F h.lt hn)
theorem BlkA.get (h : BlkA w F T cs) (j : Nat) : w.cell? ⟨F, j, none⟩ = cs[j]? := cell_of_row w F j _ T (0, 0) h
theorem BlkA.frozen (h : BlkA w F T cs) (j : Nat) : w.frozen? ⟨F, j, none⟩ = false := by
  have h' : w.heap[F]? = some (.cells cs T (0, 0)) := h
  simp [World.frozen?, h']
theorem BlkA.set (h : BlkA w F T cs) (j : Nat) (v : Value) : BlkA (w.setCell ⟨F, j, none⟩ v) F T (cs.set! j v) := heap_setCell_same w F j _ _ _ h
theorem BlkA.apart (h : BlkA w F T cs) {base : Nat} {e : TypeId} {size n c : Nat} {A : Option Addr} {xs : List Value} (ho : Own w base e size A n c xs) (hT : e ≠ T) : blkOf A ≠ some F := by
  intro he
  have h' : w.heap[F]? = some (.cells cs T (0, 0)) := h
  rcases ho.2 with ⟨h1, _⟩ | ⟨g, cap, cur, h1, _, h3, _⟩
  · simp only [Value.slice.injEq] at h1
    rw [h1.1] at he
    cases he
  · simp only [Value.slice.injEq] at h1
    rw [h1.1] at he
    have hg : g = F := by simpa [blkOf] using he
    subst hg
    rw [h'] at h3
    simp only [Option.some.injEq, Obj.cells.injEq] at h3
    exact hT h3.2.1.symm
theorem BlkA.two (h : BlkA w F T cs) {F' : Nat} {T' : TypeId} {cs' : Array Value} (h2 : BlkA w F' T' cs') (hT : T ≠ T') : F ≠ F' := by
  rintro rfl
  have h' : w.heap[F]? = some (.cells cs T (0, 0)) := h
  have h2' : w.heap[F]? = some (.cells cs' T' (0, 0)) := h2
  rw [h'] at h2'
  simp only [Option.some.injEq, Obj.cells.injEq] at h2'
  exact hT h2'.2.1
end
theorem after_alloc {w1 w2 : World} {cs : Array Value} {T : TypeId} (hb : Below (w1.alloc (.cells cs T)).heap.size (w1.alloc (.cells cs T)) w2) : BlkA w2 w1.heap.size T cs ∧ w1.heap.size < w2.heap.size := by
  have h := (BlkA.new w1 T cs).next hb
  exact ⟨h, h.lt⟩
theorem after_allocD {w1 w2 : World} {cs : Array Value} {T : TypeId} (hb : Below (w1.alloc (.cells cs T)).drew.heap.size (w1.alloc (.cells cs T)).drew w2) : BlkA w2 w1.heap.size T cs ∧ w1.heap.size < w2.heap.size := by
  have h := (BlkA.new w1 T cs).drew.next hb
  exact ⟨h, h.lt⟩
theorem after_allocN {w1 w2 : World} {cs : Array Value} {T : TypeId} {k : Nat} (hb : Below ((w1.alloc (.cells cs T)).drewN k).heap.size ((w1.alloc (.cells cs T)).drewN k) w2) : BlkA w2 w1.heap.size T cs ∧ w1.heap.size < w2.heap.size := by
  have h := ((BlkA.new w1 T cs).drewN k).next hb
  exact ⟨h, h.lt⟩
end Go.Proofs.Ytfggcmbainhglaa
namespace Go.Proofs.Ytfggcmbainhglaa.hp

variable {α : Type} (key : α → Int) (z : α)

/-- two elements change places -/
def swap (l : List α) (i j : Nat) : List α := (l.set i (l.getD j z)).set j (l.getD i z)
/-- the key at a place -/
def K (l : List α) (k : Nat) : Int := key (l.getD k z)
theorem swap_length (l : List α) (i j : Nat) : (swap z l i j).length = l.length := by unfold swap; rw [List.length_set, List.length_set]
theorem getD_set {l : List α} {i k : Nat} {x : α} (hi : i < l.length) : (l.set i x).getD k z = if k = i then x else l.getD k z := by
  rw [List.getD_eq_getElem?_getD, List.getD_eq_getElem?_getD]
  by_cases h : k = i
  · subst h
    rw [if_pos rfl, List.getElem?_set_self hi]
    rfl
  · rw [if_neg h, List.getElem?_set_ne (fun e => h e.symm)]
theorem swap_getD {l : List α} {i j : Nat} (hi : i < l.length) (hj : j < l.length) (k : Nat) : (swap z l i j).getD k z = if k = j then l.getD i z else if k = i then l.getD j z else l.getD k z := by
  unfold swap
  rw [getD_set z (by rw [List.length_set]; exact hj), getD_set z hi]
theorem swap_K {l : List α} {i j : Nat} (hi : i < l.length) (hj : j < l.length) (k : Nat) : K key z (swap z l i j) k = if k = j then K key z l i else if k = i then K key z l j else K key z l k := by
  unfold K
  rw [swap_getD z hi hj]
  split
  · rfl
  · split <;> rfl
theorem set_perm : ∀ {l : List α} {i : Nat} (x : α), i < l.length → (x :: l).Perm (l.getD i z :: l.set i x)
  | [], i, x, h => by simp at h
  | y :: l, 0, x, _ => List.Perm.swap y x l
  | y :: l, i + 1, x, h => by
    have ih := set_perm (i := i) x (l := l) (by simpa using h)
    have e : (y :: l).getD (i + 1) z = l.getD i z := rfl
    rw [e, List.set_cons_succ]
    exact ((List.Perm.swap y x l).trans (ih.cons y)).trans (List.Perm.swap _ y _)
theorem swap_perm {l : List α} {i j : Nat} (hi : i < l.length) (hj : j < l.length) : (swap z l i j).Perm l := by
  unfold swap
  have h1 := set_perm z (l.getD j z) hi
  have h2 := set_perm z (l := l.set i (l.getD j z)) (i := j) (l.getD i z) (by rw [List.length_set]; exact hj)
  have e : (l.set i (l.getD j z)).getD j z = l.getD j z := by
    rw [getD_set z hi]
    split <;> simp_all
  rw [e] at h2
  exact ((h1.trans h2).cons_inv).symm
/-- the lesser child of two -/
def child (l : List α) (n i : Nat) : Nat := if 2 * i + 2 < n ∧ K key z l (2 * i + 2) < K key z l (2 * i + 1) then 2 * i + 2 else 2 * i + 1
theorem child_gt (l : List α) (n i : Nat) : i < child key z l n i := by unfold child; split <;> omega
theorem child_lt {l : List α} {n i : Nat} (h : 2 * i + 1 < n) : child key z l n i < n := by unfold child; split <;> omega
/-- an element sinks -/
def down (l : List α) (n i : Nat) : List α :=
  if h : 2 * i + 1 < n then
    if K key z l (child key z l n i) < K key z l i then down (swap z l i (child key z l n i)) n (child key z l n i) else l
  else l
termination_by n - i
decreasing_by have := child_gt key z l n i; omega
/-- an element rises -/
def up (l : List α) (j : Nat) : List α :=
  if h : 0 < j then
    if K key z l j < K key z l ((j - 1) / 2) then up (swap z l ((j - 1) / 2) j) ((j - 1) / 2) else l
  else l
termination_by j
decreasing_by omega
/-- from a place on each parent is no greater than its children -/
def Hp (l : List α) (n lo : Nat) : Prop := ∀ k, 0 < k → k < n → lo ≤ (k - 1) / 2 → K key z l ((k - 1) / 2) ≤ K key z l k
/-- the same but at one parent; its children are no less than its own parent -/
structure HpD (l : List α) (n lo i : Nat) : Prop where
  at_ : ∀ k, 0 < k → k < n → lo ≤ (k - 1) / 2 → (k - 1) / 2 ≠ i → K key z l ((k - 1) / 2) ≤ K key z l k
  up_ : ∀ k, 0 < k → k < n → (k - 1) / 2 = i → 0 < i → lo ≤ (i - 1) / 2 → K key z l ((i - 1) / 2) ≤ K key z l k
theorem down_spec (l : List α) (n lo i : Nat) (hl : n ≤ l.length) (hi : lo ≤ i) (h : HpD key z l n lo i) :
    Hp key z (down key z l n i) n lo ∧ (down key z l n i).Perm l ∧ ∀ k, n ≤ k → (down key z l n i).getD k z = l.getD k z := by
  rw [down]
  split
  · next hc =>
    have hcl := child_lt key z (l := l) hc
    have hcg := child_gt key z l n i
    have hmin : ∀ k, 0 < k → k < n → (k - 1) / 2 = i → K key z l (child key z l n i) ≤ K key z l k := fun k h0 hk he => by
      have hk2 : k = 2 * i + 1 ∨ k = 2 * i + 2 := by omega
      unfold child
      rcases hk2 with rfl | rfl
      · split <;> omega
      · split
        · omega
        · next hn => have : ¬ (K key z l (2 * i + 2) < K key z l (2 * i + 1)) := fun e => hn ⟨hk, e⟩; omega
    have hpar : (child key z l n i - 1) / 2 = i := by unfold child; split <;> omega
    generalize child key z l n i = j at *
    split
    · next hlt =>
      have hil : i < l.length := by omega
      have hjl : j < l.length := by omega
      have ih := down_spec (swap z l i j) n lo j (by rw [swap_length]; exact hl) (by omega) (by
        constructor
        · intro k h0 hk hlo hne
          rw [swap_K key z hil hjl, swap_K key z hil hjl]
          by_cases hpi : (k - 1) / 2 = i
          · rw [if_neg (by omega), if_pos hpi]
            by_cases hkj : k = j
            · rw [if_pos hkj]; omega
            · rw [if_neg hkj, if_neg (by omega)]
              exact hmin k h0 hk hpi
          · rw [if_neg hne, if_neg hpi]
            by_cases hkj : k = j
            · exact absurd (hkj ▸ hpar) hpi
            · rw [if_neg hkj]
              by_cases hki : k = i
              · rw [if_pos hki]
                subst hki
                exact h.up_ j (by omega) hcl hpar h0 hlo
              · rw [if_neg hki]
                exact h.at_ k h0 hk hlo hpi
        · intro k h0 hk he hj0 hlo
          rw [swap_K key z hil hjl, swap_K key z hil hjl, hpar, if_neg (by omega), if_pos rfl, if_neg (by omega), if_neg (by omega)]
          have := h.at_ k h0 hk (by omega) (by omega)
          rw [he] at this
          exact this)
      refine ⟨ih.1, ih.2.1.trans (swap_perm z hil hjl), fun k hk => (ih.2.2 k hk).trans ?_⟩
      rw [swap_getD z hil hjl, if_neg (by omega), if_neg (by omega)]
    · next hge =>
      refine ⟨fun k h0 hk hlo => ?_, List.Perm.refl _, fun _ _ => rfl⟩
      by_cases hpi : (k - 1) / 2 = i
      · rw [hpi]
        have := hmin k h0 hk hpi
        omega
      · exact h.at_ k h0 hk hlo hpi
  · next hc =>
    refine ⟨fun k h0 hk hlo => h.at_ k h0 hk hlo (by omega), List.Perm.refl _, fun _ _ => rfl⟩
termination_by n - i
theorem down_length (l : List α) (n i : Nat) : (down key z l n i).length = l.length := by
  rw [down]
  split
  · split
    · rw [down_length, swap_length]
    · rfl
  · rfl
termination_by n - i
decreasing_by have := child_gt key z l n i; omega
/-- all is in order but at one child; its children are no less than its parent -/
structure HpU (l : List α) (n j : Nat) : Prop where
  at_ : ∀ k, 0 < k → k < n → k ≠ j → K key z l ((k - 1) / 2) ≤ K key z l k
  dn_ : ∀ k, 0 < k → k < n → (k - 1) / 2 = j → 0 < j → K key z l ((j - 1) / 2) ≤ K key z l k
theorem up_spec (l : List α) (n j : Nat) (hl : n ≤ l.length) (hj : j < n) (h : HpU key z l n j) :
    Hp key z (up key z l j) n 0 ∧ (up key z l j).Perm l := by
  rw [up]
  split
  · next h0j =>
    split
    · next hlt =>
      have hil : (j - 1) / 2 < l.length := by omega
      have hjl : j < l.length := by omega
      have ih := up_spec (swap z l ((j - 1) / 2) j) n ((j - 1) / 2) (by rw [swap_length]; exact hl) (by omega) (by
        constructor
        · intro k h0 hk hne
          rw [swap_K key z hil hjl, swap_K key z hil hjl]
          by_cases hkj : k = j
          · subst hkj
            rw [if_neg (by omega), if_pos rfl, if_pos rfl]
            omega
          · rw [if_neg hkj, if_neg hne]
            by_cases hpj : (k - 1) / 2 = j
            · rw [if_pos hpj]
              exact h.dn_ k h0 hk hpj h0j
            · rw [if_neg hpj]
              by_cases hpp : (k - 1) / 2 = (j - 1) / 2
              · rw [if_pos hpp]
                have := h.at_ k h0 hk hkj
                rw [hpp] at this
                omega
              · rw [if_neg hpp]
                exact h.at_ k h0 hk hkj
        · intro k h0 hk he hj0
          rw [swap_K key z hil hjl, swap_K key z hil hjl, if_neg (by omega), if_neg (by omega)]
          have hp := h.at_ ((j - 1) / 2) hj0 (by omega) (by omega)
          by_cases hkj : k = j
          · rw [if_pos hkj]
            exact hp
          · rw [if_neg hkj, if_neg (by omega)]
            have := h.at_ k h0 hk hkj
            rw [he] at this
            omega)
      exact ⟨ih.1, ih.2.trans (swap_perm z hil hjl)⟩
    · next hge =>
      refine ⟨fun k h0 hk _ => ?_, List.Perm.refl _⟩
      by_cases hkj : k = j
      · subst hkj; omega
      · exact h.at_ k h0 hk hkj
  · next h0j => exact ⟨fun k h0 hk _ => h.at_ k h0 hk (by omega), List.Perm.refl _⟩
termination_by j
theorem up_length (l : List α) (j : Nat) : (up key z l j).length = l.length := by
  rw [up]
  split
  · split
    · rw [up_length, swap_length]
    · rfl
  · rfl
termination_by j
decreasing_by omega
/-- the first is the least -/
theorem Hp.least {l : List α} {n : Nat} (h : Hp key z l n 0) : ∀ (k : Nat), k < n → K key z l 0 ≤ K key z l k
  | 0, _ => Int.le_refl _
  | k + 1, hk => by
    have h1 := h (k + 1) (by omega) hk (Nat.zero_le _)
    have h2 := Hp.least h ((k + 1 - 1) / 2) (by omega)
    omega
termination_by k => k
/-- all parents from the last to the first sink -/
def init (l : List α) : Nat → List α → List α
  | 0, m => m
  | i + 1, m => init l i (down key z m l.length i)
theorem init_spec (l : List α) : ∀ (i : Nat) (m : List α), m.length = l.length → Hp key z m l.length i → Hp key z (init key z l i m) l.length 0 ∧ (init key z l i m).Perm m
  | 0, m, _, h => ⟨h, List.Perm.refl _⟩
  | i + 1, m, hm, h => by
    have hd := down_spec key z m l.length i i (by omega) (Nat.le_refl _) ⟨fun k h0 hk hlo hne => h k h0 hk (by omega), fun k h0 hk he h0i hlo => by omega⟩
    have ih := init_spec l i (down key z m l.length i) (by rw [down_length]; exact hm) hd.1
    exact ⟨ih.1, ih.2.trans hd.2.1⟩
theorem getD_take {l : List α} {n k : Nat} (h : k < n) : (l.take n).getD k z = l.getD k z := by
  rw [List.getD_eq_getElem?_getD, List.getD_eq_getElem?_getD, List.getElem?_take_of_lt h]
/-- the first is taken out: what is left, the last of the turned list being what is taken -/
def popped (l : List α) : List α := down key z (swap z l 0 (l.length - 1)) (l.length - 1) 0
theorem popped_length (l : List α) : (popped key z l).length = l.length := by unfold popped; rw [down_length, swap_length]
theorem pop_spec {l : List α} (h0 : 0 < l.length) (h : Hp key z l l.length 0) :
    (popped key z l).getD (l.length - 1) z = l.getD 0 z ∧ l.Perm (l.getD 0 z :: (popped key z l).take (l.length - 1)) ∧ Hp key z ((popped key z l).take (l.length - 1)) (l.length - 1) 0 ∧ ∀ x ∈ (popped key z l).take (l.length - 1), key (l.getD 0 z) ≤ key x := by
  have hl1 : l.length - 1 < l.length := by omega
  have hd := down_spec key z (swap z l 0 (l.length - 1)) (l.length - 1) 0 0 (by rw [swap_length]; omega) (Nat.le_refl _) (by
    constructor
    · intro k hk0 hk _ hne
      rw [swap_K key z h0 hl1, swap_K key z h0 hl1, if_neg (by omega), if_neg (by omega), if_neg (by omega), if_neg (by omega)]
      exact h k hk0 (by omega) (Nat.zero_le _)
    · intro k _ _ _ h00 _
      omega)
  have hlast : (popped key z l).getD (l.length - 1) z = l.getD 0 z := by
    have := hd.2.2 (l.length - 1) (Nat.le_refl _)
    rw [swap_getD z h0 hl1, if_pos rfl] at this
    exact this
  have hlen := popped_length key z l
  have hperm : l.Perm (l.getD 0 z :: (popped key z l).take (l.length - 1)) := by
    have h1 : (popped key z l).Perm l := hd.2.1.trans (swap_perm z h0 hl1)
    have h2 : popped key z l = (popped key z l).take (l.length - 1) ++ [l.getD 0 z] := by
      have e := List.take_append_drop (l.length - 1) (popped key z l)
      have e2 : (popped key z l).drop (l.length - 1) = [l.getD 0 z] := by
        rw [List.drop_eq_getElem_cons (by omega), List.drop_eq_nil_of_le (by omega)]
        rw [List.getD_eq_getElem?_getD, List.getElem?_eq_getElem (by omega)] at hlast
        congr 1
      rw [e2] at e
      exact e.symm
    exact h1.symm.trans ((List.Perm.of_eq h2).trans (List.perm_append_comm (l₁ := (popped key z l).take (l.length - 1)) (l₂ := [l.getD 0 z])))
  refine ⟨hlast, hperm, ?_, fun x hx => ?_⟩
  · intro k hk0 hk hlo
    have := hd.1 k hk0 hk hlo
    unfold K at this ⊢
    rw [getD_take z (by omega), getD_take z hk]
    exact this
  · obtain ⟨k, hk⟩ := List.mem_iff_getElem?.1 (hperm.symm.subset (List.mem_cons_of_mem _ hx))
    have hkl : k < l.length := (List.getElem?_eq_some_iff.1 hk).1
    have := h.least key z k hkl
    unfold K at this
    rw [List.getD_eq_getElem?_getD (i := k), hk] at this
    exact this
/-- one more is laid in -/
def pushed (l : List α) (x : α) : List α := up key z (l ++ [x]) l.length
theorem push_spec {l : List α} (x : α) (h : Hp key z l l.length 0) : Hp key z (pushed key z l x) (l.length + 1) 0 ∧ (pushed key z l x).Perm (x :: l) ∧ (pushed key z l x).length = l.length + 1 := by
  have hK : ∀ k, k < l.length → K key z (l ++ [x]) k = K key z l k := fun k hk => by
    unfold K
    rw [List.getD_eq_getElem?_getD, List.getD_eq_getElem?_getD, List.getElem?_append_left hk]
  have hu := up_spec key z (l ++ [x]) (l.length + 1) l.length (by simp) (by omega) (by
    constructor
    · intro k h0 hk hne
      rw [hK _ (by omega), hK _ (by omega)]
      exact h k h0 (by omega) (Nat.zero_le _)
    · intro k _ hk he _
      omega)
  refine ⟨hu.1, hu.2.trans (List.perm_append_comm (l₁ := l) (l₂ := [x])), ?_⟩
  unfold pushed
  rw [up_length, List.length_append]
  rfl
end Go.Proofs.Ytfggcmbainhglaa.hp
namespace Go.Proofs.Ytfggcmbainhglaa.so

/-- the order of a stable sort of rising numbers: by the key, then by the number -/
def lx (key : Int → Int) (a b : Int) : Prop := key a < key b ∨ (key a = key b ∧ a < b)
section
variable {key : Int → Int}
theorem lx.trans {a b c : Int} (h : lx key a b) (k : lx key b c) : lx key a c := by unfold lx at *; omega
theorem lx.irrefl {a : Int} : ¬ lx key a a := by unfold lx; omega
theorem lx.asymm {a b : Int} (h : lx key a b) : ¬ lx key b a := by unfold lx at *; omega
theorem lx.le {a b : Int} (h : lx key a b) : key a ≤ key b := by unfold lx at h; omega
theorem lx.of_le {a b : Int} (h : key a ≤ key b) (hab : a < b) : lx key a b := by unfold lx; omega
theorem lx.of_lt {a b : Int} (h : key a < key b) : lx key a b := .inl h
abbrev Srt (key : Int → Int) (l : List Int) : Prop := l.Pairwise (lx key)
/-- a sorted list is the only one of its elements -/
theorem Srt.unique : ∀ {l m : List Int}, Srt key l → Srt key m → l.Perm m → l = m
  | [], m, _, _, h => (List.Perm.eq_nil h.symm).symm
  | x :: l, [], _, _, h => absurd h.length_eq (by simp)
  | x :: l, y :: m, hl, hm, h => by
    obtain ⟨h1, h2⟩ := List.pairwise_cons.1 hl
    obtain ⟨k1, k2⟩ := List.pairwise_cons.1 hm
    have hxy : x = y := by
      have hx : x ∈ y :: m := h.mem_iff.1 (by simp)
      have hy : y ∈ x :: l := h.mem_iff.2 (by simp)
      rcases List.mem_cons.1 hx with e | hx
      · exact e
      · rcases List.mem_cons.1 hy with e | hy
        · exact e.symm
        · exact absurd (h1 y hy) (k1 x hx).asymm
    subst hxy
    rw [Srt.unique h2 k2 ((List.perm_cons x).1 h)]
/-- one element laid among sorted ones -/
theorem Srt.insert {l : List Int} {x : Int} {t : Nat} (h : Srt key l) (h1 : ∀ y ∈ l.take t, lx key y x) (h2 : ∀ y ∈ l.drop t, lx key x y) : Srt key (l.take t ++ x :: l.drop t) := by
  have hs : Srt key (l.take t ++ l.drop t) := by rw [List.take_append_drop]; exact h
  obtain ⟨a, b, c⟩ := List.pairwise_append.1 hs
  refine List.pairwise_append.2 ⟨a, List.pairwise_cons.2 ⟨h2, b⟩, fun y hy z hz => ?_⟩
  rcases List.mem_cons.1 hz with rfl | hz
  · exact h1 y hy
  · exact c y hy z hz
theorem Srt.at {l : List Int} (h : Srt key l) {i j : Nat} (hij : i < j) (hj : j < l.length) : lx key (l.getD i 0) (l.getD j 0) := by
  have := List.pairwise_iff_getElem.1 h i j (by omega) hj hij
  simpa [List.getD_eq_getElem?_getD, List.getElem?_eq_getElem hj, List.getElem?_eq_getElem (show i < l.length by omega)] using this
theorem mem_take_at {l : List Int} {t : Nat} {y : Int} (h : y ∈ l.take t) : ∃ i, i < t ∧ i < l.length ∧ l.getD i 0 = y := by
  obtain ⟨i, hi, e⟩ := List.mem_iff_getElem.1 h
  rw [List.length_take] at hi
  refine ⟨i, by omega, by omega, ?_⟩
  rw [List.getElem_take] at e
  rw [List.getD_eq_getElem?_getD, List.getElem?_eq_getElem (by omega)]
  exact e
theorem mem_drop_at {l : List Int} {t : Nat} {y : Int} (h : y ∈ l.drop t) : ∃ i, t ≤ i ∧ i < l.length ∧ l.getD i 0 = y := by
  obtain ⟨i, hi, e⟩ := List.mem_iff_getElem.1 h
  rw [List.length_drop] at hi
  refine ⟨t + i, by omega, by omega, ?_⟩
  rw [List.getElem_drop] at e
  rw [List.getD_eq_getElem?_getD, List.getElem?_eq_getElem (by omega)]
  exact e
theorem insert_perm (l : List Int) (x : Int) (t : Nat) : (l.take t ++ x :: l.drop t).Perm (x :: l) := by
  have h := List.perm_middle (a := x) (l₁ := l.take t) (l₂ := l.drop t)
  rwa [List.take_append_drop] at h
/-- both halves, merged by the two middle cuts -/
theorem Srt.merge {L1 L2 R1 R2 M1 M2 : List Int} (hL : Srt key (L1 ++ L2)) (hR : Srt key (R1 ++ R2)) (h12 : ∀ x ∈ L1, ∀ y ∈ R2, lx key x y) (h21 : ∀ x ∈ R1, ∀ y ∈ L2, lx key x y)
    (p1 : M1.Perm (L1 ++ R1)) (p2 : M2.Perm (L2 ++ R2)) (s1 : Srt key M1) (s2 : Srt key M2) : Srt key (M1 ++ M2) := by
  obtain ⟨_, _, hl⟩ := List.pairwise_append.1 hL
  obtain ⟨_, _, hr⟩ := List.pairwise_append.1 hR
  refine List.pairwise_append.2 ⟨s1, s2, fun x hx y hy => ?_⟩
  rcases List.mem_append.1 (p1.mem_iff.1 hx) with hx | hx <;> rcases List.mem_append.1 (p2.mem_iff.1 hy) with hy | hy
  · exact hl x hx y hy
  · exact h12 x hx y hy
  · exact h21 x hx y hy
  · exact hr x hx y hy
theorem merge_perm {L1 L2 R1 R2 M1 M2 : List Int} (p1 : M1.Perm (L1 ++ R1)) (p2 : M2.Perm (L2 ++ R2)) : (M1 ++ M2).Perm ((L1 ++ L2) ++ (R1 ++ R2)) := by
  refine (p1.append p2).trans ?_
  simp only [List.append_assoc]
  refine List.Perm.append_left _ ?_
  rw [← List.append_assoc, ← List.append_assoc]
  exact List.Perm.append_right _ List.perm_append_comm
end
end Go.Proofs.Ytfggcmbainhglaa.so
