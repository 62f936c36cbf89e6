/- Words of this prover's own: values in memory read as Lean data ('Rep'), opened from the form's readings, kept over worlds; and the last step of a law's row. No condition. -/
import Derived.Test.YtlcjdlnhniemcaaDoorRows
import Derived.WalkKit
import Derived.WalkSpells
import Derived.WalkLawsBesides
import Derived.ProofKit
import Derived.OpenShut
import Derived.SizedLaws
import Derived.Lib.Hide
namespace Go.Proofs.YtlcjdlnhniemcaaDoor
open Go.RowKit Go.WideShapes Go.ChangeShapes Go.ChangeAt

/-! ### Small facts on worlds -/
theorem bcell {W w1 : World} (hb : Below W.heap.size W w1) : (∀ b o, b < W.heap.size → w1.cell? ⟨b, o, none⟩ = W.cell? ⟨b, o, none⟩) ∧ (∀ b o, b < W.heap.size → w1.frozen? ⟨b, o, none⟩ = W.frozen? ⟨b, o, none⟩) ∧ (∀ k, k < W.heap.size → k < w1.heap.size) ∧ W.heap.size ≤ w1.heap.size :=
  ⟨fun b o h => hb.cell (p := ⟨b, o, none⟩) h, fun b o h => hb.frozen (p := ⟨b, o, none⟩) h, fun _ hk => Nat.lt_of_lt_of_le hk hb.size, hb.size⟩
theorem bnext {w W W1 : World} (h : Below w.heap.size w W) (hb : Below W.heap.size W W1) : Below w.heap.size w W1 := h.trans (hb.mono h.size)
theorem bself (w : World) : Below w.heap.size w w := Below.refl _ _
theorem balloc {w W : World} (h : Below w.heap.size w W) (o : Obj) : Below w.heap.size w (W.alloc o) := h.alloc h.size o

theorem bset {w W : World} (h : Below w.heap.size w W) {b o : Nat} (hb : w.heap.size ≤ b) (u : Value) : Below w.heap.size w (W.setCell ⟨b, o, none⟩ u) := h.setCell (p := ⟨b, o, none⟩) hb u
theorem bdrewN {B : Nat} {a w : World} (h : Below B a w) (n : Nat) : Below B a (w.drewN n) := ⟨h.os, h.tape, h.output, h.size, h.block⟩

theorem size_drewN (w : World) (n : Nat) : (w.drewN n).heap.size = w.heap.size := rfl

theorem isSome_setCell (w : World) (a b : Addr) (v : Value) : ((w.setCell a v).cell? b).isSome = (w.cell? b).isSome := by
  simp only [World.setCell, World.cell?, Array.getElem?_modify]
  by_cases hb : a.block = b.block
  · simp only [hb, if_true]
    cases hh : w.heap[b.block]? with
    | none => simp
    | some x =>
      cases x <;> simp
      rename_i c e f
      by_cases hs : b.spot.isSome = true <;> by_cases ha : a.spot.isSome = true <;> simp [hs, ha]
      by_cases hl : b.off < c.size
      · simp [hl]
      · simp [hl]
  · simp [hb]
theorem setCell_twice (w : World) (a : Addr) (u v : Value) : (w.setCell a u).setCell a v = w.setCell a v := by
  unfold World.setCell
  congr 1
  apply Array.ext_getElem?
  intro i
  simp only [Array.getElem?_modify]
  by_cases h : a.block = i
  · simp only [h, if_true]
    cases w.heap[i]? with
    | none => rfl
    | some x =>
      cases x <;> simp
      by_cases hs : a.spot.isSome = true <;> simp [hs]
  · simp [h]
attribute [go_sem] isSome_setCell setCell_twice

/-! ### Ends of walks -/
theorem ret_bool {a b : Bool} (h : a = b) : Ending.returned (.bool a) = .returned (.bool b) := by rw [h]
theorem ret_int {k : IntKind} {a b : Int} (h : a = b) : Ending.returned (.int k a) = .returned (.int k b) := by rw [h]
theorem ret2_int {k l : IntKind} {a b c d : Int} (h : a = b) (h' : c = d) : Ending.returned (.tuple #[.int k a, .int l c]) = .returned (.tuple #[.int k b, .int l d]) := by rw [h, h']
theorem ret2_bool {l : IntKind} {a b : Bool} {c d : Int} (h : a = b) (h' : c = d) : Ending.returned (.tuple #[.bool a, .int l c]) = .returned (.tuple #[.bool b, .int l d]) := by rw [h, h']

/-! ### A reading of cells as a Lean value: 'S' bounds the blocks that it leads to. -/
structure Rep (α : Type) where
  size : Nat
  rep : World → (Nat → Prop) → α → List Value → Prop
  bulk : α → Nat
  len : ∀ {w S a cs}, rep w S a cs → cs.length = size
  mono : ∀ {w w' S S' a cs}, rep w S a cs → (∀ k, S k → S' k ∧ w'.heap[k]? = w.heap[k]?) → rep w' S' a cs

namespace Rep
def int : Rep Int := ⟨1, fun _ _ n cs => cs = [.int .i64 n], fun _ => 1, fun h => by subst h; rfl, fun h _ => h⟩
def u8 : Rep UInt8 := ⟨1, fun _ _ n cs => cs = [.int .u8 n.toNat], fun _ => 1, fun h => by subst h; rfl, fun h _ => h⟩
def bool : Rep Bool := ⟨1, fun _ _ n cs => cs = [.bool n], fun _ => 1, fun h => by subst h; rfl, fun h _ => h⟩
def str : Rep ByteArray := ⟨1, fun _ _ n cs => cs = [.string n], fun s => s.size + 1, fun h => by subst h; rfl, fun h _ => h⟩
def unit : Rep Unit := ⟨0, fun _ _ _ cs => cs = [], fun _ => 0, fun h => by subst h; rfl, fun h _ => h⟩
def pair {α β : Type} (R : Rep α) (T : Rep β) : Rep (α × β) :=
  ⟨R.size + T.size, fun w S a cs => ∃ c d, cs = c ++ d ∧ R.rep w S a.1 c ∧ T.rep w S a.2 d, fun a => R.bulk a.1 + T.bulk a.2,
    fun ⟨c, d, e, h1, h2⟩ => by rw [e, List.length_append, R.len h1, T.len h2],
    fun ⟨c, d, e, h1, h2⟩ hk => ⟨c, d, e, R.mono h1 hk, T.mono h2 hk⟩⟩
def via {α β : Type} (f : α → β) (R : Rep β) : Rep α :=
  ⟨R.size, fun w S a cs => R.rep w S (f a) cs, fun a => R.bulk (f a), fun h => R.len h, fun h hk => R.mono h hk⟩

/-- the elements of a slice from an address on -/
def at_ {α : Type} (R : Rep α) (w : World) (S : Nat → Prop) (b o : Nat) (l : List α) : Prop :=
  ∀ i a, l[i]? = some a → ∃ cs, R.rep w S a cs ∧ ∀ j u, cs[j]? = some u → w.cell? ⟨b, o + i * R.size + j, none⟩ = some u

def slice {α : Type} (R : Rep α) : Rep (List α) :=
  ⟨1, fun w S l cs => ∃ A c, cs = [.slice A l.length c] ∧ l.length ≤ c ∧ c ≤ maxLen ∧ (l = [] ∨ ∃ b o, A = some ⟨b, o, none⟩ ∧ S b ∧ R.at_ w S b o l), fun l => (l.map R.bulk).sum + 1,
    fun ⟨_, _, e, _⟩ => by subst e; rfl,
    fun ⟨A, c, e, h1, h2, h3⟩ hk => ⟨A, c, e, h1, h2, h3.imp id fun ⟨b, o, e, hb, h⟩ => ⟨b, o, e, (hk b hb).1, fun i a hi =>
      let ⟨cs, h4, h5⟩ := h i a hi
      ⟨cs, R.mono h4 hk, fun j u hu => (World.cell?_of_block (hk b hb).2).trans (h5 j u hu)⟩⟩⟩⟩
end Rep

/-! ### Opened from the form's reading -/
/-- every reading of type t is a reading by R, and is 'ok' -/
structure Opens (P : Program) {α : Type} (R : Rep α) (ok : α → Prop) (t : TypeId) : Prop where
  one : P.cellsOf t = R.size
  two : ∀ {H : Type} {enc : TypeId × Value → H} {w : World} {base : Nat} {sp : Nat → Bool} {held : Bool} {fuel : Nat} {cs : List Value} {x : DataW H × List MemPlace},
    DataW.trod enc P w base sp held fuel t cs = some x → (∀ n, n ∈ x.1.weights P t → n ≤ reachBytes) → ∃ a, R.rep w (· < w.heap.size) a cs ∧ ok a ∧ R.bulk a ≤ Rows.uptoBulk x.1

def IntOk (n : Int) : Prop := -9223372036854775808 ≤ n ∧ n ≤ 9223372036854775807
def StrOk (s : ByteArray) : Prop := s.size ≤ 140737488351232
/-- every element is ok, and the whole is within the form's reach, 'bytes' an element -/
def AllOk {α : Type} (bytes : Nat) (ok : α → Prop) (l : List α) : Prop := (∀ a, a ∈ l → ok a) ∧ l.length * bytes ≤ 140737488351232
def PairOk {α β : Type} (o1 : α → Prop) (o2 : β → Prop) (x : α × β) : Prop := o1 x.1 ∧ o2 x.2
def AnyOk {α : Type} (_ : α) : Prop := True

section
variable {P : Program}
theorem opens_int {t : TypeId} (ht : P.underlying t = some (.int .i64)) (hc : P.cellsOf t = 1) : Opens P Rep.int IntOk t := by
  refine ⟨hc, fun h _ => ?_⟩
  obtain ⟨n, rfl, rfl, hw⟩ := DataW.trod_int ht h
  exact ⟨n, rfl, by simpa [IntOk, Lit.wf, IntKind.min, IntKind.max, IntKind.signed, IntKind.bits] using hw, by simp [Rows.uptoBulk, Rep.int]⟩

theorem opens_u8 {t : TypeId} (ht : P.underlying t = some (.int .u8)) (hc : P.cellsOf t = 1) : Opens P Rep.u8 AnyOk t := by
  refine ⟨hc, fun h _ => ?_⟩
  obtain ⟨n, rfl, rfl, hw⟩ := DataW.trod_int ht h
  have hb : 0 ≤ n ∧ n ≤ 255 := by simpa [Lit.wf, IntKind.min, IntKind.max, IntKind.signed, IntKind.bits] using hw
  refine ⟨UInt8.ofNat n.toNat, ?_, trivial, by simp [Rows.uptoBulk, Rep.u8]⟩
  have : ((UInt8.ofNat n.toNat).toNat : Int) = n := by
    rw [UInt8.toNat_ofNat']; omega
  show _ = [Value.int .u8 _]
  rw [this]

theorem opens_bool {t : TypeId} (ht : P.underlying t = some .bool) (hc : P.cellsOf t = 1) : Opens P Rep.bool AnyOk t := by
  refine ⟨hc, fun h _ => ?_⟩
  obtain ⟨n, rfl, rfl, _⟩ := DataW.trod_bool ht h
  exact ⟨n, rfl, trivial, by simp [Rows.uptoBulk, Rep.bool]⟩

theorem opens_str {t : TypeId} (ht : P.underlying t = some .string) (hc : P.cellsOf t = 1) : Opens P Rep.str StrOk t := by
  refine ⟨hc, fun h hs => ?_⟩
  obtain ⟨s, rfl, rfl, _⟩ := DataW.trod_string ht h
  refine ⟨s, rfl, ?_, by simp only [Rows.uptoBulk, Rep.str, Array.length_toList]; exact Nat.le_refl _⟩
  have := hs s.data.toList.length (by simp [DataW.weights])
  unfold reachBytes at this
  unfold StrOk
  have e : s.data.toList.length = s.size := by rw [Array.length_toList]; rfl
  omega

/-- the fields of a struct, one behind the other -/
structure OpensF (P : Program) {α : Type} (R : Rep α) (ok : α → Prop) (k : Nat) (fs : List Field) : Prop where
  out : ∀ {H : Type} {enc : TypeId × Value → H} {w : World} {base : Nat} {sp : Nat → Bool} {held : Bool} {n : Nat} {cs : List Value} (xs : List (DataW H × List MemPlace)),
    cs.length = k + R.size → (∀ (i : Nat) (f : Field), fs[i]? = some f → DataW.trod enc P w base sp held n f.type ((cs.drop f.offset).take (P.cellsOf f.type)) = xs[i]?) → xs.length = fs.length →
    (∀ n, n ∈ DataW.weightsEach P (fs.map (·.type)) (xs.map (·.1)) → n ≤ reachBytes) → ∃ a, R.rep w (· < w.heap.size) a (cs.drop k) ∧ ok a ∧ R.bulk a ≤ Rows.uptoBulkAll (xs.map (·.1))

theorem opensF_nil (k : Nat) : OpensF P Rep.unit AnyOk k [] := by
  constructor
  intro H enc w base sp held n cs xs hl _ _ _
  exact ⟨(), List.drop_eq_nil_of_le (by rw [hl]; simp [Rep.unit]), trivial, by simp [Rep.unit]⟩

theorem opensF_cons {α β : Type} {R : Rep α} {T : Rep β} {o1 : α → Prop} {o2 : β → Prop} {k : Nat} {f : Field} {fs : List Field} (h1 : Opens P R o1 f.type) (hk : f.offset = k) (h2 : OpensF P T o2 (k + R.size) fs) :
    OpensF P (Rep.pair R T) (PairOk o1 o2) k (f :: fs) := by
  constructor
  intro H enc w base sp held n cs xs hl hx hxl hw
  have hl' : cs.length = k + R.size + T.size := by rw [hl]; simp only [Rep.pair]; omega
  match xs, hxl with
  | x :: xs', hxl =>
    have e0 := hx 0 f rfl
    simp only [List.getElem?_cons_zero] at e0
    simp only [List.map_cons, DataW.weightsEach, List.mem_append] at hw
    obtain ⟨a, ha, hao, hab⟩ := h1.two e0 (fun m hm => hw m (.inl hm))
    obtain ⟨b, hb, hbo, hbb⟩ := h2.out (n := n) (enc := enc) (w := w) (base := base) (sp := sp) (held := held) (cs := cs) xs' hl' (fun i g hg => by
      have := hx (i + 1) g (by simpa using hg)
      simpa using this) (by simpa using hxl) (fun m hm => hw m (.inr hm))
    refine ⟨(a, b), ⟨_, _, ?_, ha, hb⟩, ⟨hao, hbo⟩, by simp only [List.map_cons, Rows.uptoBulkAll, Rep.pair]; omega⟩
    rw [hk, h1.one, ← List.drop_drop]
    exact (List.take_append_drop _ _).symm

theorem opens_struct {α : Type} {R : Rep α} {ok : α → Prop} {t : TypeId} {fs : Array Field} (ht : P.underlying t = some (.struct fs)) (hc : P.cellsOf t = R.size) (h : OpensF P R ok 0 fs.toList) : Opens P R ok t := by
  refine ⟨hc, fun hd hw => ?_⟩
  obtain ⟨xs, n, _, rfl, hlen, hxl, hf⟩ := DataW.trod_struct ht hd
  simp only [DataW.weights, ht] at hw
  obtain ⟨a, ha, hao, hab⟩ := h.out (cs := _) xs (by rw [hlen, hc]; omega) (fun i f hi => hf i f (by simpa using hi)) (by simpa using hxl) hw
  exact ⟨a, by simpa using ha, hao, by simp only [Rows.uptoBulk]; omega⟩

theorem opens_via {α β : Type} {R : Rep β} {ok : β → Prop} {t : TypeId} (f : α → β) (g : β → α) (hfg : ∀ b, f (g b) = b) (h : Opens P R ok t) : Opens P (Rep.via f R) (fun a => ok (f a)) t := by
  refine ⟨h.one, fun hd hw => ?_⟩
  obtain ⟨b, hb, hbo, hbb⟩ := h.two hd hw
  exact ⟨g b, by simpa [Rep.via, hfg] using hb, by simpa [hfg] using hbo, by simpa [Rep.via, hfg] using hbb⟩

theorem opens_weak {α : Type} {R : Rep α} {ok ok' : α → Prop} {t : TypeId} (h : Opens P R ok t) (hw : ∀ a, ok a → ok' a) : Opens P R ok' t :=
  ⟨h.one, fun hd hs => let ⟨a, ha, ho, hb⟩ := h.two hd hs; ⟨a, ha, hw _ ho, hb⟩⟩

theorem spot_none {w : World} {a : Addr} {v : Value} (h : w.cell? a = some v) : a.spot = none := by
  unfold World.cell? at h
  split at h
  · split at h
    · cases h
    · rename_i hs; simpa using hs
  · cases h

theorem bulk_app {H : Type} (l r : List (DataW H)) : Rows.uptoBulkAll (l ++ r) = Rows.uptoBulkAll l + Rows.uptoBulkAll r := by
  induction l with
  | nil => simp [Rows.uptoBulkAll]
  | cons x l ih => simp only [List.cons_append, Rows.uptoBulkAll, ih]; omega
theorem mem_weightsAll {H : Type} (e : TypeId) {d : DataW H} {l : List (DataW H)} (h : d ∈ l) {n : Nat} (hn : n ∈ d.weights P e) : n ∈ DataW.weightsAll P e l := by
  induction l with
  | nil => cases h
  | cons x r ih =>
    simp only [DataW.weightsAll, List.mem_append]
    rcases List.mem_cons.1 h with rfl | h
    · exact .inl hn
    · exact .inr (ih h)

theorem opens_slice {α : Type} {R : Rep α} {ok : α → Prop} {t e : TypeId} {bytes : Nat} (ht : P.underlying t = some (.slice e)) (hc : P.cellsOf t = 1) (hpos : 0 < R.size) (hby : P.bytesOf e = bytes) (h : Opens P R ok e) : Opens P (Rep.slice R) (AllOk bytes ok) t := by
  refine ⟨hc, fun {H enc w base sp held fuel cs x} hd hw => ?_⟩
  rcases DataW.trod_slice ht hd with ⟨rfl, rfl⟩ | ⟨a, len, cap, elems, rest, n, _, rfl, rfl, hb, hl, hm, hlen, hel, _⟩
  · exact ⟨[], ⟨none, 0, rfl, Nat.le_refl _, Nat.zero_le _, .inl rfl⟩, ⟨(fun a ha => by cases ha), by simp⟩, by simp [Rep.slice, Rows.uptoBulk]⟩
  · simp only [DataW.weights, ht, List.mem_cons, List.mem_append] at hw
    have hreach : len * bytes ≤ 140737488351232 := by
      have h1 := hw _ (.inl rfl)
      rw [hby] at h1
      simp only [List.length_map, reachBytes] at h1
      have h2 : len * bytes ≤ (elems.length + rest.length) * bytes := Nat.mul_le_mul_right _ (by omega)
      omega
    have hone : ∀ i (hi : i < len), ∃ y cs', R.rep w (· < w.heap.size) y cs' ∧ ok y ∧ R.bulk y ≤ Rows.uptoBulk (elems[i]'(by omega)).1 ∧ ∀ j u, cs'[j]? = some u → w.cell? (a.add (i * R.size + j)) = some u := by
      intro i hi
      have h1 := hel i hi
      rw [h.one] at h1
      have h2 : elems[i]? = some (elems[i]'(by omega)) := List.getElem?_eq_getElem (by omega)
      rw [h2] at h1
      obtain ⟨cs', hcs, ht'⟩ := Option.bind_eq_some_iff.1 h1
      obtain ⟨y, hy, hyo, hyb⟩ := h.two ht' (fun m hm => hw m (.inr (.inl (mem_weightsAll e (List.mem_map.2 ⟨_, List.getElem_mem _, rfl⟩) hm))))
      obtain ⟨_, hcl, hat⟩ := World.cells?_some hcs
      refine ⟨y, cs', hy, hyo, hyb, fun j u hu => ?_⟩
      have hj : j < cs'.length := (List.getElem?_eq_some_iff.1 hu).1
      have := hat j (by omega)
      rw [hu] at this
      rw [← this]
      congr 1
      unfold Addr.add
      by_cases c1 : i * R.size = 0 <;> by_cases c2 : j = 0 <;> simp [c1, c2, Nat.add_assoc]
    rcases Nat.eq_zero_or_pos len with h0 | h0
    · subst h0
      exact ⟨[], ⟨some a, cap, rfl, Nat.zero_le _, hm, .inl rfl⟩, ⟨(fun a ha => by cases ha), by simp⟩, by simp [Rep.slice, Rows.uptoBulk]⟩
    · have hchoose : ∀ m, m ≤ len → ∃ l : List α, l.length = m ∧ (∀ a, a ∈ l → ok a) ∧ (l.map R.bulk).sum ≤ Rows.uptoBulkAll ((elems.take m).map (·.1)) ∧ ∀ i y, l[i]? = some y → ∃ cs', R.rep w (· < w.heap.size) y cs' ∧ ∀ j u, cs'[j]? = some u → w.cell? (a.add (i * R.size + j)) = some u := by
        intro m
        induction m with
        | zero => exact fun _ => ⟨[], rfl, fun _ hm => (List.not_mem_nil hm).elim, by simp, fun i y hy => by simp at hy⟩
        | succ m ih =>
          intro hml
          obtain ⟨l, hl1, hl2, hlb, hl3⟩ := ih (by omega)
          obtain ⟨y, cs', hy, hyo, hyb, hcell⟩ := hone m (by omega)
          refine ⟨l ++ [y], by simp [hl1], fun z hz => ?_, by rw [List.take_succ_eq_append_getElem (by omega), List.map_append, List.map_append, bulk_app, List.sum_append]; simp only [List.map_cons, List.map_nil, List.sum_cons, List.sum_nil, Rows.uptoBulkAll]; omega, fun i z hz => ?_⟩
          · rcases List.mem_append.1 hz with hz | hz
            · exact hl2 z hz
            · rw [List.mem_singleton.1 hz]; exact hyo
          · by_cases hi : i < m
            · rw [List.getElem?_append_left (by omega)] at hz
              exact hl3 i z hz
            · have hi' : i = m := by
                have := (List.getElem?_eq_some_iff.1 hz).1
                simp [hl1] at this
                omega
              subst hi'
              rw [List.getElem?_append_right (by omega), hl1] at hz
              simp at hz
              subst hz
              exact ⟨cs', hy, hcell⟩
      obtain ⟨l, hl1, hl2, hlb, hl3⟩ := hchoose len (Nat.le_refl _)
      rw [List.take_of_length_le (by omega)] at hlb
      have hsp : a.spot = none := by
        have h2 : l[0]? = some (l[0]'(by omega)) := List.getElem?_eq_getElem (by omega)
        obtain ⟨cs', hr, hcell⟩ := hl3 0 _ h2
        have hlr := R.len hr
        have := hcell 0 _ (List.getElem?_eq_getElem (by omega))
        simpa [Addr.add] using spot_none this
      obtain ⟨ab, ao, sp0⟩ := a
      simp only at hsp
      subst hsp
      have hadd : ∀ n, (⟨ab, ao, none⟩ : Addr).add n = ⟨ab, ao + n, none⟩ := fun n => by unfold Addr.add; split <;> simp_all
      have hblk : ab < w.heap.size := by
        have h2 : l[0]? = some (l[0]'(by omega)) := List.getElem?_eq_getElem (by omega)
        obtain ⟨cs', hr, hcell⟩ := hl3 0 _ h2
        have hlr := R.len hr
        have := World.block_lt_of_cell? w _ (hcell 0 _ (List.getElem?_eq_getElem (by omega)))
        rw [hadd] at this
        exact this
      refine ⟨l, ⟨some ⟨ab, ao, none⟩, cap, by rw [hl1], by omega, hm, .inr ⟨ab, ao, rfl, hblk, fun i y hy => ?_⟩⟩, ⟨hl2, by rw [hl1]; exact hreach⟩, by simp only [Rep.slice, Rows.uptoBulk]; omega⟩
      obtain ⟨cs', hr, hcell⟩ := hl3 i y hy
      refine ⟨cs', hr, fun j u hu => ?_⟩
      have := hcell j u hu
      rw [hadd] at this
      rw [Nat.add_assoc]
      exact this

/-- what is read before the call, argument by argument, is within the form's reach -/
theorem reach_of {H : Type} {ts : List TypeId} {ds : List (DataW H)} (h : (DataW.weightsEach P ts ds).all (· ≤ reachBytes) = true) {j : Nat} {t : TypeId} {d : DataW H} (ht : ts[j]? = some t) (hd : ds[j]? = some d) : ∀ n, n ∈ d.weights P t → n ≤ reachBytes :=
  fun n hn => by simpa using List.all_eq_true.1 h n (DataW.weights_mem_each ht hd n hn)
end

/-! ### The last step of a law's row -/
section
variable {H : Type} {enc : TypeId × Value → H} {P : Program}
theorem trodAll_stays (hl : laidOutB P = true) {W W' : World} {sp' : Nat → Bool} : ∀ (ts : List TypeId) (vs : List Value) (ds : List (DataW H)) (ps : List MemPlace),
    (∀ t, t ∈ ts → P.readableRec t = true ∧ t < P.types.size) → DataW.TrodAll enc P W 0 (fun _ => true) true ts vs ds ps → (∀ p ∈ ps, W.sameAt W' p) → (∀ p ∈ ps, sp' p.block = true) →
    DataW.TrodAll enc P W' 0 sp' true ts vs ds ps
  | [], vs, ds, ps, _, h, _, _ => by
    obtain ⟨rfl, rfl, rfl⟩ := trodAll_nil h
    rfl
  | t :: ts, vs, ds, ps, hr, h, hs, hsp => by
    obtain ⟨v, vs', d, ds', p, q, rfl, rfl, rfl, h1, h2⟩ := trodAll_cons h
    exact ⟨p, q, WideElems.Trod_stays hl (hr t (by simp)).1 (hr t (by simp)).2 h1 (fun x hx => hs x (by simp [hx])) (fun x hx => hsp x (by simp [hx])),
      trodAll_stays hl ts vs' ds' q (fun u hu => hr u (by simp [hu])) h2 (fun x hx => hs x (by simp [hx])) (fun x hx => hsp x (by simp [hx])), rfl⟩

theorem law_post {f : Func} {s : ChangeSpec} {W W' : World} {args : Array Value} {ds gs : List (DataW H)} {before : List MemPlace} {T : TypeId}
    (hl : laidOutB P = true) (hrd : ∀ t, t ∈ f.params.toList → P.readableRec t = true ∧ t < P.types.size) (hvars : s.vars = []) (hres : f.resultTypes = #[T]) (hT : P.underlying T = some .bool)
    (hW : DataW.Whole enc P f.params.toList s.vars false W args.toList ds gs before)
    (hfn : s.fn H (ds ++ gs) = { results := [.lit (.bool true)], args := ds }) (hb : Below W.heap.size W W') :
    s.post enc P f false true false false W args (.bool true) W' := by
  have hlt : ∀ p ∈ before, p.block < W.heap.size := fun p hp => hW.lt p hp
  have hW0 := hW
  obtain ⟨p, q, hA, hV, rfl, hz, hn⟩ := hW
  rw [hvars] at hV
  obtain ⟨rfl, rfl⟩ := trodVars_none hV
  rw [List.append_nil] at hfn
  have hold : ∀ x ∈ p ++ [], (fun b => decide (b < W.heap.size)) x.block = true := fun x hx => by simpa using hlt x hx
  have hsame : ∀ x ∈ p, W.sameAt W' x := fun x hx => hb.same (hlt x (by simp [hx]))
  have hresl : ((Value.bool true).resultList f.resultTypes.size) = [.bool true] := by rw [hres]; rfl
  have hok : ∀ (j : Nat) (t : TypeId) (r : Value), f.resultTypes[j]? = some t → ((Value.bool true).resultList f.resultTypes.size)[j]? = some r → Value.okWide P W' .any 0 t r := ok_one hres rfl (okWide_bool_mk hT true)
  have hR : ∀ (b : Nat) (sp : Nat → Bool) (hd : Bool), DataW.TrodAll enc P W' b sp hd f.resultTypes.toList ((Value.bool true).resultList f.resultTypes.size) (s.fn H (ds ++ [])).results [] := fun b sp hd => by
    rw [List.append_nil, hfn, hresl, hres]
    exact trodAll_mk1 (shut_bool hT true)
  have hA' : ∀ sp : Nat → Bool, (∀ x ∈ p ++ [], sp x.block = true) → DataW.TrodAll enc P W' 0 sp true f.params.toList args.toList (s.fn H (ds ++ [])).args p := fun sp hsp => by
    rw [List.append_nil, hfn]
    exact trodAll_stays hl _ _ _ _ hrd hA hsame (fun x hx => hsp x (by simp [hx]))
  have hV' : ∀ sp : Nat → Bool, DataW.TrodVars enc P W' sp s.vars (s.fn H (ds ++ [])).vars [] := fun sp => by
    rw [List.append_nil, hfn, hvars]
    rfl
  refine ⟨ds, [], p ++ [], [], p, [], hW0, hR _ _ _, hA' _ hold, hV' _, World.keptBut_mono (fun x hx => ⟨hx, by simpa using hx⟩) (hb.frame (· ∈ p ++ [])), fun _ => ?_⟩
  refine ⟨hok, _, _, ([] ++ p) ++ [], ⟨[] ++ p, [], trodAll_append (hA' _ (fun _ _ => rfl)) (hR _ _ _), hV' _, rfl, ?_, ?_⟩, ?_⟩
  · intro b off hp
    have hin : MemPlace.cell b off ∈ p ++ [] := by simpa using hp
    rw [hb.frozen (hlt _ hin)]
    exact hz b off hin
  · intro ha
    cases ha
  · intro x hx _
    simpa using hx
end
end Go.Proofs.YtlcjdlnhniemcaaDoor
