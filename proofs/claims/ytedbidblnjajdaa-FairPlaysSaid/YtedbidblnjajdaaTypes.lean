/- The Go structs of package api as Lean structures, their readings in memory, and what opens them. No condition. Written by a program of this prover's. -/
import Derived.Test.YtedbidblnjajdaaLib
namespace Go.Proofs.Ytedbidblnjajdaa
open Go.RowKit

def SlRep {α : Type} (R : Rep α) (w : World) (S : Nat → Prop) (l : List α) (A : Option Addr) (c : Nat) : Prop :=
  l.length ≤ c ∧ c ≤ maxLen ∧ (l = [] ∨ ∃ b o, A = some ⟨b, o, none⟩ ∧ S b ∧ R.at_ w S b o l)
theorem rep_slice_iff {α : Type} {R : Rep α} {w : World} {S : Nat → Prop} {l : List α} {cs : List Value} : (Rep.slice R).rep w S l cs ↔ ∃ A c, cs = [.slice A l.length c] ∧ SlRep R w S l A c := Iff.rfl
theorem rep_slice_val {α : Type} {R : Rep α} {w : World} {S : Nat → Prop} {l : List α} {A : Option Addr} {n c : Nat} : (Rep.slice R).rep w S l [.slice A n c] ↔ n = l.length ∧ SlRep R w S l A c := by
  constructor
  · rintro ⟨A', c', e, h⟩
    simp only [List.cons.injEq, Value.slice.injEq, and_true] at e
    obtain ⟨rfl, rfl, rfl⟩ := e
    exact ⟨rfl, h⟩
  · rintro ⟨rfl, h⟩
    exact ⟨A, c, rfl, h⟩

theorem SlRep.keep {α : Type} {R : Rep α} {w w' : World} {S S' : Nat → Prop} {l : List α} {A : Option Addr} {c : Nat} (h : SlRep R w S l A c) (hk : ∀ k, S k → S' k ∧ w'.heap[k]? = w.heap[k]?) : SlRep R w' S' l A c :=
  (rep_slice_val.1 ((Rep.slice R).mono (rep_slice_val.2 ⟨rfl, h⟩) hk)).2
theorem SlRep.below {α : Type} {R : Rep α} {w0 w w' : World} {l : List α} {A : Option Addr} {c : Nat} (h : SlRep R w (· < w0.heap.size) l A c) (hb : Below w0.heap.size w w') : SlRep R w' (· < w0.heap.size) l A c :=
  h.keep fun k hk => ⟨hk, hb.block k hk⟩
theorem SlRep.next {α : Type} {R : Rep α} {w w' : World} {l : List α} {A : Option Addr} {c : Nat} (h : SlRep R w (· < w.heap.size) l A c) (hb : Below w.heap.size w w') : SlRep R w' (· < w'.heap.size) l A c :=
  h.keep fun k hk => ⟨Nat.lt_of_lt_of_le hk hb.size, hb.block k hk⟩
theorem u8_at {w : World} {S : Nat → Prop} {l : List UInt8} {A : Option Addr} {c k : Nat} (h : SlRep Rep.u8 w S l A c) (hk : k < l.length) :
    ∃ b o, A = some ⟨b, o, none⟩ ∧ S b ∧ w.cell? ⟨b, o + k, none⟩ = some (.int .u8 ((l.getD k 0).toNat : Int)) := by
  rcases h.2.2 with rfl | ⟨b, o, rfl, hb, hr⟩
  · simp at hk
  · obtain ⟨cs, hcs, hc⟩ := hr k (l.getD k 0) (by rw [List.getD_eq_getElem?_getD, List.getElem?_eq_getElem hk]; rfl)
    subst hcs
    have := hc 0 _ rfl
    exact ⟨b, o, rfl, hb, by simpa [Rep.u8] using this⟩
theorem int_at {w : World} {S : Nat → Prop} {l : List Int} {A : Option Addr} {c k : Nat} (h : SlRep Rep.int w S l A c) (hk : k < l.length) :
    ∃ b o, A = some ⟨b, o, none⟩ ∧ S b ∧ w.cell? ⟨b, o + k, none⟩ = some (.int .i64 (l.getD k 0)) := by
  rcases h.2.2 with rfl | ⟨b, o, rfl, hb, hr⟩
  · simp at hk
  · obtain ⟨cs, hcs, hc⟩ := hr k (l.getD k 0) (by rw [List.getD_eq_getElem?_getD, List.getElem?_eq_getElem hk]; rfl)
    subst hcs
    have := hc 0 _ rfl
    exact ⟨b, o, rfl, hb, by simpa [Rep.int] using this⟩

structure Rng where
  lo : Int
  hi : Int
  deriving DecidableEq

def Rng.tup (x : Rng) : Int × Int × Unit := (x.lo, x.hi, ())

def Rng.rep : Rep Rng := Rep.via Rng.tup (Rep.pair Rep.int (Rep.pair Rep.int Rep.unit))

def Rng.ok (x : Rng) : Prop := IntOk x.lo ∧ IntOk x.hi

def Rng.cells (x : Rng) : List Value := [.int .i64 x.lo, .int .i64 x.hi]
theorem Rng.rep_iff {w : World} {S : Nat → Prop} {x : Rng} {cs : List Value} : Rng.rep.rep w S x cs ↔ cs = Rng.cells x := by
  constructor
  · intro h
    obtain ⟨_, _, rfl, rfl, ⟨_, _, rfl, rfl, rfl⟩⟩ := h
    rfl
  · rintro rfl
    exact ⟨_, _, rfl, rfl, ⟨_, _, rfl, rfl, rfl⟩⟩

theorem Rng.enc (w : World) (S : Nat → Prop) (x : Rng) : Rng.rep.rep w S x (Rng.cells x) := Rng.rep_iff.2 rfl
theorem Rng.one (l : List Rng) : ∀ u ∈ l.flatMap Rng.cells, u.oneCell' = true := by
  intro u hu
  obtain ⟨x, _, hx⟩ := List.mem_flatMap.1 hu
  simp only [Rng.cells, List.mem_cons, List.not_mem_nil, or_false] at hx
  rcases hx with rfl | rfl <;> rfl

theorem Rng.cells_at (z : Rng) {w : World} {S : Nat → Prop} {l : List Rng} {A : Option Addr} {c k : Nat} (h : SlRep Rng.rep w S l A c) (hk : k < l.length) :
    ∃ b o, A = some ⟨b, o, none⟩ ∧ S b ∧ w.cell? ⟨b, o + k * 2, none⟩ = some (.int .i64 (l.getD k z).lo) ∧ w.cell? ⟨b, o + k * 2 + 1, none⟩ = some (.int .i64 (l.getD k z).hi) := by
  rcases h.2.2 with rfl | ⟨b, o, rfl, hb, hr⟩
  · simp at hk
  · obtain ⟨cs, hcs, hc⟩ := hr k (l.getD k z) (by rw [List.getD_eq_getElem?_getD, List.getElem?_eq_getElem hk]; rfl)
    rw [Rng.rep_iff] at hcs
    subst hcs
    exact ⟨b, o, rfl, hb, hc 0 _ rfl, hc 1 _ rfl⟩

set_option maxRecDepth 100000 in
theorem opens_Rng : Opens Try.prog Rng.rep Rng.ok 64 :=
  opens_weak (opens_via Rng.tup (fun b => ⟨b.1, b.2.1⟩) (fun _ => rfl) (opens_struct Try.underlying64 (by kernel_rfl) (opensF_cons (opens_int Try.underlying3 (by kernel_rfl)) rfl (opensF_cons (opens_int Try.underlying3 (by kernel_rfl)) rfl (opensF_nil _))))) (fun a ho => by
    obtain ⟨h0, ⟨h1, _⟩⟩ := ho
    exact ⟨h0, h1⟩)

structure Feed where
  flow : Int
  size : Int
  deriving DecidableEq

def Feed.tup (x : Feed) : Int × Int × Unit := (x.flow, x.size, ())

def Feed.rep : Rep Feed := Rep.via Feed.tup (Rep.pair Rep.int (Rep.pair Rep.int Rep.unit))

def Feed.ok (x : Feed) : Prop := IntOk x.flow ∧ IntOk x.size

def Feed.cells (x : Feed) : List Value := [.int .i64 x.flow, .int .i64 x.size]
theorem Feed.rep_iff {w : World} {S : Nat → Prop} {x : Feed} {cs : List Value} : Feed.rep.rep w S x cs ↔ cs = Feed.cells x := by
  constructor
  · intro h
    obtain ⟨_, _, rfl, rfl, ⟨_, _, rfl, rfl, rfl⟩⟩ := h
    rfl
  · rintro rfl
    exact ⟨_, _, rfl, rfl, ⟨_, _, rfl, rfl, rfl⟩⟩

theorem Feed.enc (w : World) (S : Nat → Prop) (x : Feed) : Feed.rep.rep w S x (Feed.cells x) := Feed.rep_iff.2 rfl
theorem Feed.one (l : List Feed) : ∀ u ∈ l.flatMap Feed.cells, u.oneCell' = true := by
  intro u hu
  obtain ⟨x, _, hx⟩ := List.mem_flatMap.1 hu
  simp only [Feed.cells, List.mem_cons, List.not_mem_nil, or_false] at hx
  rcases hx with rfl | rfl <;> rfl

theorem Feed.cells_at (z : Feed) {w : World} {S : Nat → Prop} {l : List Feed} {A : Option Addr} {c k : Nat} (h : SlRep Feed.rep w S l A c) (hk : k < l.length) :
    ∃ b o, A = some ⟨b, o, none⟩ ∧ S b ∧ w.cell? ⟨b, o + k * 2, none⟩ = some (.int .i64 (l.getD k z).flow) ∧ w.cell? ⟨b, o + k * 2 + 1, none⟩ = some (.int .i64 (l.getD k z).size) := by
  rcases h.2.2 with rfl | ⟨b, o, rfl, hb, hr⟩
  · simp at hk
  · obtain ⟨cs, hcs, hc⟩ := hr k (l.getD k z) (by rw [List.getD_eq_getElem?_getD, List.getElem?_eq_getElem hk]; rfl)
    rw [Feed.rep_iff] at hcs
    subst hcs
    exact ⟨b, o, rfl, hb, hc 0 _ rfl, hc 1 _ rfl⟩

set_option maxRecDepth 100000 in
theorem opens_Feed : Opens Try.prog Feed.rep Feed.ok 124 :=
  opens_weak (opens_via Feed.tup (fun b => ⟨b.1, b.2.1⟩) (fun _ => rfl) (opens_struct Try.underlying124 (by kernel_rfl) (opensF_cons (opens_int Try.underlying3 (by kernel_rfl)) rfl (opensF_cons (opens_int Try.underlying3 (by kernel_rfl)) rfl (opensF_nil _))))) (fun a ho => by
    obtain ⟨h0, ⟨h1, _⟩⟩ := ho
    exact ⟨h0, h1⟩)

structure Served where
  code : Int
  flow : Int
  size : Int
  deriving DecidableEq

def Served.tup (x : Served) : Int × Int × Int × Unit := (x.code, x.flow, x.size, ())

def Served.rep : Rep Served := Rep.via Served.tup (Rep.pair Rep.int (Rep.pair Rep.int (Rep.pair Rep.int Rep.unit)))

def Served.ok (x : Served) : Prop := IntOk x.code ∧ IntOk x.flow ∧ IntOk x.size

def Served.cells (x : Served) : List Value := [.int .i64 x.code, .int .i64 x.flow, .int .i64 x.size]
theorem Served.rep_iff {w : World} {S : Nat → Prop} {x : Served} {cs : List Value} : Served.rep.rep w S x cs ↔ cs = Served.cells x := by
  constructor
  · intro h
    obtain ⟨_, _, rfl, rfl, ⟨_, _, rfl, rfl, ⟨_, _, rfl, rfl, rfl⟩⟩⟩ := h
    rfl
  · rintro rfl
    exact ⟨_, _, rfl, rfl, ⟨_, _, rfl, rfl, ⟨_, _, rfl, rfl, rfl⟩⟩⟩

theorem Served.enc (w : World) (S : Nat → Prop) (x : Served) : Served.rep.rep w S x (Served.cells x) := Served.rep_iff.2 rfl
theorem Served.one (l : List Served) : ∀ u ∈ l.flatMap Served.cells, u.oneCell' = true := by
  intro u hu
  obtain ⟨x, _, hx⟩ := List.mem_flatMap.1 hu
  simp only [Served.cells, List.mem_cons, List.not_mem_nil, or_false] at hx
  rcases hx with rfl | rfl | rfl <;> rfl

theorem Served.cells_at (z : Served) {w : World} {S : Nat → Prop} {l : List Served} {A : Option Addr} {c k : Nat} (h : SlRep Served.rep w S l A c) (hk : k < l.length) :
    ∃ b o, A = some ⟨b, o, none⟩ ∧ S b ∧ w.cell? ⟨b, o + k * 3, none⟩ = some (.int .i64 (l.getD k z).code) ∧ w.cell? ⟨b, o + k * 3 + 1, none⟩ = some (.int .i64 (l.getD k z).flow) ∧ w.cell? ⟨b, o + k * 3 + 2, none⟩ = some (.int .i64 (l.getD k z).size) := by
  rcases h.2.2 with rfl | ⟨b, o, rfl, hb, hr⟩
  · simp at hk
  · obtain ⟨cs, hcs, hc⟩ := hr k (l.getD k z) (by rw [List.getD_eq_getElem?_getD, List.getElem?_eq_getElem hk]; rfl)
    rw [Served.rep_iff] at hcs
    subst hcs
    exact ⟨b, o, rfl, hb, hc 0 _ rfl, hc 1 _ rfl, hc 2 _ rfl⟩

set_option maxRecDepth 100000 in
theorem opens_Served : Opens Try.prog Served.rep Served.ok 74 :=
  opens_weak (opens_via Served.tup (fun b => ⟨b.1, b.2.1, b.2.2.1⟩) (fun _ => rfl) (opens_struct Try.underlying74 (by kernel_rfl) (opensF_cons (opens_int Try.underlying3 (by kernel_rfl)) rfl (opensF_cons (opens_int Try.underlying3 (by kernel_rfl)) rfl (opensF_cons (opens_int Try.underlying3 (by kernel_rfl)) rfl (opensF_nil _)))))) (fun a ho => by
    obtain ⟨h0, ⟨h1, ⟨h2, _⟩⟩⟩ := ho
    exact ⟨h0, h1, h2⟩)

structure Want where
  at_ : Int
  count : Int
  deriving DecidableEq

def Want.tup (x : Want) : Int × Int × Unit := (x.at_, x.count, ())

def Want.rep : Rep Want := Rep.via Want.tup (Rep.pair Rep.int (Rep.pair Rep.int Rep.unit))

def Want.ok (x : Want) : Prop := IntOk x.at_ ∧ IntOk x.count

def Want.cells (x : Want) : List Value := [.int .i64 x.at_, .int .i64 x.count]
theorem Want.rep_iff {w : World} {S : Nat → Prop} {x : Want} {cs : List Value} : Want.rep.rep w S x cs ↔ cs = Want.cells x := by
  constructor
  · intro h
    obtain ⟨_, _, rfl, rfl, ⟨_, _, rfl, rfl, rfl⟩⟩ := h
    rfl
  · rintro rfl
    exact ⟨_, _, rfl, rfl, ⟨_, _, rfl, rfl, rfl⟩⟩

theorem Want.enc (w : World) (S : Nat → Prop) (x : Want) : Want.rep.rep w S x (Want.cells x) := Want.rep_iff.2 rfl
theorem Want.one (l : List Want) : ∀ u ∈ l.flatMap Want.cells, u.oneCell' = true := by
  intro u hu
  obtain ⟨x, _, hx⟩ := List.mem_flatMap.1 hu
  simp only [Want.cells, List.mem_cons, List.not_mem_nil, or_false] at hx
  rcases hx with rfl | rfl <;> rfl

theorem Want.cells_at (z : Want) {w : World} {S : Nat → Prop} {l : List Want} {A : Option Addr} {c k : Nat} (h : SlRep Want.rep w S l A c) (hk : k < l.length) :
    ∃ b o, A = some ⟨b, o, none⟩ ∧ S b ∧ w.cell? ⟨b, o + k * 2, none⟩ = some (.int .i64 (l.getD k z).at_) ∧ w.cell? ⟨b, o + k * 2 + 1, none⟩ = some (.int .i64 (l.getD k z).count) := by
  rcases h.2.2 with rfl | ⟨b, o, rfl, hb, hr⟩
  · simp at hk
  · obtain ⟨cs, hcs, hc⟩ := hr k (l.getD k z) (by rw [List.getD_eq_getElem?_getD, List.getElem?_eq_getElem hk]; rfl)
    rw [Want.rep_iff] at hcs
    subst hcs
    exact ⟨b, o, rfl, hb, hc 0 _ rfl, hc 1 _ rfl⟩

set_option maxRecDepth 100000 in
theorem opens_Want : Opens Try.prog Want.rep Want.ok 84 :=
  opens_weak (opens_via Want.tup (fun b => ⟨b.1, b.2.1⟩) (fun _ => rfl) (opens_struct Try.underlying84 (by kernel_rfl) (opensF_cons (opens_int Try.underlying3 (by kernel_rfl)) rfl (opensF_cons (opens_int Try.underlying3 (by kernel_rfl)) rfl (opensF_nil _))))) (fun a ho => by
    obtain ⟨h0, ⟨h1, _⟩⟩ := ho
    exact ⟨h0, h1⟩)

structure Token where
  byte : UInt8
  dist : Int
  len : Int
  deriving DecidableEq

def Token.tup (x : Token) : UInt8 × Int × Int × Unit := (x.byte, x.dist, x.len, ())

def Token.rep : Rep Token := Rep.via Token.tup (Rep.pair Rep.u8 (Rep.pair Rep.int (Rep.pair Rep.int Rep.unit)))

def Token.ok (x : Token) : Prop := IntOk x.dist ∧ IntOk x.len

def Token.cells (x : Token) : List Value := [.int .u8 x.byte.toNat, .int .i64 x.dist, .int .i64 x.len]
theorem Token.rep_iff {w : World} {S : Nat → Prop} {x : Token} {cs : List Value} : Token.rep.rep w S x cs ↔ cs = Token.cells x := by
  constructor
  · intro h
    obtain ⟨_, _, rfl, rfl, ⟨_, _, rfl, rfl, ⟨_, _, rfl, rfl, rfl⟩⟩⟩ := h
    rfl
  · rintro rfl
    exact ⟨_, _, rfl, rfl, ⟨_, _, rfl, rfl, ⟨_, _, rfl, rfl, rfl⟩⟩⟩

theorem Token.enc (w : World) (S : Nat → Prop) (x : Token) : Token.rep.rep w S x (Token.cells x) := Token.rep_iff.2 rfl
theorem Token.one (l : List Token) : ∀ u ∈ l.flatMap Token.cells, u.oneCell' = true := by
  intro u hu
  obtain ⟨x, _, hx⟩ := List.mem_flatMap.1 hu
  simp only [Token.cells, List.mem_cons, List.not_mem_nil, or_false] at hx
  rcases hx with rfl | rfl | rfl <;> rfl

theorem Token.cells_at (z : Token) {w : World} {S : Nat → Prop} {l : List Token} {A : Option Addr} {c k : Nat} (h : SlRep Token.rep w S l A c) (hk : k < l.length) :
    ∃ b o, A = some ⟨b, o, none⟩ ∧ S b ∧ w.cell? ⟨b, o + k * 3, none⟩ = some (.int .u8 (l.getD k z).byte.toNat) ∧ w.cell? ⟨b, o + k * 3 + 1, none⟩ = some (.int .i64 (l.getD k z).dist) ∧ w.cell? ⟨b, o + k * 3 + 2, none⟩ = some (.int .i64 (l.getD k z).len) := by
  rcases h.2.2 with rfl | ⟨b, o, rfl, hb, hr⟩
  · simp at hk
  · obtain ⟨cs, hcs, hc⟩ := hr k (l.getD k z) (by rw [List.getD_eq_getElem?_getD, List.getElem?_eq_getElem hk]; rfl)
    rw [Token.rep_iff] at hcs
    subst hcs
    exact ⟨b, o, rfl, hb, hc 0 _ rfl, hc 1 _ rfl, hc 2 _ rfl⟩

set_option maxRecDepth 100000 in
theorem opens_Token : Opens Try.prog Token.rep Token.ok 43 :=
  opens_weak (opens_via Token.tup (fun b => ⟨b.1, b.2.1, b.2.2.1⟩) (fun _ => rfl) (opens_struct Try.underlying43 (by kernel_rfl) (opensF_cons (opens_u8 Try.underlying5 (by kernel_rfl)) rfl (opensF_cons (opens_int Try.underlying3 (by kernel_rfl)) rfl (opensF_cons (opens_int Try.underlying3 (by kernel_rfl)) rfl (opensF_nil _)))))) (fun a ho => by
    obtain ⟨h0, ⟨h1, ⟨h2, _⟩⟩⟩ := ho
    exact ⟨h1, h2⟩)

structure Segment where
  seq : Int
  ack : Int
  window : Int
  syn : Bool
  fin : Bool
  rst : Bool
  acks : Bool
  sacks : List Rng
  data : List UInt8
  deriving DecidableEq

def Segment.tup (x : Segment) : Int × Int × Int × Bool × Bool × Bool × Bool × (List Rng) × (List UInt8) × Unit := (x.seq, x.ack, x.window, x.syn, x.fin, x.rst, x.acks, x.sacks, x.data, ())

def Segment.rep : Rep Segment := Rep.via Segment.tup (Rep.pair Rep.int (Rep.pair Rep.int (Rep.pair Rep.int (Rep.pair Rep.bool (Rep.pair Rep.bool (Rep.pair Rep.bool (Rep.pair Rep.bool (Rep.pair (Rep.slice Rng.rep) (Rep.pair (Rep.slice Rep.u8) Rep.unit)))))))))

def Segment.ok (x : Segment) : Prop := IntOk x.seq ∧ IntOk x.ack ∧ IntOk x.window ∧ (AllOk 16 Rng.ok) x.sacks ∧ (AllOk 1 AnyOk) x.data

theorem Segment.rep_iff {w : World} {S : Nat → Prop} {x : Segment} {cs : List Value} : Segment.rep.rep w S x cs ↔ ∃ (A0 : Option Addr) (c0 : Nat) (A1 : Option Addr) (c1 : Nat), cs = [.int .i64 x.seq, .int .i64 x.ack, .int .i64 x.window, .bool x.syn, .bool x.fin, .bool x.rst, .bool x.acks, .slice A0 x.sacks.length c0, .slice A1 x.data.length c1] ∧ SlRep Rng.rep w S x.sacks A0 c0 ∧ SlRep Rep.u8 w S x.data A1 c1 := by
  constructor
  · intro h
    obtain ⟨_, _, rfl, rfl, ⟨_, _, rfl, rfl, ⟨_, _, rfl, rfl, ⟨_, _, rfl, rfl, ⟨_, _, rfl, rfl, ⟨_, _, rfl, rfl, ⟨_, _, rfl, rfl, ⟨_, _, rfl, ⟨A0, c0, rfl, h0⟩, ⟨_, _, rfl, ⟨A1, c1, rfl, h1⟩, rfl⟩⟩⟩⟩⟩⟩⟩⟩⟩ := h
    exact ⟨A0, c0, A1, c1, rfl, h0, h1⟩
  · rintro ⟨A0, c0, A1, c1, rfl, h0, h1⟩
    exact ⟨_, _, rfl, rfl, ⟨_, _, rfl, rfl, ⟨_, _, rfl, rfl, ⟨_, _, rfl, rfl, ⟨_, _, rfl, rfl, ⟨_, _, rfl, rfl, ⟨_, _, rfl, rfl, ⟨_, _, rfl, ⟨A0, c0, rfl, h0⟩, ⟨_, _, rfl, ⟨A1, c1, rfl, h1⟩, rfl⟩⟩⟩⟩⟩⟩⟩⟩⟩

theorem Segment.cells_at (z : Segment) {w : World} {S : Nat → Prop} {l : List Segment} {A : Option Addr} {c k : Nat} (h : SlRep Segment.rep w S l A c) (hk : k < l.length) :
    ∃ b o, A = some ⟨b, o, none⟩ ∧ S b ∧ ∃ (A0 : Option Addr) (c0 : Nat) (A1 : Option Addr) (c1 : Nat), w.cell? ⟨b, o + k * 9, none⟩ = some (.int .i64 (l.getD k z).seq) ∧ w.cell? ⟨b, o + k * 9 + 1, none⟩ = some (.int .i64 (l.getD k z).ack) ∧ w.cell? ⟨b, o + k * 9 + 2, none⟩ = some (.int .i64 (l.getD k z).window) ∧ w.cell? ⟨b, o + k * 9 + 3, none⟩ = some (.bool (l.getD k z).syn) ∧ w.cell? ⟨b, o + k * 9 + 4, none⟩ = some (.bool (l.getD k z).fin) ∧ w.cell? ⟨b, o + k * 9 + 5, none⟩ = some (.bool (l.getD k z).rst) ∧ w.cell? ⟨b, o + k * 9 + 6, none⟩ = some (.bool (l.getD k z).acks) ∧ w.cell? ⟨b, o + k * 9 + 7, none⟩ = some (.slice A0 (l.getD k z).sacks.length c0) ∧ w.cell? ⟨b, o + k * 9 + 8, none⟩ = some (.slice A1 (l.getD k z).data.length c1) ∧ SlRep Rng.rep w S (l.getD k z).sacks A0 c0 ∧ SlRep Rep.u8 w S (l.getD k z).data A1 c1 := by
  rcases h.2.2 with rfl | ⟨b, o, rfl, hb, hr⟩
  · simp at hk
  · obtain ⟨cs, hcs, hc⟩ := hr k (l.getD k z) (by rw [List.getD_eq_getElem?_getD, List.getElem?_eq_getElem hk]; rfl)
    obtain ⟨A0, c0, A1, c1, rfl, h0, h1⟩ := Segment.rep_iff.1 hcs
    exact ⟨b, o, rfl, hb, A0, c0, A1, c1, hc 0 _ rfl, hc 1 _ rfl, hc 2 _ rfl, hc 3 _ rfl, hc 4 _ rfl, hc 5 _ rfl, hc 6 _ rfl, hc 7 _ rfl, hc 8 _ rfl, h0, h1⟩

set_option maxRecDepth 100000 in
theorem opens_Segment : Opens Try.prog Segment.rep Segment.ok 50 :=
  opens_weak (opens_via Segment.tup (fun b => ⟨b.1, b.2.1, b.2.2.1, b.2.2.2.1, b.2.2.2.2.1, b.2.2.2.2.2.1, b.2.2.2.2.2.2.1, b.2.2.2.2.2.2.2.1, b.2.2.2.2.2.2.2.2.1⟩) (fun _ => rfl) (opens_struct Try.underlying50 (by kernel_rfl) (opensF_cons (opens_int Try.underlying3 (by kernel_rfl)) rfl (opensF_cons (opens_int Try.underlying3 (by kernel_rfl)) rfl (opensF_cons (opens_int Try.underlying3 (by kernel_rfl)) rfl (opensF_cons (opens_bool Try.underlying4 (by kernel_rfl)) rfl (opensF_cons (opens_bool Try.underlying4 (by kernel_rfl)) rfl (opensF_cons (opens_bool Try.underlying4 (by kernel_rfl)) rfl (opensF_cons (opens_bool Try.underlying4 (by kernel_rfl)) rfl (opensF_cons (opens_slice Try.underlying32 (by kernel_rfl) (by decide) (by kernel_rfl) opens_Rng) rfl (opensF_cons (opens_slice Try.underlying23 (by kernel_rfl) (by decide) (by kernel_rfl) (opens_u8 Try.underlying5 (by kernel_rfl))) rfl (opensF_nil _)))))))))))) (fun a ho => by
    obtain ⟨h0, ⟨h1, ⟨h2, ⟨h3, ⟨h4, ⟨h5, ⟨h6, ⟨h7, ⟨h8, _⟩⟩⟩⟩⟩⟩⟩⟩⟩ := ho
    exact ⟨h0, h1, h2, h7, h8⟩)

structure Got where
  at_ : Int
  count : Int
  data : List UInt8
  deriving DecidableEq

def Got.tup (x : Got) : Int × Int × (List UInt8) × Unit := (x.at_, x.count, x.data, ())

def Got.rep : Rep Got := Rep.via Got.tup (Rep.pair Rep.int (Rep.pair Rep.int (Rep.pair (Rep.slice Rep.u8) Rep.unit)))

def Got.ok (x : Got) : Prop := IntOk x.at_ ∧ IntOk x.count ∧ (AllOk 1 AnyOk) x.data

theorem Got.rep_iff {w : World} {S : Nat → Prop} {x : Got} {cs : List Value} : Got.rep.rep w S x cs ↔ ∃ (A0 : Option Addr) (c0 : Nat), cs = [.int .i64 x.at_, .int .i64 x.count, .slice A0 x.data.length c0] ∧ SlRep Rep.u8 w S x.data A0 c0 := by
  constructor
  · intro h
    obtain ⟨_, _, rfl, rfl, ⟨_, _, rfl, rfl, ⟨_, _, rfl, ⟨A0, c0, rfl, h0⟩, rfl⟩⟩⟩ := h
    exact ⟨A0, c0, rfl, h0⟩
  · rintro ⟨A0, c0, rfl, h0⟩
    exact ⟨_, _, rfl, rfl, ⟨_, _, rfl, rfl, ⟨_, _, rfl, ⟨A0, c0, rfl, h0⟩, rfl⟩⟩⟩

theorem Got.cells_at (z : Got) {w : World} {S : Nat → Prop} {l : List Got} {A : Option Addr} {c k : Nat} (h : SlRep Got.rep w S l A c) (hk : k < l.length) :
    ∃ b o, A = some ⟨b, o, none⟩ ∧ S b ∧ ∃ (A0 : Option Addr) (c0 : Nat), w.cell? ⟨b, o + k * 3, none⟩ = some (.int .i64 (l.getD k z).at_) ∧ w.cell? ⟨b, o + k * 3 + 1, none⟩ = some (.int .i64 (l.getD k z).count) ∧ w.cell? ⟨b, o + k * 3 + 2, none⟩ = some (.slice A0 (l.getD k z).data.length c0) ∧ SlRep Rep.u8 w S (l.getD k z).data A0 c0 := by
  rcases h.2.2 with rfl | ⟨b, o, rfl, hb, hr⟩
  · simp at hk
  · obtain ⟨cs, hcs, hc⟩ := hr k (l.getD k z) (by rw [List.getD_eq_getElem?_getD, List.getElem?_eq_getElem hk]; rfl)
    obtain ⟨A0, c0, rfl, h0⟩ := Got.rep_iff.1 hcs
    exact ⟨b, o, rfl, hb, A0, c0, hc 0 _ rfl, hc 1 _ rfl, hc 2 _ rfl, h0⟩

set_option maxRecDepth 100000 in
theorem opens_Got : Opens Try.prog Got.rep Got.ok 135 :=
  opens_weak (opens_via Got.tup (fun b => ⟨b.1, b.2.1, b.2.2.1⟩) (fun _ => rfl) (opens_struct Try.underlying135 (by kernel_rfl) (opensF_cons (opens_int Try.underlying3 (by kernel_rfl)) rfl (opensF_cons (opens_int Try.underlying3 (by kernel_rfl)) rfl (opensF_cons (opens_slice Try.underlying23 (by kernel_rfl) (by decide) (by kernel_rfl) (opens_u8 Try.underlying5 (by kernel_rfl))) rfl (opensF_nil _)))))) (fun a ho => by
    obtain ⟨h0, ⟨h1, ⟨h2, _⟩⟩⟩ := ho
    exact ⟨h0, h1, h2⟩)

structure Next where
  code : Int
  wants : List Want
  done : Bool
  data : List UInt8
  deriving DecidableEq

def Next.tup (x : Next) : Int × (List Want) × Bool × (List UInt8) × Unit := (x.code, x.wants, x.done, x.data, ())

def Next.rep : Rep Next := Rep.via Next.tup (Rep.pair Rep.int (Rep.pair (Rep.slice Want.rep) (Rep.pair Rep.bool (Rep.pair (Rep.slice Rep.u8) Rep.unit))))

def Next.ok (x : Next) : Prop := IntOk x.code ∧ (AllOk 16 Want.ok) x.wants ∧ (AllOk 1 AnyOk) x.data

theorem Next.rep_iff {w : World} {S : Nat → Prop} {x : Next} {cs : List Value} : Next.rep.rep w S x cs ↔ ∃ (A0 : Option Addr) (c0 : Nat) (A1 : Option Addr) (c1 : Nat), cs = [.int .i64 x.code, .slice A0 x.wants.length c0, .bool x.done, .slice A1 x.data.length c1] ∧ SlRep Want.rep w S x.wants A0 c0 ∧ SlRep Rep.u8 w S x.data A1 c1 := by
  constructor
  · intro h
    obtain ⟨_, _, rfl, rfl, ⟨_, _, rfl, ⟨A0, c0, rfl, h0⟩, ⟨_, _, rfl, rfl, ⟨_, _, rfl, ⟨A1, c1, rfl, h1⟩, rfl⟩⟩⟩⟩ := h
    exact ⟨A0, c0, A1, c1, rfl, h0, h1⟩
  · rintro ⟨A0, c0, A1, c1, rfl, h0, h1⟩
    exact ⟨_, _, rfl, rfl, ⟨_, _, rfl, ⟨A0, c0, rfl, h0⟩, ⟨_, _, rfl, rfl, ⟨_, _, rfl, ⟨A1, c1, rfl, h1⟩, rfl⟩⟩⟩⟩

theorem Next.cells_at (z : Next) {w : World} {S : Nat → Prop} {l : List Next} {A : Option Addr} {c k : Nat} (h : SlRep Next.rep w S l A c) (hk : k < l.length) :
    ∃ b o, A = some ⟨b, o, none⟩ ∧ S b ∧ ∃ (A0 : Option Addr) (c0 : Nat) (A1 : Option Addr) (c1 : Nat), w.cell? ⟨b, o + k * 4, none⟩ = some (.int .i64 (l.getD k z).code) ∧ w.cell? ⟨b, o + k * 4 + 1, none⟩ = some (.slice A0 (l.getD k z).wants.length c0) ∧ w.cell? ⟨b, o + k * 4 + 2, none⟩ = some (.bool (l.getD k z).done) ∧ w.cell? ⟨b, o + k * 4 + 3, none⟩ = some (.slice A1 (l.getD k z).data.length c1) ∧ SlRep Want.rep w S (l.getD k z).wants A0 c0 ∧ SlRep Rep.u8 w S (l.getD k z).data A1 c1 := by
  rcases h.2.2 with rfl | ⟨b, o, rfl, hb, hr⟩
  · simp at hk
  · obtain ⟨cs, hcs, hc⟩ := hr k (l.getD k z) (by rw [List.getD_eq_getElem?_getD, List.getElem?_eq_getElem hk]; rfl)
    obtain ⟨A0, c0, A1, c1, rfl, h0, h1⟩ := Next.rep_iff.1 hcs
    exact ⟨b, o, rfl, hb, A0, c0, A1, c1, hc 0 _ rfl, hc 1 _ rfl, hc 2 _ rfl, hc 3 _ rfl, h0, h1⟩

set_option maxRecDepth 100000 in
theorem opens_Next : Opens Try.prog Next.rep Next.ok 82 :=
  opens_weak (opens_via Next.tup (fun b => ⟨b.1, b.2.1, b.2.2.1, b.2.2.2.1⟩) (fun _ => rfl) (opens_struct Try.underlying82 (by kernel_rfl) (opensF_cons (opens_int Try.underlying3 (by kernel_rfl)) rfl (opensF_cons (opens_slice Try.underlying80 (by kernel_rfl) (by decide) (by kernel_rfl) opens_Want) rfl (opensF_cons (opens_bool Try.underlying4 (by kernel_rfl)) rfl (opensF_cons (opens_slice Try.underlying23 (by kernel_rfl) (by decide) (by kernel_rfl) (opens_u8 Try.underlying5 (by kernel_rfl))) rfl (opensF_nil _))))))) (fun a ho => by
    obtain ⟨h0, ⟨h1, ⟨h2, ⟨h3, _⟩⟩⟩⟩ := ho
    exact ⟨h0, h1, h3⟩)

structure Piece where
  copy : Bool
  from_ : Int
  len : Int
  data : List UInt8
  deriving DecidableEq

def Piece.tup (x : Piece) : Bool × Int × Int × (List UInt8) × Unit := (x.copy, x.from_, x.len, x.data, ())

def Piece.rep : Rep Piece := Rep.via Piece.tup (Rep.pair Rep.bool (Rep.pair Rep.int (Rep.pair Rep.int (Rep.pair (Rep.slice Rep.u8) Rep.unit))))

def Piece.ok (x : Piece) : Prop := IntOk x.from_ ∧ IntOk x.len ∧ (AllOk 1 AnyOk) x.data

theorem Piece.rep_iff {w : World} {S : Nat → Prop} {x : Piece} {cs : List Value} : Piece.rep.rep w S x cs ↔ ∃ (A0 : Option Addr) (c0 : Nat), cs = [.bool x.copy, .int .i64 x.from_, .int .i64 x.len, .slice A0 x.data.length c0] ∧ SlRep Rep.u8 w S x.data A0 c0 := by
  constructor
  · intro h
    obtain ⟨_, _, rfl, rfl, ⟨_, _, rfl, rfl, ⟨_, _, rfl, rfl, ⟨_, _, rfl, ⟨A0, c0, rfl, h0⟩, rfl⟩⟩⟩⟩ := h
    exact ⟨A0, c0, rfl, h0⟩
  · rintro ⟨A0, c0, rfl, h0⟩
    exact ⟨_, _, rfl, rfl, ⟨_, _, rfl, rfl, ⟨_, _, rfl, rfl, ⟨_, _, rfl, ⟨A0, c0, rfl, h0⟩, rfl⟩⟩⟩⟩

theorem Piece.cells_at (z : Piece) {w : World} {S : Nat → Prop} {l : List Piece} {A : Option Addr} {c k : Nat} (h : SlRep Piece.rep w S l A c) (hk : k < l.length) :
    ∃ b o, A = some ⟨b, o, none⟩ ∧ S b ∧ ∃ (A0 : Option Addr) (c0 : Nat), w.cell? ⟨b, o + k * 4, none⟩ = some (.bool (l.getD k z).copy) ∧ w.cell? ⟨b, o + k * 4 + 1, none⟩ = some (.int .i64 (l.getD k z).from_) ∧ w.cell? ⟨b, o + k * 4 + 2, none⟩ = some (.int .i64 (l.getD k z).len) ∧ w.cell? ⟨b, o + k * 4 + 3, none⟩ = some (.slice A0 (l.getD k z).data.length c0) ∧ SlRep Rep.u8 w S (l.getD k z).data A0 c0 := by
  rcases h.2.2 with rfl | ⟨b, o, rfl, hb, hr⟩
  · simp at hk
  · obtain ⟨cs, hcs, hc⟩ := hr k (l.getD k z) (by rw [List.getD_eq_getElem?_getD, List.getElem?_eq_getElem hk]; rfl)
    obtain ⟨A0, c0, rfl, h0⟩ := Piece.rep_iff.1 hcs
    exact ⟨b, o, rfl, hb, A0, c0, hc 0 _ rfl, hc 1 _ rfl, hc 2 _ rfl, hc 3 _ rfl, h0⟩

set_option maxRecDepth 100000 in
theorem opens_Piece : Opens Try.prog Piece.rep Piece.ok 87 :=
  opens_weak (opens_via Piece.tup (fun b => ⟨b.1, b.2.1, b.2.2.1, b.2.2.2.1⟩) (fun _ => rfl) (opens_struct Try.underlying87 (by kernel_rfl) (opensF_cons (opens_bool Try.underlying4 (by kernel_rfl)) rfl (opensF_cons (opens_int Try.underlying3 (by kernel_rfl)) rfl (opensF_cons (opens_int Try.underlying3 (by kernel_rfl)) rfl (opensF_cons (opens_slice Try.underlying23 (by kernel_rfl) (by decide) (by kernel_rfl) (opens_u8 Try.underlying5 (by kernel_rfl))) rfl (opensF_nil _))))))) (fun a ho => by
    obtain ⟨h0, ⟨h1, ⟨h2, ⟨h3, _⟩⟩⟩⟩ := ho
    exact ⟨h1, h2, h3⟩)

end Go.Proofs.Ytedbidblnjajdaa
