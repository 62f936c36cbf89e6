/- The Go structs of package api as Lean structures, their readings in memory, and what opens them. No condition. Written by a program of this prover's. -/
import Derived.Test.YtdldfllllgogoaaLib
namespace Go.Proofs.Ytdldfllllgogoaa
open Go.RowKit

def SlRep {α : Type} (R : Rep α) (w : World) (S : Nat → Prop) (l : List α) (A : Option Addr) (c : Nat) : Prop :=
  l.length ≤ c ∧ c ≤ maxLen ∧ (l = [] ∨ ∃ b o, A = some ⟨b, o, none⟩ ∧ S b ∧ R.at_ w S b o l)
theorem rep_slice_iff {α : Type} {R : Rep α} {w : World} {S : Nat → Prop} {l : List α} {cs : List Value} : (Rep.slice R).rep w S l cs ↔ ∃ A c, cs = [.slice A l.length c] ∧ SlRep R w S l A c := Iff.rfl
theorem rep_slice_val {α : Type} {R : Rep α} {w : World} {S : Nat → Prop} {l : List α} {A : Option Addr} {n c : Nat} : (Rep.slice R).rep w S l [.slice A n c] ↔ n = l.length ∧ SlRep R w S l A c := by
  constructor
  · rintro ⟨A', c', e, h⟩
    simp only [List.cons.injEq, Value.slice.injEq, and_true] at e
    obtain ⟨rfl, rfl, rfl⟩ := e
    exact ⟨rfl, h⟩
  · rintro ⟨rfl, h⟩
    exact ⟨A, c, rfl, h⟩

theorem SlRep.keep {α : Type} {R : Rep α} {w w' : World} {S S' : Nat → Prop} {l : List α} {A : Option Addr} {c : Nat} (h : SlRep R w S l A c) (hk : ∀ k, S k → S' k ∧ w'.heap[k]? = w.heap[k]?) : SlRep R w' S' l A c :=
  (rep_slice_val.1 ((Rep.slice R).mono (rep_slice_val.2 ⟨rfl, h⟩) hk)).2
theorem SlRep.below {α : Type} {R : Rep α} {w0 w w' : World} {l : List α} {A : Option Addr} {c : Nat} (h : SlRep R w (· < w0.heap.size) l A c) (hb : Below w0.heap.size w w') : SlRep R w' (· < w0.heap.size) l A c :=
  h.keep fun k hk => ⟨hk, hb.block k hk⟩
theorem SlRep.next {α : Type} {R : Rep α} {w w' : World} {l : List α} {A : Option Addr} {c : Nat} (h : SlRep R w (· < w.heap.size) l A c) (hb : Below w.heap.size w w') : SlRep R w' (· < w'.heap.size) l A c :=
  h.keep fun k hk => ⟨Nat.lt_of_lt_of_le hk hb.size, hb.block k hk⟩
theorem u8_at {w : World} {S : Nat → Prop} {l : List UInt8} {A : Option Addr} {c k : Nat} (h : SlRep Rep.u8 w S l A c) (hk : k < l.length) :
    ∃ b o, A = some ⟨b, o, none⟩ ∧ S b ∧ w.cell? ⟨b, o + k, none⟩ = some (.int .u8 ((l.getD k 0).toNat : Int)) := by
  rcases h.2.2 with rfl | ⟨b, o, rfl, hb, hr⟩
  · simp at hk
  · obtain ⟨cs, hcs, hc⟩ := hr k (l.getD k 0) (by rw [List.getD_eq_getElem?_getD, List.getElem?_eq_getElem hk]; rfl)
    subst hcs
    have := hc 0 _ rfl
    exact ⟨b, o, rfl, hb, by simpa [Rep.u8] using this⟩
theorem int_at {w : World} {S : Nat → Prop} {l : List Int} {A : Option Addr} {c k : Nat} (h : SlRep Rep.int w S l A c) (hk : k < l.length) :
    ∃ b o, A = some ⟨b, o, none⟩ ∧ S b ∧ w.cell? ⟨b, o + k, none⟩ = some (.int .i64 (l.getD k 0)) := by
  rcases h.2.2 with rfl | ⟨b, o, rfl, hb, hr⟩
  · simp at hk
  · obtain ⟨cs, hcs, hc⟩ := hr k (l.getD k 0) (by rw [List.getD_eq_getElem?_getD, List.getElem?_eq_getElem hk]; rfl)
    subst hcs
    have := hc 0 _ rfl
    exact ⟨b, o, rfl, hb, by simpa [Rep.int] using this⟩

structure Rng where
  lo : Int
  hi : Int
  deriving DecidableEq

def Rng.tup (x : Rng) : Int × Int × Unit := (x.lo, x.hi, ())

def Rng.rep : Rep Rng := Rep.via Rng.tup (Rep.pair Rep.int (Rep.pair Rep.int Rep.unit))

def Rng.ok (x : Rng) : Prop := IntOk x.lo ∧ IntOk x.hi

def Rng.cells (x : Rng) : List Value := [.int .i64 x.lo, .int .i64 x.hi]
theorem Rng.rep_iff {w : World} {S : Nat → Prop} {x : Rng} {cs : List Value} : Rng.rep.rep w S x cs ↔ cs = Rng.cells x := by
  constructor
  · intro h
    obtain ⟨_, _, rfl, rfl, ⟨_, _, rfl, rfl, rfl⟩⟩ := h
    rfl
  · rintro rfl
    exact ⟨_, _, rfl, rfl, ⟨_, _, rfl, rfl, rfl⟩⟩

theorem Rng.enc (w : World) (S : Nat → Prop) (x : Rng) : Rng.rep.rep w S x (Rng.cells x) := Rng.rep_iff.2 rfl
theorem Rng.one (l : List Rng) : ∀ u ∈ l.flatMap Rng.cells, u.oneCell' = true := by
  intro u hu
  obtain ⟨x, _, hx⟩ := List.mem_flatMap.1 hu
  simp only [Rng.cells, List.mem_cons, List.not_mem_nil, or_false] at hx
  rcases hx with rfl | rfl <;> rfl

theorem Rng.cells_at (z : Rng) {w : World} {S : Nat → Prop} {l : List Rng} {A : Option Addr} {c k : Nat} (h : SlRep Rng.rep w S l A c) (hk : k < l.length) :
    ∃ b o, A = some ⟨b, o, none⟩ ∧ S b ∧ w.cell? ⟨b, o + k * 2, none⟩ = some (.int .i64 (l.getD k z).lo) ∧ w.cell? ⟨b, o + k * 2 + 1, none⟩ = some (.int .i64 (l.getD k z).hi) := by
  rcases h.2.2 with rfl | ⟨b, o, rfl, hb, hr⟩
  · simp at hk
  · obtain ⟨cs, hcs, hc⟩ := hr k (l.getD k z) (by rw [List.getD_eq_getElem?_getD, List.getElem?_eq_getElem hk]; rfl)
    rw [Rng.rep_iff] at hcs
    subst hcs
    exact ⟨b, o, rfl, hb, hc 0 _ rfl, hc 1 _ rfl⟩

set_option maxRecDepth 100000 in
theorem opens_Rng : Opens Try.prog Rng.rep Rng.ok 78 :=
  opens_weak (opens_via Rng.tup (fun b => ⟨b.1, b.2.1⟩) (fun _ => rfl) (opens_struct Try.underlying78 (by kernel_rfl) (opensF_cons (opens_int Try.underlying3 (by kernel_rfl)) rfl (opensF_cons (opens_int Try.underlying3 (by kernel_rfl)) rfl (opensF_nil _))))) (fun a ho => by
    obtain ⟨h0, ⟨h1, _⟩⟩ := ho
    exact ⟨h0, h1⟩)

structure Want where
  at_ : Int
  count : Int
  deriving DecidableEq

def Want.tup (x : Want) : Int × Int × Unit := (x.at_, x.count, ())

def Want.rep : Rep Want := Rep.via Want.tup (Rep.pair Rep.int (Rep.pair Rep.int Rep.unit))

def Want.ok (x : Want) : Prop := IntOk x.at_ ∧ IntOk x.count

def Want.cells (x : Want) : List Value := [.int .i64 x.at_, .int .i64 x.count]
theorem Want.rep_iff {w : World} {S : Nat → Prop} {x : Want} {cs : List Value} : Want.rep.rep w S x cs ↔ cs = Want.cells x := by
  constructor
  · intro h
    obtain ⟨_, _, rfl, rfl, ⟨_, _, rfl, rfl, rfl⟩⟩ := h
    rfl
  · rintro rfl
    exact ⟨_, _, rfl, rfl, ⟨_, _, rfl, rfl, rfl⟩⟩

theorem Want.enc (w : World) (S : Nat → Prop) (x : Want) : Want.rep.rep w S x (Want.cells x) := Want.rep_iff.2 rfl
theorem Want.one (l : List Want) : ∀ u ∈ l.flatMap Want.cells, u.oneCell' = true := by
  intro u hu
  obtain ⟨x, _, hx⟩ := List.mem_flatMap.1 hu
  simp only [Want.cells, List.mem_cons, List.not_mem_nil, or_false] at hx
  rcases hx with rfl | rfl <;> rfl

theorem Want.cells_at (z : Want) {w : World} {S : Nat → Prop} {l : List Want} {A : Option Addr} {c k : Nat} (h : SlRep Want.rep w S l A c) (hk : k < l.length) :
    ∃ b o, A = some ⟨b, o, none⟩ ∧ S b ∧ w.cell? ⟨b, o + k * 2, none⟩ = some (.int .i64 (l.getD k z).at_) ∧ w.cell? ⟨b, o + k * 2 + 1, none⟩ = some (.int .i64 (l.getD k z).count) := by
  rcases h.2.2 with rfl | ⟨b, o, rfl, hb, hr⟩
  · simp at hk
  · obtain ⟨cs, hcs, hc⟩ := hr k (l.getD k z) (by rw [List.getD_eq_getElem?_getD, List.getElem?_eq_getElem hk]; rfl)
    rw [Want.rep_iff] at hcs
    subst hcs
    exact ⟨b, o, rfl, hb, hc 0 _ rfl, hc 1 _ rfl⟩

set_option maxRecDepth 100000 in
theorem opens_Want : Opens Try.prog Want.rep Want.ok 33 :=
  opens_weak (opens_via Want.tup (fun b => ⟨b.1, b.2.1⟩) (fun _ => rfl) (opens_struct Try.underlying33 (by kernel_rfl) (opensF_cons (opens_int Try.underlying3 (by kernel_rfl)) rfl (opensF_cons (opens_int Try.underlying3 (by kernel_rfl)) rfl (opensF_nil _))))) (fun a ho => by
    obtain ⟨h0, ⟨h1, _⟩⟩ := ho
    exact ⟨h0, h1⟩)

structure Line where
  first : Int
  room : Int
  deriving DecidableEq

def Line.tup (x : Line) : Int × Int × Unit := (x.first, x.room, ())

def Line.rep : Rep Line := Rep.via Line.tup (Rep.pair Rep.int (Rep.pair Rep.int Rep.unit))

def Line.ok (x : Line) : Prop := IntOk x.first ∧ IntOk x.room

def Line.cells (x : Line) : List Value := [.int .i64 x.first, .int .i64 x.room]
theorem Line.rep_iff {w : World} {S : Nat → Prop} {x : Line} {cs : List Value} : Line.rep.rep w S x cs ↔ cs = Line.cells x := by
  constructor
  · intro h
    obtain ⟨_, _, rfl, rfl, ⟨_, _, rfl, rfl, rfl⟩⟩ := h
    rfl
  · rintro rfl
    exact ⟨_, _, rfl, rfl, ⟨_, _, rfl, rfl, rfl⟩⟩

theorem Line.enc (w : World) (S : Nat → Prop) (x : Line) : Line.rep.rep w S x (Line.cells x) := Line.rep_iff.2 rfl
theorem Line.one (l : List Line) : ∀ u ∈ l.flatMap Line.cells, u.oneCell' = true := by
  intro u hu
  obtain ⟨x, _, hx⟩ := List.mem_flatMap.1 hu
  simp only [Line.cells, List.mem_cons, List.not_mem_nil, or_false] at hx
  rcases hx with rfl | rfl <;> rfl

theorem Line.cells_at (z : Line) {w : World} {S : Nat → Prop} {l : List Line} {A : Option Addr} {c k : Nat} (h : SlRep Line.rep w S l A c) (hk : k < l.length) :
    ∃ b o, A = some ⟨b, o, none⟩ ∧ S b ∧ w.cell? ⟨b, o + k * 2, none⟩ = some (.int .i64 (l.getD k z).first) ∧ w.cell? ⟨b, o + k * 2 + 1, none⟩ = some (.int .i64 (l.getD k z).room) := by
  rcases h.2.2 with rfl | ⟨b, o, rfl, hb, hr⟩
  · simp at hk
  · obtain ⟨cs, hcs, hc⟩ := hr k (l.getD k z) (by rw [List.getD_eq_getElem?_getD, List.getElem?_eq_getElem hk]; rfl)
    rw [Line.rep_iff] at hcs
    subst hcs
    exact ⟨b, o, rfl, hb, hc 0 _ rfl, hc 1 _ rfl⟩

set_option maxRecDepth 100000 in
theorem opens_Line : Opens Try.prog Line.rep Line.ok 52 :=
  opens_weak (opens_via Line.tup (fun b => ⟨b.1, b.2.1⟩) (fun _ => rfl) (opens_struct Try.underlying52 (by kernel_rfl) (opensF_cons (opens_int Try.underlying3 (by kernel_rfl)) rfl (opensF_cons (opens_int Try.underlying3 (by kernel_rfl)) rfl (opensF_nil _))))) (fun a ho => by
    obtain ⟨h0, ⟨h1, _⟩⟩ := ho
    exact ⟨h0, h1⟩)

structure Segment where
  seq : Int
  ack : Int
  window : Int
  syn : Bool
  fin : Bool
  rst : Bool
  acks : Bool
  sacks : List Rng
  data : List UInt8
  deriving DecidableEq

def Segment.tup (x : Segment) : Int × Int × Int × Bool × Bool × Bool × Bool × (List Rng) × (List UInt8) × Unit := (x.seq, x.ack, x.window, x.syn, x.fin, x.rst, x.acks, x.sacks, x.data, ())

def Segment.rep : Rep Segment := Rep.via Segment.tup (Rep.pair Rep.int (Rep.pair Rep.int (Rep.pair Rep.int (Rep.pair Rep.bool (Rep.pair Rep.bool (Rep.pair Rep.bool (Rep.pair Rep.bool (Rep.pair (Rep.slice Rng.rep) (Rep.pair (Rep.slice Rep.u8) Rep.unit)))))))))

def Segment.ok (x : Segment) : Prop := IntOk x.seq ∧ IntOk x.ack ∧ IntOk x.window ∧ (AllOk 16 Rng.ok) x.sacks ∧ (AllOk 1 AnyOk) x.data

theorem Segment.rep_iff {w : World} {S : Nat → Prop} {x : Segment} {cs : List Value} : Segment.rep.rep w S x cs ↔ ∃ (A0 : Option Addr) (c0 : Nat) (A1 : Option Addr) (c1 : Nat), cs = [.int .i64 x.seq, .int .i64 x.ack, .int .i64 x.window, .bool x.syn, .bool x.fin, .bool x.rst, .bool x.acks, .slice A0 x.sacks.length c0, .slice A1 x.data.length c1] ∧ SlRep Rng.rep w S x.sacks A0 c0 ∧ SlRep Rep.u8 w S x.data A1 c1 := by
  constructor
  · intro h
    obtain ⟨_, _, rfl, rfl, ⟨_, _, rfl, rfl, ⟨_, _, rfl, rfl, ⟨_, _, rfl, rfl, ⟨_, _, rfl, rfl, ⟨_, _, rfl, rfl, ⟨_, _, rfl, rfl, ⟨_, _, rfl, ⟨A0, c0, rfl, h0⟩, ⟨_, _, rfl, ⟨A1, c1, rfl, h1⟩, rfl⟩⟩⟩⟩⟩⟩⟩⟩⟩ := h
    exact ⟨A0, c0, A1, c1, rfl, h0, h1⟩
  · rintro ⟨A0, c0, A1, c1, rfl, h0, h1⟩
    exact ⟨_, _, rfl, rfl, ⟨_, _, rfl, rfl, ⟨_, _, rfl, rfl, ⟨_, _, rfl, rfl, ⟨_, _, rfl, rfl, ⟨_, _, rfl, rfl, ⟨_, _, rfl, rfl, ⟨_, _, rfl, ⟨A0, c0, rfl, h0⟩, ⟨_, _, rfl, ⟨A1, c1, rfl, h1⟩, rfl⟩⟩⟩⟩⟩⟩⟩⟩⟩

theorem Segment.cells_at (z : Segment) {w : World} {S : Nat → Prop} {l : List Segment} {A : Option Addr} {c k : Nat} (h : SlRep Segment.rep w S l A c) (hk : k < l.length) :
    ∃ b o, A = some ⟨b, o, none⟩ ∧ S b ∧ ∃ (A0 : Option Addr) (c0 : Nat) (A1 : Option Addr) (c1 : Nat), w.cell? ⟨b, o + k * 9, none⟩ = some (.int .i64 (l.getD k z).seq) ∧ w.cell? ⟨b, o + k * 9 + 1, none⟩ = some (.int .i64 (l.getD k z).ack) ∧ w.cell? ⟨b, o + k * 9 + 2, none⟩ = some (.int .i64 (l.getD k z).window) ∧ w.cell? ⟨b, o + k * 9 + 3, none⟩ = some (.bool (l.getD k z).syn) ∧ w.cell? ⟨b, o + k * 9 + 4, none⟩ = some (.bool (l.getD k z).fin) ∧ w.cell? ⟨b, o + k * 9 + 5, none⟩ = some (.bool (l.getD k z).rst) ∧ w.cell? ⟨b, o + k * 9 + 6, none⟩ = some (.bool (l.getD k z).acks) ∧ w.cell? ⟨b, o + k * 9 + 7, none⟩ = some (.slice A0 (l.getD k z).sacks.length c0) ∧ w.cell? ⟨b, o + k * 9 + 8, none⟩ = some (.slice A1 (l.getD k z).data.length c1) ∧ SlRep Rng.rep w S (l.getD k z).sacks A0 c0 ∧ SlRep Rep.u8 w S (l.getD k z).data A1 c1 := by
  rcases h.2.2 with rfl | ⟨b, o, rfl, hb, hr⟩
  · simp at hk
  · obtain ⟨cs, hcs, hc⟩ := hr k (l.getD k z) (by rw [List.getD_eq_getElem?_getD, List.getElem?_eq_getElem hk]; rfl)
    obtain ⟨A0, c0, A1, c1, rfl, h0, h1⟩ := Segment.rep_iff.1 hcs
    exact ⟨b, o, rfl, hb, A0, c0, A1, c1, hc 0 _ rfl, hc 1 _ rfl, hc 2 _ rfl, hc 3 _ rfl, hc 4 _ rfl, hc 5 _ rfl, hc 6 _ rfl, hc 7 _ rfl, hc 8 _ rfl, h0, h1⟩

set_option maxRecDepth 100000 in
theorem opens_Segment : Opens Try.prog Segment.rep Segment.ok 134 :=
  opens_weak (opens_via Segment.tup (fun b => ⟨b.1, b.2.1, b.2.2.1, b.2.2.2.1, b.2.2.2.2.1, b.2.2.2.2.2.1, b.2.2.2.2.2.2.1, b.2.2.2.2.2.2.2.1, b.2.2.2.2.2.2.2.2.1⟩) (fun _ => rfl) (opens_struct Try.underlying134 (by kernel_rfl) (opensF_cons (opens_int Try.underlying3 (by kernel_rfl)) rfl (opensF_cons (opens_int Try.underlying3 (by kernel_rfl)) rfl (opensF_cons (opens_int Try.underlying3 (by kernel_rfl)) rfl (opensF_cons (opens_bool Try.underlying4 (by kernel_rfl)) rfl (opensF_cons (opens_bool Try.underlying4 (by kernel_rfl)) rfl (opensF_cons (opens_bool Try.underlying4 (by kernel_rfl)) rfl (opensF_cons (opens_bool Try.underlying4 (by kernel_rfl)) rfl (opensF_cons (opens_slice Try.underlying39 (by kernel_rfl) (by decide) (by kernel_rfl) opens_Rng) rfl (opensF_cons (opens_slice Try.underlying28 (by kernel_rfl) (by decide) (by kernel_rfl) (opens_u8 Try.underlying5 (by kernel_rfl))) rfl (opensF_nil _)))))))))))) (fun a ho => by
    obtain ⟨h0, ⟨h1, ⟨h2, ⟨h3, ⟨h4, ⟨h5, ⟨h6, ⟨h7, ⟨h8, _⟩⟩⟩⟩⟩⟩⟩⟩⟩ := ho
    exact ⟨h0, h1, h2, h7, h8⟩)

structure Deed where
  kind : Int
  data : List UInt8
  ack : Int
  window : Int
  sacks : List Rng
  deriving DecidableEq

def Deed.tup (x : Deed) : Int × (List UInt8) × Int × Int × (List Rng) × Unit := (x.kind, x.data, x.ack, x.window, x.sacks, ())

def Deed.rep : Rep Deed := Rep.via Deed.tup (Rep.pair Rep.int (Rep.pair (Rep.slice Rep.u8) (Rep.pair Rep.int (Rep.pair Rep.int (Rep.pair (Rep.slice Rng.rep) Rep.unit)))))

def Deed.ok (x : Deed) : Prop := IntOk x.kind ∧ (AllOk 1 AnyOk) x.data ∧ IntOk x.ack ∧ IntOk x.window ∧ (AllOk 16 Rng.ok) x.sacks

theorem Deed.rep_iff {w : World} {S : Nat → Prop} {x : Deed} {cs : List Value} : Deed.rep.rep w S x cs ↔ ∃ (A0 : Option Addr) (c0 : Nat) (A1 : Option Addr) (c1 : Nat), cs = [.int .i64 x.kind, .slice A0 x.data.length c0, .int .i64 x.ack, .int .i64 x.window, .slice A1 x.sacks.length c1] ∧ SlRep Rep.u8 w S x.data A0 c0 ∧ SlRep Rng.rep w S x.sacks A1 c1 := by
  constructor
  · intro h
    obtain ⟨_, _, rfl, rfl, ⟨_, _, rfl, ⟨A0, c0, rfl, h0⟩, ⟨_, _, rfl, rfl, ⟨_, _, rfl, rfl, ⟨_, _, rfl, ⟨A1, c1, rfl, h1⟩, rfl⟩⟩⟩⟩⟩ := h
    exact ⟨A0, c0, A1, c1, rfl, h0, h1⟩
  · rintro ⟨A0, c0, A1, c1, rfl, h0, h1⟩
    exact ⟨_, _, rfl, rfl, ⟨_, _, rfl, ⟨A0, c0, rfl, h0⟩, ⟨_, _, rfl, rfl, ⟨_, _, rfl, rfl, ⟨_, _, rfl, ⟨A1, c1, rfl, h1⟩, rfl⟩⟩⟩⟩⟩

theorem Deed.cells_at (z : Deed) {w : World} {S : Nat → Prop} {l : List Deed} {A : Option Addr} {c k : Nat} (h : SlRep Deed.rep w S l A c) (hk : k < l.length) :
    ∃ b o, A = some ⟨b, o, none⟩ ∧ S b ∧ ∃ (A0 : Option Addr) (c0 : Nat) (A1 : Option Addr) (c1 : Nat), w.cell? ⟨b, o + k * 5, none⟩ = some (.int .i64 (l.getD k z).kind) ∧ w.cell? ⟨b, o + k * 5 + 1, none⟩ = some (.slice A0 (l.getD k z).data.length c0) ∧ w.cell? ⟨b, o + k * 5 + 2, none⟩ = some (.int .i64 (l.getD k z).ack) ∧ w.cell? ⟨b, o + k * 5 + 3, none⟩ = some (.int .i64 (l.getD k z).window) ∧ w.cell? ⟨b, o + k * 5 + 4, none⟩ = some (.slice A1 (l.getD k z).sacks.length c1) ∧ SlRep Rep.u8 w S (l.getD k z).data A0 c0 ∧ SlRep Rng.rep w S (l.getD k z).sacks A1 c1 := by
  rcases h.2.2 with rfl | ⟨b, o, rfl, hb, hr⟩
  · simp at hk
  · obtain ⟨cs, hcs, hc⟩ := hr k (l.getD k z) (by rw [List.getD_eq_getElem?_getD, List.getElem?_eq_getElem hk]; rfl)
    obtain ⟨A0, c0, A1, c1, rfl, h0, h1⟩ := Deed.rep_iff.1 hcs
    exact ⟨b, o, rfl, hb, A0, c0, A1, c1, hc 0 _ rfl, hc 1 _ rfl, hc 2 _ rfl, hc 3 _ rfl, hc 4 _ rfl, h0, h1⟩

set_option maxRecDepth 100000 in
theorem opens_Deed : Opens Try.prog Deed.rep Deed.ok 82 :=
  opens_weak (opens_via Deed.tup (fun b => ⟨b.1, b.2.1, b.2.2.1, b.2.2.2.1, b.2.2.2.2.1⟩) (fun _ => rfl) (opens_struct Try.underlying82 (by kernel_rfl) (opensF_cons (opens_int Try.underlying3 (by kernel_rfl)) rfl (opensF_cons (opens_slice Try.underlying28 (by kernel_rfl) (by decide) (by kernel_rfl) (opens_u8 Try.underlying5 (by kernel_rfl))) rfl (opensF_cons (opens_int Try.underlying3 (by kernel_rfl)) rfl (opensF_cons (opens_int Try.underlying3 (by kernel_rfl)) rfl (opensF_cons (opens_slice Try.underlying39 (by kernel_rfl) (by decide) (by kernel_rfl) opens_Rng) rfl (opensF_nil _)))))))) (fun a ho => by
    obtain ⟨h0, ⟨h1, ⟨h2, ⟨h3, ⟨h4, _⟩⟩⟩⟩⟩ := ho
    exact ⟨h0, h1, h2, h3, h4⟩)

structure Sent where
  code : Int
  from_ : Int
  data : List UInt8
  fin : Bool
  again : Bool
  idle : Bool
  left : Int
  deriving DecidableEq

def Sent.tup (x : Sent) : Int × Int × (List UInt8) × Bool × Bool × Bool × Int × Unit := (x.code, x.from_, x.data, x.fin, x.again, x.idle, x.left, ())

def Sent.rep : Rep Sent := Rep.via Sent.tup (Rep.pair Rep.int (Rep.pair Rep.int (Rep.pair (Rep.slice Rep.u8) (Rep.pair Rep.bool (Rep.pair Rep.bool (Rep.pair Rep.bool (Rep.pair Rep.int Rep.unit)))))))

def Sent.ok (x : Sent) : Prop := IntOk x.code ∧ IntOk x.from_ ∧ (AllOk 1 AnyOk) x.data ∧ IntOk x.left

theorem Sent.rep_iff {w : World} {S : Nat → Prop} {x : Sent} {cs : List Value} : Sent.rep.rep w S x cs ↔ ∃ (A0 : Option Addr) (c0 : Nat), cs = [.int .i64 x.code, .int .i64 x.from_, .slice A0 x.data.length c0, .bool x.fin, .bool x.again, .bool x.idle, .int .i64 x.left] ∧ SlRep Rep.u8 w S x.data A0 c0 := by
  constructor
  · intro h
    obtain ⟨_, _, rfl, rfl, ⟨_, _, rfl, rfl, ⟨_, _, rfl, ⟨A0, c0, rfl, h0⟩, ⟨_, _, rfl, rfl, ⟨_, _, rfl, rfl, ⟨_, _, rfl, rfl, ⟨_, _, rfl, rfl, rfl⟩⟩⟩⟩⟩⟩⟩ := h
    exact ⟨A0, c0, rfl, h0⟩
  · rintro ⟨A0, c0, rfl, h0⟩
    exact ⟨_, _, rfl, rfl, ⟨_, _, rfl, rfl, ⟨_, _, rfl, ⟨A0, c0, rfl, h0⟩, ⟨_, _, rfl, rfl, ⟨_, _, rfl, rfl, ⟨_, _, rfl, rfl, ⟨_, _, rfl, rfl, rfl⟩⟩⟩⟩⟩⟩⟩

theorem Sent.cells_at (z : Sent) {w : World} {S : Nat → Prop} {l : List Sent} {A : Option Addr} {c k : Nat} (h : SlRep Sent.rep w S l A c) (hk : k < l.length) :
    ∃ b o, A = some ⟨b, o, none⟩ ∧ S b ∧ ∃ (A0 : Option Addr) (c0 : Nat), w.cell? ⟨b, o + k * 7, none⟩ = some (.int .i64 (l.getD k z).code) ∧ w.cell? ⟨b, o + k * 7 + 1, none⟩ = some (.int .i64 (l.getD k z).from_) ∧ w.cell? ⟨b, o + k * 7 + 2, none⟩ = some (.slice A0 (l.getD k z).data.length c0) ∧ w.cell? ⟨b, o + k * 7 + 3, none⟩ = some (.bool (l.getD k z).fin) ∧ w.cell? ⟨b, o + k * 7 + 4, none⟩ = some (.bool (l.getD k z).again) ∧ w.cell? ⟨b, o + k * 7 + 5, none⟩ = some (.bool (l.getD k z).idle) ∧ w.cell? ⟨b, o + k * 7 + 6, none⟩ = some (.int .i64 (l.getD k z).left) ∧ SlRep Rep.u8 w S (l.getD k z).data A0 c0 := by
  rcases h.2.2 with rfl | ⟨b, o, rfl, hb, hr⟩
  · simp at hk
  · obtain ⟨cs, hcs, hc⟩ := hr k (l.getD k z) (by rw [List.getD_eq_getElem?_getD, List.getElem?_eq_getElem hk]; rfl)
    obtain ⟨A0, c0, rfl, h0⟩ := Sent.rep_iff.1 hcs
    exact ⟨b, o, rfl, hb, A0, c0, hc 0 _ rfl, hc 1 _ rfl, hc 2 _ rfl, hc 3 _ rfl, hc 4 _ rfl, hc 5 _ rfl, hc 6 _ rfl, h0⟩

set_option maxRecDepth 100000 in
theorem opens_Sent : Opens Try.prog Sent.rep Sent.ok 49 :=
  opens_weak (opens_via Sent.tup (fun b => ⟨b.1, b.2.1, b.2.2.1, b.2.2.2.1, b.2.2.2.2.1, b.2.2.2.2.2.1, b.2.2.2.2.2.2.1⟩) (fun _ => rfl) (opens_struct Try.underlying49 (by kernel_rfl) (opensF_cons (opens_int Try.underlying3 (by kernel_rfl)) rfl (opensF_cons (opens_int Try.underlying3 (by kernel_rfl)) rfl (opensF_cons (opens_slice Try.underlying28 (by kernel_rfl) (by decide) (by kernel_rfl) (opens_u8 Try.underlying5 (by kernel_rfl))) rfl (opensF_cons (opens_bool Try.underlying4 (by kernel_rfl)) rfl (opensF_cons (opens_bool Try.underlying4 (by kernel_rfl)) rfl (opensF_cons (opens_bool Try.underlying4 (by kernel_rfl)) rfl (opensF_cons (opens_int Try.underlying3 (by kernel_rfl)) rfl (opensF_nil _)))))))))) (fun a ho => by
    obtain ⟨h0, ⟨h1, ⟨h2, ⟨h3, ⟨h4, ⟨h5, ⟨h6, _⟩⟩⟩⟩⟩⟩⟩ := ho
    exact ⟨h0, h1, h2, h6⟩)

structure Arrival where
  kind : Int
  from_ : Int
  data : List UInt8
  fin : Bool
  count : Int
  deriving DecidableEq

def Arrival.tup (x : Arrival) : Int × Int × (List UInt8) × Bool × Int × Unit := (x.kind, x.from_, x.data, x.fin, x.count, ())

def Arrival.rep : Rep Arrival := Rep.via Arrival.tup (Rep.pair Rep.int (Rep.pair Rep.int (Rep.pair (Rep.slice Rep.u8) (Rep.pair Rep.bool (Rep.pair Rep.int Rep.unit)))))

def Arrival.ok (x : Arrival) : Prop := IntOk x.kind ∧ IntOk x.from_ ∧ (AllOk 1 AnyOk) x.data ∧ IntOk x.count

theorem Arrival.rep_iff {w : World} {S : Nat → Prop} {x : Arrival} {cs : List Value} : Arrival.rep.rep w S x cs ↔ ∃ (A0 : Option Addr) (c0 : Nat), cs = [.int .i64 x.kind, .int .i64 x.from_, .slice A0 x.data.length c0, .bool x.fin, .int .i64 x.count] ∧ SlRep Rep.u8 w S x.data A0 c0 := by
  constructor
  · intro h
    obtain ⟨_, _, rfl, rfl, ⟨_, _, rfl, rfl, ⟨_, _, rfl, ⟨A0, c0, rfl, h0⟩, ⟨_, _, rfl, rfl, ⟨_, _, rfl, rfl, rfl⟩⟩⟩⟩⟩ := h
    exact ⟨A0, c0, rfl, h0⟩
  · rintro ⟨A0, c0, rfl, h0⟩
    exact ⟨_, _, rfl, rfl, ⟨_, _, rfl, rfl, ⟨_, _, rfl, ⟨A0, c0, rfl, h0⟩, ⟨_, _, rfl, rfl, ⟨_, _, rfl, rfl, rfl⟩⟩⟩⟩⟩

theorem Arrival.cells_at (z : Arrival) {w : World} {S : Nat → Prop} {l : List Arrival} {A : Option Addr} {c k : Nat} (h : SlRep Arrival.rep w S l A c) (hk : k < l.length) :
    ∃ b o, A = some ⟨b, o, none⟩ ∧ S b ∧ ∃ (A0 : Option Addr) (c0 : Nat), w.cell? ⟨b, o + k * 5, none⟩ = some (.int .i64 (l.getD k z).kind) ∧ w.cell? ⟨b, o + k * 5 + 1, none⟩ = some (.int .i64 (l.getD k z).from_) ∧ w.cell? ⟨b, o + k * 5 + 2, none⟩ = some (.slice A0 (l.getD k z).data.length c0) ∧ w.cell? ⟨b, o + k * 5 + 3, none⟩ = some (.bool (l.getD k z).fin) ∧ w.cell? ⟨b, o + k * 5 + 4, none⟩ = some (.int .i64 (l.getD k z).count) ∧ SlRep Rep.u8 w S (l.getD k z).data A0 c0 := by
  rcases h.2.2 with rfl | ⟨b, o, rfl, hb, hr⟩
  · simp at hk
  · obtain ⟨cs, hcs, hc⟩ := hr k (l.getD k z) (by rw [List.getD_eq_getElem?_getD, List.getElem?_eq_getElem hk]; rfl)
    obtain ⟨A0, c0, rfl, h0⟩ := Arrival.rep_iff.1 hcs
    exact ⟨b, o, rfl, hb, A0, c0, hc 0 _ rfl, hc 1 _ rfl, hc 2 _ rfl, hc 3 _ rfl, hc 4 _ rfl, h0⟩

set_option maxRecDepth 100000 in
theorem opens_Arrival : Opens Try.prog Arrival.rep Arrival.ok 73 :=
  opens_weak (opens_via Arrival.tup (fun b => ⟨b.1, b.2.1, b.2.2.1, b.2.2.2.1, b.2.2.2.2.1⟩) (fun _ => rfl) (opens_struct Try.underlying73 (by kernel_rfl) (opensF_cons (opens_int Try.underlying3 (by kernel_rfl)) rfl (opensF_cons (opens_int Try.underlying3 (by kernel_rfl)) rfl (opensF_cons (opens_slice Try.underlying28 (by kernel_rfl) (by decide) (by kernel_rfl) (opens_u8 Try.underlying5 (by kernel_rfl))) rfl (opensF_cons (opens_bool Try.underlying4 (by kernel_rfl)) rfl (opensF_cons (opens_int Try.underlying3 (by kernel_rfl)) rfl (opensF_nil _)))))))) (fun a ho => by
    obtain ⟨h0, ⟨h1, ⟨h2, ⟨h3, ⟨h4, _⟩⟩⟩⟩⟩ := ho
    exact ⟨h0, h1, h2, h4⟩)

structure Told where
  code : Int
  ack : Int
  window : Int
  sacks : List Rng
  data : List UInt8
  end_ : Bool
  deriving DecidableEq

def Told.tup (x : Told) : Int × Int × Int × (List Rng) × (List UInt8) × Bool × Unit := (x.code, x.ack, x.window, x.sacks, x.data, x.end_, ())

def Told.rep : Rep Told := Rep.via Told.tup (Rep.pair Rep.int (Rep.pair Rep.int (Rep.pair Rep.int (Rep.pair (Rep.slice Rng.rep) (Rep.pair (Rep.slice Rep.u8) (Rep.pair Rep.bool Rep.unit))))))

def Told.ok (x : Told) : Prop := IntOk x.code ∧ IntOk x.ack ∧ IntOk x.window ∧ (AllOk 16 Rng.ok) x.sacks ∧ (AllOk 1 AnyOk) x.data

theorem Told.rep_iff {w : World} {S : Nat → Prop} {x : Told} {cs : List Value} : Told.rep.rep w S x cs ↔ ∃ (A0 : Option Addr) (c0 : Nat) (A1 : Option Addr) (c1 : Nat), cs = [.int .i64 x.code, .int .i64 x.ack, .int .i64 x.window, .slice A0 x.sacks.length c0, .slice A1 x.data.length c1, .bool x.end_] ∧ SlRep Rng.rep w S x.sacks A0 c0 ∧ SlRep Rep.u8 w S x.data A1 c1 := by
  constructor
  · intro h
    obtain ⟨_, _, rfl, rfl, ⟨_, _, rfl, rfl, ⟨_, _, rfl, rfl, ⟨_, _, rfl, ⟨A0, c0, rfl, h0⟩, ⟨_, _, rfl, ⟨A1, c1, rfl, h1⟩, ⟨_, _, rfl, rfl, rfl⟩⟩⟩⟩⟩⟩ := h
    exact ⟨A0, c0, A1, c1, rfl, h0, h1⟩
  · rintro ⟨A0, c0, A1, c1, rfl, h0, h1⟩
    exact ⟨_, _, rfl, rfl, ⟨_, _, rfl, rfl, ⟨_, _, rfl, rfl, ⟨_, _, rfl, ⟨A0, c0, rfl, h0⟩, ⟨_, _, rfl, ⟨A1, c1, rfl, h1⟩, ⟨_, _, rfl, rfl, rfl⟩⟩⟩⟩⟩⟩

theorem Told.cells_at (z : Told) {w : World} {S : Nat → Prop} {l : List Told} {A : Option Addr} {c k : Nat} (h : SlRep Told.rep w S l A c) (hk : k < l.length) :
    ∃ b o, A = some ⟨b, o, none⟩ ∧ S b ∧ ∃ (A0 : Option Addr) (c0 : Nat) (A1 : Option Addr) (c1 : Nat), w.cell? ⟨b, o + k * 6, none⟩ = some (.int .i64 (l.getD k z).code) ∧ w.cell? ⟨b, o + k * 6 + 1, none⟩ = some (.int .i64 (l.getD k z).ack) ∧ w.cell? ⟨b, o + k * 6 + 2, none⟩ = some (.int .i64 (l.getD k z).window) ∧ w.cell? ⟨b, o + k * 6 + 3, none⟩ = some (.slice A0 (l.getD k z).sacks.length c0) ∧ w.cell? ⟨b, o + k * 6 + 4, none⟩ = some (.slice A1 (l.getD k z).data.length c1) ∧ w.cell? ⟨b, o + k * 6 + 5, none⟩ = some (.bool (l.getD k z).end_) ∧ SlRep Rng.rep w S (l.getD k z).sacks A0 c0 ∧ SlRep Rep.u8 w S (l.getD k z).data A1 c1 := by
  rcases h.2.2 with rfl | ⟨b, o, rfl, hb, hr⟩
  · simp at hk
  · obtain ⟨cs, hcs, hc⟩ := hr k (l.getD k z) (by rw [List.getD_eq_getElem?_getD, List.getElem?_eq_getElem hk]; rfl)
    obtain ⟨A0, c0, A1, c1, rfl, h0, h1⟩ := Told.rep_iff.1 hcs
    exact ⟨b, o, rfl, hb, A0, c0, A1, c1, hc 0 _ rfl, hc 1 _ rfl, hc 2 _ rfl, hc 3 _ rfl, hc 4 _ rfl, hc 5 _ rfl, h0, h1⟩

set_option maxRecDepth 100000 in
theorem opens_Told : Opens Try.prog Told.rep Told.ok 41 :=
  opens_weak (opens_via Told.tup (fun b => ⟨b.1, b.2.1, b.2.2.1, b.2.2.2.1, b.2.2.2.2.1, b.2.2.2.2.2.1⟩) (fun _ => rfl) (opens_struct Try.underlying41 (by kernel_rfl) (opensF_cons (opens_int Try.underlying3 (by kernel_rfl)) rfl (opensF_cons (opens_int Try.underlying3 (by kernel_rfl)) rfl (opensF_cons (opens_int Try.underlying3 (by kernel_rfl)) rfl (opensF_cons (opens_slice Try.underlying39 (by kernel_rfl) (by decide) (by kernel_rfl) opens_Rng) rfl (opensF_cons (opens_slice Try.underlying28 (by kernel_rfl) (by decide) (by kernel_rfl) (opens_u8 Try.underlying5 (by kernel_rfl))) rfl (opensF_cons (opens_bool Try.underlying4 (by kernel_rfl)) rfl (opensF_nil _))))))))) (fun a ho => by
    obtain ⟨h0, ⟨h1, ⟨h2, ⟨h3, ⟨h4, ⟨h5, _⟩⟩⟩⟩⟩⟩ := ho
    exact ⟨h0, h1, h2, h3, h4⟩)

structure Hop where
  kind : Int
  data : List UInt8
  id : Int
  at_ : Int
  by_ : UInt8
  count : Int
  deriving DecidableEq

def Hop.tup (x : Hop) : Int × (List UInt8) × Int × Int × UInt8 × Int × Unit := (x.kind, x.data, x.id, x.at_, x.by_, x.count, ())

def Hop.rep : Rep Hop := Rep.via Hop.tup (Rep.pair Rep.int (Rep.pair (Rep.slice Rep.u8) (Rep.pair Rep.int (Rep.pair Rep.int (Rep.pair Rep.u8 (Rep.pair Rep.int Rep.unit))))))

def Hop.ok (x : Hop) : Prop := IntOk x.kind ∧ (AllOk 1 AnyOk) x.data ∧ IntOk x.id ∧ IntOk x.at_ ∧ IntOk x.count

theorem Hop.rep_iff {w : World} {S : Nat → Prop} {x : Hop} {cs : List Value} : Hop.rep.rep w S x cs ↔ ∃ (A0 : Option Addr) (c0 : Nat), cs = [.int .i64 x.kind, .slice A0 x.data.length c0, .int .i64 x.id, .int .i64 x.at_, .int .u8 x.by_.toNat, .int .i64 x.count] ∧ SlRep Rep.u8 w S x.data A0 c0 := by
  constructor
  · intro h
    obtain ⟨_, _, rfl, rfl, ⟨_, _, rfl, ⟨A0, c0, rfl, h0⟩, ⟨_, _, rfl, rfl, ⟨_, _, rfl, rfl, ⟨_, _, rfl, rfl, ⟨_, _, rfl, rfl, rfl⟩⟩⟩⟩⟩⟩ := h
    exact ⟨A0, c0, rfl, h0⟩
  · rintro ⟨A0, c0, rfl, h0⟩
    exact ⟨_, _, rfl, rfl, ⟨_, _, rfl, ⟨A0, c0, rfl, h0⟩, ⟨_, _, rfl, rfl, ⟨_, _, rfl, rfl, ⟨_, _, rfl, rfl, ⟨_, _, rfl, rfl, rfl⟩⟩⟩⟩⟩⟩

theorem Hop.cells_at (z : Hop) {w : World} {S : Nat → Prop} {l : List Hop} {A : Option Addr} {c k : Nat} (h : SlRep Hop.rep w S l A c) (hk : k < l.length) :
    ∃ b o, A = some ⟨b, o, none⟩ ∧ S b ∧ ∃ (A0 : Option Addr) (c0 : Nat), w.cell? ⟨b, o + k * 6, none⟩ = some (.int .i64 (l.getD k z).kind) ∧ w.cell? ⟨b, o + k * 6 + 1, none⟩ = some (.slice A0 (l.getD k z).data.length c0) ∧ w.cell? ⟨b, o + k * 6 + 2, none⟩ = some (.int .i64 (l.getD k z).id) ∧ w.cell? ⟨b, o + k * 6 + 3, none⟩ = some (.int .i64 (l.getD k z).at_) ∧ w.cell? ⟨b, o + k * 6 + 4, none⟩ = some (.int .u8 (l.getD k z).by_.toNat) ∧ w.cell? ⟨b, o + k * 6 + 5, none⟩ = some (.int .i64 (l.getD k z).count) ∧ SlRep Rep.u8 w S (l.getD k z).data A0 c0 := by
  rcases h.2.2 with rfl | ⟨b, o, rfl, hb, hr⟩
  · simp at hk
  · obtain ⟨cs, hcs, hc⟩ := hr k (l.getD k z) (by rw [List.getD_eq_getElem?_getD, List.getElem?_eq_getElem hk]; rfl)
    obtain ⟨A0, c0, rfl, h0⟩ := Hop.rep_iff.1 hcs
    exact ⟨b, o, rfl, hb, A0, c0, hc 0 _ rfl, hc 1 _ rfl, hc 2 _ rfl, hc 3 _ rfl, hc 4 _ rfl, hc 5 _ rfl, h0⟩

set_option maxRecDepth 100000 in
theorem opens_Hop : Opens Try.prog Hop.rep Hop.ok 89 :=
  opens_weak (opens_via Hop.tup (fun b => ⟨b.1, b.2.1, b.2.2.1, b.2.2.2.1, b.2.2.2.2.1, b.2.2.2.2.2.1⟩) (fun _ => rfl) (opens_struct Try.underlying89 (by kernel_rfl) (opensF_cons (opens_int Try.underlying3 (by kernel_rfl)) rfl (opensF_cons (opens_slice Try.underlying28 (by kernel_rfl) (by decide) (by kernel_rfl) (opens_u8 Try.underlying5 (by kernel_rfl))) rfl (opensF_cons (opens_int Try.underlying3 (by kernel_rfl)) rfl (opensF_cons (opens_int Try.underlying3 (by kernel_rfl)) rfl (opensF_cons (opens_u8 Try.underlying5 (by kernel_rfl)) rfl (opensF_cons (opens_int Try.underlying3 (by kernel_rfl)) rfl (opensF_nil _))))))))) (fun a ho => by
    obtain ⟨h0, ⟨h1, ⟨h2, ⟨h3, ⟨h4, ⟨h5, _⟩⟩⟩⟩⟩⟩ := ho
    exact ⟨h0, h1, h2, h3, h5⟩)

structure Passed where
  code : Int
  put : Bool
  id : Int
  data : List UInt8
  end_ : Bool
  left : Int
  deriving DecidableEq

def Passed.tup (x : Passed) : Int × Bool × Int × (List UInt8) × Bool × Int × Unit := (x.code, x.put, x.id, x.data, x.end_, x.left, ())

def Passed.rep : Rep Passed := Rep.via Passed.tup (Rep.pair Rep.int (Rep.pair Rep.bool (Rep.pair Rep.int (Rep.pair (Rep.slice Rep.u8) (Rep.pair Rep.bool (Rep.pair Rep.int Rep.unit))))))

def Passed.ok (x : Passed) : Prop := IntOk x.code ∧ IntOk x.id ∧ (AllOk 1 AnyOk) x.data ∧ IntOk x.left

theorem Passed.rep_iff {w : World} {S : Nat → Prop} {x : Passed} {cs : List Value} : Passed.rep.rep w S x cs ↔ ∃ (A0 : Option Addr) (c0 : Nat), cs = [.int .i64 x.code, .bool x.put, .int .i64 x.id, .slice A0 x.data.length c0, .bool x.end_, .int .i64 x.left] ∧ SlRep Rep.u8 w S x.data A0 c0 := by
  constructor
  · intro h
    obtain ⟨_, _, rfl, rfl, ⟨_, _, rfl, rfl, ⟨_, _, rfl, rfl, ⟨_, _, rfl, ⟨A0, c0, rfl, h0⟩, ⟨_, _, rfl, rfl, ⟨_, _, rfl, rfl, rfl⟩⟩⟩⟩⟩⟩ := h
    exact ⟨A0, c0, rfl, h0⟩
  · rintro ⟨A0, c0, rfl, h0⟩
    exact ⟨_, _, rfl, rfl, ⟨_, _, rfl, rfl, ⟨_, _, rfl, rfl, ⟨_, _, rfl, ⟨A0, c0, rfl, h0⟩, ⟨_, _, rfl, rfl, ⟨_, _, rfl, rfl, rfl⟩⟩⟩⟩⟩⟩

theorem Passed.cells_at (z : Passed) {w : World} {S : Nat → Prop} {l : List Passed} {A : Option Addr} {c k : Nat} (h : SlRep Passed.rep w S l A c) (hk : k < l.length) :
    ∃ b o, A = some ⟨b, o, none⟩ ∧ S b ∧ ∃ (A0 : Option Addr) (c0 : Nat), w.cell? ⟨b, o + k * 6, none⟩ = some (.int .i64 (l.getD k z).code) ∧ w.cell? ⟨b, o + k * 6 + 1, none⟩ = some (.bool (l.getD k z).put) ∧ w.cell? ⟨b, o + k * 6 + 2, none⟩ = some (.int .i64 (l.getD k z).id) ∧ w.cell? ⟨b, o + k * 6 + 3, none⟩ = some (.slice A0 (l.getD k z).data.length c0) ∧ w.cell? ⟨b, o + k * 6 + 4, none⟩ = some (.bool (l.getD k z).end_) ∧ w.cell? ⟨b, o + k * 6 + 5, none⟩ = some (.int .i64 (l.getD k z).left) ∧ SlRep Rep.u8 w S (l.getD k z).data A0 c0 := by
  rcases h.2.2 with rfl | ⟨b, o, rfl, hb, hr⟩
  · simp at hk
  · obtain ⟨cs, hcs, hc⟩ := hr k (l.getD k z) (by rw [List.getD_eq_getElem?_getD, List.getElem?_eq_getElem hk]; rfl)
    obtain ⟨A0, c0, rfl, h0⟩ := Passed.rep_iff.1 hcs
    exact ⟨b, o, rfl, hb, A0, c0, hc 0 _ rfl, hc 1 _ rfl, hc 2 _ rfl, hc 3 _ rfl, hc 4 _ rfl, hc 5 _ rfl, h0⟩

set_option maxRecDepth 100000 in
theorem opens_Passed : Opens Try.prog Passed.rep Passed.ok 58 :=
  opens_weak (opens_via Passed.tup (fun b => ⟨b.1, b.2.1, b.2.2.1, b.2.2.2.1, b.2.2.2.2.1, b.2.2.2.2.2.1⟩) (fun _ => rfl) (opens_struct Try.underlying58 (by kernel_rfl) (opensF_cons (opens_int Try.underlying3 (by kernel_rfl)) rfl (opensF_cons (opens_bool Try.underlying4 (by kernel_rfl)) rfl (opensF_cons (opens_int Try.underlying3 (by kernel_rfl)) rfl (opensF_cons (opens_slice Try.underlying28 (by kernel_rfl) (by decide) (by kernel_rfl) (opens_u8 Try.underlying5 (by kernel_rfl))) rfl (opensF_cons (opens_bool Try.underlying4 (by kernel_rfl)) rfl (opensF_cons (opens_int Try.underlying3 (by kernel_rfl)) rfl (opensF_nil _))))))))) (fun a ho => by
    obtain ⟨h0, ⟨h1, ⟨h2, ⟨h3, ⟨h4, ⟨h5, _⟩⟩⟩⟩⟩⟩ := ho
    exact ⟨h0, h2, h3, h5⟩)

structure Got where
  at_ : Int
  count : Int
  data : List UInt8
  deriving DecidableEq

def Got.tup (x : Got) : Int × Int × (List UInt8) × Unit := (x.at_, x.count, x.data, ())

def Got.rep : Rep Got := Rep.via Got.tup (Rep.pair Rep.int (Rep.pair Rep.int (Rep.pair (Rep.slice Rep.u8) Rep.unit)))

def Got.ok (x : Got) : Prop := IntOk x.at_ ∧ IntOk x.count ∧ (AllOk 1 AnyOk) x.data

theorem Got.rep_iff {w : World} {S : Nat → Prop} {x : Got} {cs : List Value} : Got.rep.rep w S x cs ↔ ∃ (A0 : Option Addr) (c0 : Nat), cs = [.int .i64 x.at_, .int .i64 x.count, .slice A0 x.data.length c0] ∧ SlRep Rep.u8 w S x.data A0 c0 := by
  constructor
  · intro h
    obtain ⟨_, _, rfl, rfl, ⟨_, _, rfl, rfl, ⟨_, _, rfl, ⟨A0, c0, rfl, h0⟩, rfl⟩⟩⟩ := h
    exact ⟨A0, c0, rfl, h0⟩
  · rintro ⟨A0, c0, rfl, h0⟩
    exact ⟨_, _, rfl, rfl, ⟨_, _, rfl, rfl, ⟨_, _, rfl, ⟨A0, c0, rfl, h0⟩, rfl⟩⟩⟩

theorem Got.cells_at (z : Got) {w : World} {S : Nat → Prop} {l : List Got} {A : Option Addr} {c k : Nat} (h : SlRep Got.rep w S l A c) (hk : k < l.length) :
    ∃ b o, A = some ⟨b, o, none⟩ ∧ S b ∧ ∃ (A0 : Option Addr) (c0 : Nat), w.cell? ⟨b, o + k * 3, none⟩ = some (.int .i64 (l.getD k z).at_) ∧ w.cell? ⟨b, o + k * 3 + 1, none⟩ = some (.int .i64 (l.getD k z).count) ∧ w.cell? ⟨b, o + k * 3 + 2, none⟩ = some (.slice A0 (l.getD k z).data.length c0) ∧ SlRep Rep.u8 w S (l.getD k z).data A0 c0 := by
  rcases h.2.2 with rfl | ⟨b, o, rfl, hb, hr⟩
  · simp at hk
  · obtain ⟨cs, hcs, hc⟩ := hr k (l.getD k z) (by rw [List.getD_eq_getElem?_getD, List.getElem?_eq_getElem hk]; rfl)
    obtain ⟨A0, c0, rfl, h0⟩ := Got.rep_iff.1 hcs
    exact ⟨b, o, rfl, hb, A0, c0, hc 0 _ rfl, hc 1 _ rfl, hc 2 _ rfl, h0⟩

set_option maxRecDepth 100000 in
theorem opens_Got : Opens Try.prog Got.rep Got.ok 66 :=
  opens_weak (opens_via Got.tup (fun b => ⟨b.1, b.2.1, b.2.2.1⟩) (fun _ => rfl) (opens_struct Try.underlying66 (by kernel_rfl) (opensF_cons (opens_int Try.underlying3 (by kernel_rfl)) rfl (opensF_cons (opens_int Try.underlying3 (by kernel_rfl)) rfl (opensF_cons (opens_slice Try.underlying28 (by kernel_rfl) (by decide) (by kernel_rfl) (opens_u8 Try.underlying5 (by kernel_rfl))) rfl (opensF_nil _)))))) (fun a ho => by
    obtain ⟨h0, ⟨h1, ⟨h2, _⟩⟩⟩ := ho
    exact ⟨h0, h1, h2⟩)

structure Next where
  code : Int
  wants : List Want
  done : Bool
  data : List UInt8
  deriving DecidableEq

def Next.tup (x : Next) : Int × (List Want) × Bool × (List UInt8) × Unit := (x.code, x.wants, x.done, x.data, ())

def Next.rep : Rep Next := Rep.via Next.tup (Rep.pair Rep.int (Rep.pair (Rep.slice Want.rep) (Rep.pair Rep.bool (Rep.pair (Rep.slice Rep.u8) Rep.unit))))

def Next.ok (x : Next) : Prop := IntOk x.code ∧ (AllOk 16 Want.ok) x.wants ∧ (AllOk 1 AnyOk) x.data

theorem Next.rep_iff {w : World} {S : Nat → Prop} {x : Next} {cs : List Value} : Next.rep.rep w S x cs ↔ ∃ (A0 : Option Addr) (c0 : Nat) (A1 : Option Addr) (c1 : Nat), cs = [.int .i64 x.code, .slice A0 x.wants.length c0, .bool x.done, .slice A1 x.data.length c1] ∧ SlRep Want.rep w S x.wants A0 c0 ∧ SlRep Rep.u8 w S x.data A1 c1 := by
  constructor
  · intro h
    obtain ⟨_, _, rfl, rfl, ⟨_, _, rfl, ⟨A0, c0, rfl, h0⟩, ⟨_, _, rfl, rfl, ⟨_, _, rfl, ⟨A1, c1, rfl, h1⟩, rfl⟩⟩⟩⟩ := h
    exact ⟨A0, c0, A1, c1, rfl, h0, h1⟩
  · rintro ⟨A0, c0, A1, c1, rfl, h0, h1⟩
    exact ⟨_, _, rfl, rfl, ⟨_, _, rfl, ⟨A0, c0, rfl, h0⟩, ⟨_, _, rfl, rfl, ⟨_, _, rfl, ⟨A1, c1, rfl, h1⟩, rfl⟩⟩⟩⟩

theorem Next.cells_at (z : Next) {w : World} {S : Nat → Prop} {l : List Next} {A : Option Addr} {c k : Nat} (h : SlRep Next.rep w S l A c) (hk : k < l.length) :
    ∃ b o, A = some ⟨b, o, none⟩ ∧ S b ∧ ∃ (A0 : Option Addr) (c0 : Nat) (A1 : Option Addr) (c1 : Nat), w.cell? ⟨b, o + k * 4, none⟩ = some (.int .i64 (l.getD k z).code) ∧ w.cell? ⟨b, o + k * 4 + 1, none⟩ = some (.slice A0 (l.getD k z).wants.length c0) ∧ w.cell? ⟨b, o + k * 4 + 2, none⟩ = some (.bool (l.getD k z).done) ∧ w.cell? ⟨b, o + k * 4 + 3, none⟩ = some (.slice A1 (l.getD k z).data.length c1) ∧ SlRep Want.rep w S (l.getD k z).wants A0 c0 ∧ SlRep Rep.u8 w S (l.getD k z).data A1 c1 := by
  rcases h.2.2 with rfl | ⟨b, o, rfl, hb, hr⟩
  · simp at hk
  · obtain ⟨cs, hcs, hc⟩ := hr k (l.getD k z) (by rw [List.getD_eq_getElem?_getD, List.getElem?_eq_getElem hk]; rfl)
    obtain ⟨A0, c0, A1, c1, rfl, h0, h1⟩ := Next.rep_iff.1 hcs
    exact ⟨b, o, rfl, hb, A0, c0, A1, c1, hc 0 _ rfl, hc 1 _ rfl, hc 2 _ rfl, hc 3 _ rfl, h0, h1⟩

set_option maxRecDepth 100000 in
theorem opens_Next : Opens Try.prog Next.rep Next.ok 30 :=
  opens_weak (opens_via Next.tup (fun b => ⟨b.1, b.2.1, b.2.2.1, b.2.2.2.1⟩) (fun _ => rfl) (opens_struct Try.underlying30 (by kernel_rfl) (opensF_cons (opens_int Try.underlying3 (by kernel_rfl)) rfl (opensF_cons (opens_slice Try.underlying27 (by kernel_rfl) (by decide) (by kernel_rfl) opens_Want) rfl (opensF_cons (opens_bool Try.underlying4 (by kernel_rfl)) rfl (opensF_cons (opens_slice Try.underlying28 (by kernel_rfl) (by decide) (by kernel_rfl) (opens_u8 Try.underlying5 (by kernel_rfl))) rfl (opensF_nil _))))))) (fun a ho => by
    obtain ⟨h0, ⟨h1, ⟨h2, ⟨h3, _⟩⟩⟩⟩ := ho
    exact ⟨h0, h1, h3⟩)

end Go.Proofs.Ytdldfllllgogoaa
