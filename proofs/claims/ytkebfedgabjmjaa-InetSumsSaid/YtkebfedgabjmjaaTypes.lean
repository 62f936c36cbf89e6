/- The Go structs of package api as Lean structures, their readings in memory, and what opens them. No condition. Written by a program of this prover's. -/
import Derived.Test.YtkebfedgabjmjaaLib
namespace Go.Proofs.Ytkebfedgabjmjaa
open Go.RowKit

def SlRep {α : Type} (R : Rep α) (w : World) (S : Nat → Prop) (l : List α) (A : Option Addr) (c : Nat) : Prop :=
  l.length ≤ c ∧ c ≤ maxLen ∧ (l = [] ∨ ∃ b o, A = some ⟨b, o, none⟩ ∧ S b ∧ R.at_ w S b o l)
theorem rep_slice_iff {α : Type} {R : Rep α} {w : World} {S : Nat → Prop} {l : List α} {cs : List Value} : (Rep.slice R).rep w S l cs ↔ ∃ A c, cs = [.slice A l.length c] ∧ SlRep R w S l A c := Iff.rfl
theorem rep_slice_val {α : Type} {R : Rep α} {w : World} {S : Nat → Prop} {l : List α} {A : Option Addr} {n c : Nat} : (Rep.slice R).rep w S l [.slice A n c] ↔ n = l.length ∧ SlRep R w S l A c := by
  constructor
  · rintro ⟨A', c', e, h⟩
    simp only [List.cons.injEq, Value.slice.injEq, and_true] at e
    obtain ⟨rfl, rfl, rfl⟩ := e
    exact ⟨rfl, h⟩
  · rintro ⟨rfl, h⟩
    exact ⟨A, c, rfl, h⟩

theorem SlRep.keep {α : Type} {R : Rep α} {w w' : World} {S S' : Nat → Prop} {l : List α} {A : Option Addr} {c : Nat} (h : SlRep R w S l A c) (hk : ∀ k, S k → S' k ∧ w'.heap[k]? = w.heap[k]?) : SlRep R w' S' l A c :=
  (rep_slice_val.1 ((Rep.slice R).mono (rep_slice_val.2 ⟨rfl, h⟩) hk)).2
theorem SlRep.below {α : Type} {R : Rep α} {w0 w w' : World} {l : List α} {A : Option Addr} {c : Nat} (h : SlRep R w (· < w0.heap.size) l A c) (hb : Below w0.heap.size w w') : SlRep R w' (· < w0.heap.size) l A c :=
  h.keep fun k hk => ⟨hk, hb.block k hk⟩
theorem u8_at {w : World} {S : Nat → Prop} {l : List UInt8} {A : Option Addr} {c k : Nat} (h : SlRep Rep.u8 w S l A c) (hk : k < l.length) :
    ∃ b o, A = some ⟨b, o, none⟩ ∧ S b ∧ w.cell? ⟨b, o + k, none⟩ = some (.int .u8 ((l.getD k 0).toNat : Int)) := by
  rcases h.2.2 with rfl | ⟨b, o, rfl, hb, hr⟩
  · simp at hk
  · obtain ⟨cs, hcs, hc⟩ := hr k (l.getD k 0) (by rw [List.getD_eq_getElem?_getD, List.getElem?_eq_getElem hk]; rfl)
    subst hcs
    have := hc 0 _ rfl
    exact ⟨b, o, rfl, hb, by simpa [Rep.u8] using this⟩
theorem int_at {w : World} {S : Nat → Prop} {l : List Int} {A : Option Addr} {c k : Nat} (h : SlRep Rep.int w S l A c) (hk : k < l.length) :
    ∃ b o, A = some ⟨b, o, none⟩ ∧ S b ∧ w.cell? ⟨b, o + k, none⟩ = some (.int .i64 (l.getD k 0)) := by
  rcases h.2.2 with rfl | ⟨b, o, rfl, hb, hr⟩
  · simp at hk
  · obtain ⟨cs, hcs, hc⟩ := hr k (l.getD k 0) (by rw [List.getD_eq_getElem?_getD, List.getElem?_eq_getElem hk]; rfl)
    subst hcs
    have := hc 0 _ rfl
    exact ⟨b, o, rfl, hb, by simpa [Rep.int] using this⟩

structure Rng where
  lo : Int
  hi : Int
  deriving DecidableEq

def Rng.tup (x : Rng) : Int × Int × Unit := (x.lo, x.hi, ())

def Rng.rep : Rep Rng := Rep.via Rng.tup (Rep.pair Rep.int (Rep.pair Rep.int Rep.unit))

def Rng.ok (x : Rng) : Prop := IntOk x.lo ∧ IntOk x.hi

def Rng.cells (x : Rng) : List Value := [.int .i64 x.lo, .int .i64 x.hi]
theorem Rng.rep_iff {w : World} {S : Nat → Prop} {x : Rng} {cs : List Value} : Rng.rep.rep w S x cs ↔ cs = Rng.cells x := by
  constructor
  · intro h
    obtain ⟨_, _, rfl, rfl, ⟨_, _, rfl, rfl, rfl⟩⟩ := h
    rfl
  · rintro rfl
    exact ⟨_, _, rfl, rfl, ⟨_, _, rfl, rfl, rfl⟩⟩

theorem opens_Rng : Opens Try.prog Rng.rep Rng.ok 56 :=
  opens_weak (opens_via Rng.tup (fun b => ⟨b.1, b.2.1⟩) (fun _ => rfl) (opens_struct Try.underlying56 (by kernel_rfl) (opensF_cons (opens_int Try.underlying3 (by kernel_rfl)) rfl (opensF_cons (opens_int Try.underlying3 (by kernel_rfl)) rfl (opensF_nil _))))) (fun a ho => by
    obtain ⟨h0, ⟨h1, _⟩⟩ := ho
    exact ⟨h0, h1⟩)

structure Segment where
  seq : Int
  ack : Int
  window : Int
  syn : Bool
  fin : Bool
  rst : Bool
  acks : Bool
  sacks : List Rng
  data : List UInt8
  deriving DecidableEq

def Segment.tup (x : Segment) : Int × Int × Int × Bool × Bool × Bool × Bool × (List Rng) × (List UInt8) × Unit := (x.seq, x.ack, x.window, x.syn, x.fin, x.rst, x.acks, x.sacks, x.data, ())

def Segment.rep : Rep Segment := Rep.via Segment.tup (Rep.pair Rep.int (Rep.pair Rep.int (Rep.pair Rep.int (Rep.pair Rep.bool (Rep.pair Rep.bool (Rep.pair Rep.bool (Rep.pair Rep.bool (Rep.pair (Rep.slice Rng.rep) (Rep.pair (Rep.slice Rep.u8) Rep.unit)))))))))

def Segment.ok (x : Segment) : Prop := IntOk x.seq ∧ IntOk x.ack ∧ IntOk x.window ∧ (AllOk 16 Rng.ok) x.sacks ∧ (AllOk 1 AnyOk) x.data

theorem Segment.rep_iff {w : World} {S : Nat → Prop} {x : Segment} {cs : List Value} : Segment.rep.rep w S x cs ↔ ∃ (A0 : Option Addr) (c0 : Nat) (A1 : Option Addr) (c1 : Nat), cs = [.int .i64 x.seq, .int .i64 x.ack, .int .i64 x.window, .bool x.syn, .bool x.fin, .bool x.rst, .bool x.acks, .slice A0 x.sacks.length c0, .slice A1 x.data.length c1] ∧ SlRep Rng.rep w S x.sacks A0 c0 ∧ SlRep Rep.u8 w S x.data A1 c1 := by
  constructor
  · intro h
    obtain ⟨_, _, rfl, rfl, ⟨_, _, rfl, rfl, ⟨_, _, rfl, rfl, ⟨_, _, rfl, rfl, ⟨_, _, rfl, rfl, ⟨_, _, rfl, rfl, ⟨_, _, rfl, rfl, ⟨_, _, rfl, ⟨A0, c0, rfl, h0⟩, ⟨_, _, rfl, ⟨A1, c1, rfl, h1⟩, rfl⟩⟩⟩⟩⟩⟩⟩⟩⟩ := h
    exact ⟨A0, c0, A1, c1, rfl, h0, h1⟩
  · rintro ⟨A0, c0, A1, c1, rfl, h0, h1⟩
    exact ⟨_, _, rfl, rfl, ⟨_, _, rfl, rfl, ⟨_, _, rfl, rfl, ⟨_, _, rfl, rfl, ⟨_, _, rfl, rfl, ⟨_, _, rfl, rfl, ⟨_, _, rfl, rfl, ⟨_, _, rfl, ⟨A0, c0, rfl, h0⟩, ⟨_, _, rfl, ⟨A1, c1, rfl, h1⟩, rfl⟩⟩⟩⟩⟩⟩⟩⟩⟩

theorem opens_Segment : Opens Try.prog Segment.rep Segment.ok 35 :=
  opens_weak (opens_via Segment.tup (fun b => ⟨b.1, b.2.1, b.2.2.1, b.2.2.2.1, b.2.2.2.2.1, b.2.2.2.2.2.1, b.2.2.2.2.2.2.1, b.2.2.2.2.2.2.2.1, b.2.2.2.2.2.2.2.2.1⟩) (fun _ => rfl) (opens_struct Try.underlying35 (by kernel_rfl) (opensF_cons (opens_int Try.underlying3 (by kernel_rfl)) rfl (opensF_cons (opens_int Try.underlying3 (by kernel_rfl)) rfl (opensF_cons (opens_int Try.underlying3 (by kernel_rfl)) rfl (opensF_cons (opens_bool Try.underlying4 (by kernel_rfl)) rfl (opensF_cons (opens_bool Try.underlying4 (by kernel_rfl)) rfl (opensF_cons (opens_bool Try.underlying4 (by kernel_rfl)) rfl (opensF_cons (opens_bool Try.underlying4 (by kernel_rfl)) rfl (opensF_cons (opens_slice Try.underlying33 (by kernel_rfl) (by decide) (by kernel_rfl) opens_Rng) rfl (opensF_cons (opens_slice Try.underlying29 (by kernel_rfl) (by decide) (by kernel_rfl) (opens_u8 Try.underlying5 (by kernel_rfl))) rfl (opensF_nil _)))))))))))) (fun a ho => by
    obtain ⟨h0, ⟨h1, ⟨h2, ⟨h3, ⟨h4, ⟨h5, ⟨h6, ⟨h7, ⟨h8, _⟩⟩⟩⟩⟩⟩⟩⟩⟩ := ho
    exact ⟨h0, h1, h2, h7, h8⟩)

end Go.Proofs.Ytkebfedgabjmjaa
