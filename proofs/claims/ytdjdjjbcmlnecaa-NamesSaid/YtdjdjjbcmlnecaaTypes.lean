/- The Go structs of package api as Lean structures, their readings in memory, and what opens them. No condition. Written by a program of this prover's. -/
import Derived.Test.YtdjdjjbcmlnecaaLib
namespace Go.Proofs.Ytdjdjjbcmlnecaa
open Go.RowKit

def SlRep {α : Type} (R : Rep α) (w : World) (S : Nat → Prop) (l : List α) (A : Option Addr) (c : Nat) : Prop :=
  l.length ≤ c ∧ c ≤ maxLen ∧ (l = [] ∨ ∃ b o, A = some ⟨b, o, none⟩ ∧ S b ∧ R.at_ w S b o l)
theorem rep_slice_iff {α : Type} {R : Rep α} {w : World} {S : Nat → Prop} {l : List α} {cs : List Value} : (Rep.slice R).rep w S l cs ↔ ∃ A c, cs = [.slice A l.length c] ∧ SlRep R w S l A c := Iff.rfl
theorem rep_slice_val {α : Type} {R : Rep α} {w : World} {S : Nat → Prop} {l : List α} {A : Option Addr} {n c : Nat} : (Rep.slice R).rep w S l [.slice A n c] ↔ n = l.length ∧ SlRep R w S l A c := by
  constructor
  · rintro ⟨A', c', e, h⟩
    simp only [List.cons.injEq, Value.slice.injEq, and_true] at e
    obtain ⟨rfl, rfl, rfl⟩ := e
    exact ⟨rfl, h⟩
  · rintro ⟨rfl, h⟩
    exact ⟨A, c, rfl, h⟩

structure Rng where
  lo : Int
  hi : Int
  deriving DecidableEq

def Rng.tup (x : Rng) : Int × Int × Unit := (x.lo, x.hi, ())

def Rng.rep : Rep Rng := Rep.via Rng.tup (Rep.pair Rep.int (Rep.pair Rep.int Rep.unit))

def Rng.ok (x : Rng) : Prop := IntOk x.lo ∧ IntOk x.hi

def Rng.cells (x : Rng) : List Value := [.int .i64 x.lo, .int .i64 x.hi]
theorem Rng.rep_iff {w : World} {S : Nat → Prop} {x : Rng} {cs : List Value} : Rng.rep.rep w S x cs ↔ cs = Rng.cells x := by
  constructor
  · intro h
    obtain ⟨_, _, rfl, rfl, ⟨_, _, rfl, rfl, rfl⟩⟩ := h
    rfl
  · rintro rfl
    exact ⟨_, _, rfl, rfl, ⟨_, _, rfl, rfl, rfl⟩⟩

theorem opens_Rng : Opens Try.prog Rng.rep Rng.ok 56 :=
  opens_weak (opens_via Rng.tup (fun b => ⟨b.1, b.2.1⟩) (fun _ => rfl) (opens_struct Try.underlying56 (by kernel_rfl) (opensF_cons (opens_int Try.underlying3 (by kernel_rfl)) rfl (opensF_cons (opens_int Try.underlying3 (by kernel_rfl)) rfl (opensF_nil _))))) (fun a ho => by
    obtain ⟨h0, ⟨h1, _⟩⟩ := ho
    exact ⟨h0, h1⟩)

structure Timer where
  srtt : Int
  var : Int
  wait : Int
  backs : Int
  deriving DecidableEq

def Timer.tup (x : Timer) : Int × Int × Int × Int × Unit := (x.srtt, x.var, x.wait, x.backs, ())

def Timer.rep : Rep Timer := Rep.via Timer.tup (Rep.pair Rep.int (Rep.pair Rep.int (Rep.pair Rep.int (Rep.pair Rep.int Rep.unit))))

def Timer.ok (x : Timer) : Prop := IntOk x.srtt ∧ IntOk x.var ∧ IntOk x.wait ∧ IntOk x.backs

def Timer.cells (x : Timer) : List Value := [.int .i64 x.srtt, .int .i64 x.var, .int .i64 x.wait, .int .i64 x.backs]
theorem Timer.rep_iff {w : World} {S : Nat → Prop} {x : Timer} {cs : List Value} : Timer.rep.rep w S x cs ↔ cs = Timer.cells x := by
  constructor
  · intro h
    obtain ⟨_, _, rfl, rfl, ⟨_, _, rfl, rfl, ⟨_, _, rfl, rfl, ⟨_, _, rfl, rfl, rfl⟩⟩⟩⟩ := h
    rfl
  · rintro rfl
    exact ⟨_, _, rfl, rfl, ⟨_, _, rfl, rfl, ⟨_, _, rfl, rfl, ⟨_, _, rfl, rfl, rfl⟩⟩⟩⟩

theorem opens_Timer : Opens Try.prog Timer.rep Timer.ok 27 :=
  opens_weak (opens_via Timer.tup (fun b => ⟨b.1, b.2.1, b.2.2.1, b.2.2.2.1⟩) (fun _ => rfl) (opens_struct Try.underlying27 (by kernel_rfl) (opensF_cons (opens_int Try.underlying3 (by kernel_rfl)) rfl (opensF_cons (opens_int Try.underlying3 (by kernel_rfl)) rfl (opensF_cons (opens_int Try.underlying3 (by kernel_rfl)) rfl (opensF_cons (opens_int Try.underlying3 (by kernel_rfl)) rfl (opensF_nil _))))))) (fun a ho => by
    obtain ⟨h0, ⟨h1, ⟨h2, ⟨h3, _⟩⟩⟩⟩ := ho
    exact ⟨h0, h1, h2, h3⟩)

structure Packet where
  at_ : Int
  size : Int
  deriving DecidableEq

def Packet.tup (x : Packet) : Int × Int × Unit := (x.at_, x.size, ())

def Packet.rep : Rep Packet := Rep.via Packet.tup (Rep.pair Rep.int (Rep.pair Rep.int Rep.unit))

def Packet.ok (x : Packet) : Prop := IntOk x.at_ ∧ IntOk x.size

def Packet.cells (x : Packet) : List Value := [.int .i64 x.at_, .int .i64 x.size]
theorem Packet.rep_iff {w : World} {S : Nat → Prop} {x : Packet} {cs : List Value} : Packet.rep.rep w S x cs ↔ cs = Packet.cells x := by
  constructor
  · intro h
    obtain ⟨_, _, rfl, rfl, ⟨_, _, rfl, rfl, rfl⟩⟩ := h
    rfl
  · rintro rfl
    exact ⟨_, _, rfl, rfl, ⟨_, _, rfl, rfl, rfl⟩⟩

theorem opens_Packet : Opens Try.prog Packet.rep Packet.ok 66 :=
  opens_weak (opens_via Packet.tup (fun b => ⟨b.1, b.2.1⟩) (fun _ => rfl) (opens_struct Try.underlying66 (by kernel_rfl) (opensF_cons (opens_int Try.underlying3 (by kernel_rfl)) rfl (opensF_cons (opens_int Try.underlying3 (by kernel_rfl)) rfl (opensF_nil _))))) (fun a ho => by
    obtain ⟨h0, ⟨h1, _⟩⟩ := ho
    exact ⟨h0, h1⟩)

end Go.Proofs.Ytdjdjjbcmlnecaa
