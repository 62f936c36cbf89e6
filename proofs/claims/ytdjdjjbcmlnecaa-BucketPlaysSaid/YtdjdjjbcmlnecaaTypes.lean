/- The Go structs of package api as Lean structures, their readings in memory, and what opens them. No condition. Written by a program of this prover's. -/
import Derived.Test.YtdjdjjbcmlnecaaLib
namespace Go.Proofs.Ytdjdjjbcmlnecaa
open Go.RowKit

def SlRep {α : Type} (R : Rep α) (w : World) (S : Nat → Prop) (l : List α) (A : Option Addr) (c : Nat) : Prop :=
  l.length ≤ c ∧ c ≤ maxLen ∧ (l = [] ∨ ∃ b o, A = some ⟨b, o, none⟩ ∧ S b ∧ R.at_ w S b o l)
theorem rep_slice_iff {α : Type} {R : Rep α} {w : World} {S : Nat → Prop} {l : List α} {cs : List Value} : (Rep.slice R).rep w S l cs ↔ ∃ A c, cs = [.slice A l.length c] ∧ SlRep R w S l A c := Iff.rfl
theorem rep_slice_val {α : Type} {R : Rep α} {w : World} {S : Nat → Prop} {l : List α} {A : Option Addr} {n c : Nat} : (Rep.slice R).rep w S l [.slice A n c] ↔ n = l.length ∧ SlRep R w S l A c := by
  constructor
  · rintro ⟨A', c', e, h⟩
    simp only [List.cons.injEq, Value.slice.injEq, and_true] at e
    obtain ⟨rfl, rfl, rfl⟩ := e
    exact ⟨rfl, h⟩
  · rintro ⟨rfl, h⟩
    exact ⟨A, c, rfl, h⟩

theorem SlRep.keep {α : Type} {R : Rep α} {w w' : World} {S S' : Nat → Prop} {l : List α} {A : Option Addr} {c : Nat} (h : SlRep R w S l A c) (hk : ∀ k, S k → S' k ∧ w'.heap[k]? = w.heap[k]?) : SlRep R w' S' l A c :=
  (rep_slice_val.1 ((Rep.slice R).mono (rep_slice_val.2 ⟨rfl, h⟩) hk)).2
theorem SlRep.below {α : Type} {R : Rep α} {w0 w w' : World} {l : List α} {A : Option Addr} {c : Nat} (h : SlRep R w (· < w0.heap.size) l A c) (hb : Below w0.heap.size w w') : SlRep R w' (· < w0.heap.size) l A c :=
  h.keep fun k hk => ⟨hk, hb.block k hk⟩
theorem SlRep.next {α : Type} {R : Rep α} {w w' : World} {l : List α} {A : Option Addr} {c : Nat} (h : SlRep R w (· < w.heap.size) l A c) (hb : Below w.heap.size w w') : SlRep R w' (· < w'.heap.size) l A c :=
  h.keep fun k hk => ⟨Nat.lt_of_lt_of_le hk hb.size, hb.block k hk⟩
theorem u8_at {w : World} {S : Nat → Prop} {l : List UInt8} {A : Option Addr} {c k : Nat} (h : SlRep Rep.u8 w S l A c) (hk : k < l.length) :
    ∃ b o, A = some ⟨b, o, none⟩ ∧ S b ∧ w.cell? ⟨b, o + k, none⟩ = some (.int .u8 ((l.getD k 0).toNat : Int)) := by
  rcases h.2.2 with rfl | ⟨b, o, rfl, hb, hr⟩
  · simp at hk
  · obtain ⟨cs, hcs, hc⟩ := hr k (l.getD k 0) (by rw [List.getD_eq_getElem?_getD, List.getElem?_eq_getElem hk]; rfl)
    subst hcs
    have := hc 0 _ rfl
    exact ⟨b, o, rfl, hb, by simpa [Rep.u8] using this⟩
theorem int_at {w : World} {S : Nat → Prop} {l : List Int} {A : Option Addr} {c k : Nat} (h : SlRep Rep.int w S l A c) (hk : k < l.length) :
    ∃ b o, A = some ⟨b, o, none⟩ ∧ S b ∧ w.cell? ⟨b, o + k, none⟩ = some (.int .i64 (l.getD k 0)) := by
  rcases h.2.2 with rfl | ⟨b, o, rfl, hb, hr⟩
  · simp at hk
  · obtain ⟨cs, hcs, hc⟩ := hr k (l.getD k 0) (by rw [List.getD_eq_getElem?_getD, List.getElem?_eq_getElem hk]; rfl)
    subst hcs
    have := hc 0 _ rfl
    exact ⟨b, o, rfl, hb, by simpa [Rep.int] using this⟩

structure Rng where
  lo : Int
  hi : Int
  deriving DecidableEq

def Rng.tup (x : Rng) : Int × Int × Unit := (x.lo, x.hi, ())

def Rng.rep : Rep Rng := Rep.via Rng.tup (Rep.pair Rep.int (Rep.pair Rep.int Rep.unit))

def Rng.ok (x : Rng) : Prop := IntOk x.lo ∧ IntOk x.hi

def Rng.cells (x : Rng) : List Value := [.int .i64 x.lo, .int .i64 x.hi]
theorem Rng.rep_iff {w : World} {S : Nat → Prop} {x : Rng} {cs : List Value} : Rng.rep.rep w S x cs ↔ cs = Rng.cells x := by
  constructor
  · intro h
    obtain ⟨_, _, rfl, rfl, ⟨_, _, rfl, rfl, rfl⟩⟩ := h
    rfl
  · rintro rfl
    exact ⟨_, _, rfl, rfl, ⟨_, _, rfl, rfl, rfl⟩⟩

theorem Rng.enc (w : World) (S : Nat → Prop) (x : Rng) : Rng.rep.rep w S x (Rng.cells x) := Rng.rep_iff.2 rfl
theorem Rng.one (l : List Rng) : ∀ u ∈ l.flatMap Rng.cells, u.oneCell' = true := by
  intro u hu
  obtain ⟨x, _, hx⟩ := List.mem_flatMap.1 hu
  simp only [Rng.cells, List.mem_cons, List.not_mem_nil, or_false] at hx
  rcases hx with rfl | rfl <;> rfl

theorem Rng.cells_at (z : Rng) {w : World} {S : Nat → Prop} {l : List Rng} {A : Option Addr} {c k : Nat} (h : SlRep Rng.rep w S l A c) (hk : k < l.length) :
    ∃ b o, A = some ⟨b, o, none⟩ ∧ S b ∧ w.cell? ⟨b, o + k * 2, none⟩ = some (.int .i64 (l.getD k z).lo) ∧ w.cell? ⟨b, o + k * 2 + 1, none⟩ = some (.int .i64 (l.getD k z).hi) := by
  rcases h.2.2 with rfl | ⟨b, o, rfl, hb, hr⟩
  · simp at hk
  · obtain ⟨cs, hcs, hc⟩ := hr k (l.getD k z) (by rw [List.getD_eq_getElem?_getD, List.getElem?_eq_getElem hk]; rfl)
    rw [Rng.rep_iff] at hcs
    subst hcs
    exact ⟨b, o, rfl, hb, hc 0 _ rfl, hc 1 _ rfl⟩

theorem opens_Rng : Opens Try.prog Rng.rep Rng.ok 56 :=
  opens_weak (opens_via Rng.tup (fun b => ⟨b.1, b.2.1⟩) (fun _ => rfl) (opens_struct Try.underlying56 (by kernel_rfl) (opensF_cons (opens_int Try.underlying3 (by kernel_rfl)) rfl (opensF_cons (opens_int Try.underlying3 (by kernel_rfl)) rfl (opensF_nil _))))) (fun a ho => by
    obtain ⟨h0, ⟨h1, _⟩⟩ := ho
    exact ⟨h0, h1⟩)

structure Timer where
  srtt : Int
  var : Int
  wait : Int
  backs : Int
  deriving DecidableEq

def Timer.tup (x : Timer) : Int × Int × Int × Int × Unit := (x.srtt, x.var, x.wait, x.backs, ())

def Timer.rep : Rep Timer := Rep.via Timer.tup (Rep.pair Rep.int (Rep.pair Rep.int (Rep.pair Rep.int (Rep.pair Rep.int Rep.unit))))

def Timer.ok (x : Timer) : Prop := IntOk x.srtt ∧ IntOk x.var ∧ IntOk x.wait ∧ IntOk x.backs

def Timer.cells (x : Timer) : List Value := [.int .i64 x.srtt, .int .i64 x.var, .int .i64 x.wait, .int .i64 x.backs]
theorem Timer.rep_iff {w : World} {S : Nat → Prop} {x : Timer} {cs : List Value} : Timer.rep.rep w S x cs ↔ cs = Timer.cells x := by
  constructor
  · intro h
    obtain ⟨_, _, rfl, rfl, ⟨_, _, rfl, rfl, ⟨_, _, rfl, rfl, ⟨_, _, rfl, rfl, rfl⟩⟩⟩⟩ := h
    rfl
  · rintro rfl
    exact ⟨_, _, rfl, rfl, ⟨_, _, rfl, rfl, ⟨_, _, rfl, rfl, ⟨_, _, rfl, rfl, rfl⟩⟩⟩⟩

theorem Timer.enc (w : World) (S : Nat → Prop) (x : Timer) : Timer.rep.rep w S x (Timer.cells x) := Timer.rep_iff.2 rfl
theorem Timer.one (l : List Timer) : ∀ u ∈ l.flatMap Timer.cells, u.oneCell' = true := by
  intro u hu
  obtain ⟨x, _, hx⟩ := List.mem_flatMap.1 hu
  simp only [Timer.cells, List.mem_cons, List.not_mem_nil, or_false] at hx
  rcases hx with rfl | rfl | rfl | rfl <;> rfl

theorem Timer.cells_at (z : Timer) {w : World} {S : Nat → Prop} {l : List Timer} {A : Option Addr} {c k : Nat} (h : SlRep Timer.rep w S l A c) (hk : k < l.length) :
    ∃ b o, A = some ⟨b, o, none⟩ ∧ S b ∧ w.cell? ⟨b, o + k * 4, none⟩ = some (.int .i64 (l.getD k z).srtt) ∧ w.cell? ⟨b, o + k * 4 + 1, none⟩ = some (.int .i64 (l.getD k z).var) ∧ w.cell? ⟨b, o + k * 4 + 2, none⟩ = some (.int .i64 (l.getD k z).wait) ∧ w.cell? ⟨b, o + k * 4 + 3, none⟩ = some (.int .i64 (l.getD k z).backs) := by
  rcases h.2.2 with rfl | ⟨b, o, rfl, hb, hr⟩
  · simp at hk
  · obtain ⟨cs, hcs, hc⟩ := hr k (l.getD k z) (by rw [List.getD_eq_getElem?_getD, List.getElem?_eq_getElem hk]; rfl)
    rw [Timer.rep_iff] at hcs
    subst hcs
    exact ⟨b, o, rfl, hb, hc 0 _ rfl, hc 1 _ rfl, hc 2 _ rfl, hc 3 _ rfl⟩

theorem opens_Timer : Opens Try.prog Timer.rep Timer.ok 27 :=
  opens_weak (opens_via Timer.tup (fun b => ⟨b.1, b.2.1, b.2.2.1, b.2.2.2.1⟩) (fun _ => rfl) (opens_struct Try.underlying27 (by kernel_rfl) (opensF_cons (opens_int Try.underlying3 (by kernel_rfl)) rfl (opensF_cons (opens_int Try.underlying3 (by kernel_rfl)) rfl (opensF_cons (opens_int Try.underlying3 (by kernel_rfl)) rfl (opensF_cons (opens_int Try.underlying3 (by kernel_rfl)) rfl (opensF_nil _))))))) (fun a ho => by
    obtain ⟨h0, ⟨h1, ⟨h2, ⟨h3, _⟩⟩⟩⟩ := ho
    exact ⟨h0, h1, h2, h3⟩)

structure Packet where
  at_ : Int
  size : Int
  deriving DecidableEq

def Packet.tup (x : Packet) : Int × Int × Unit := (x.at_, x.size, ())

def Packet.rep : Rep Packet := Rep.via Packet.tup (Rep.pair Rep.int (Rep.pair Rep.int Rep.unit))

def Packet.ok (x : Packet) : Prop := IntOk x.at_ ∧ IntOk x.size

def Packet.cells (x : Packet) : List Value := [.int .i64 x.at_, .int .i64 x.size]
theorem Packet.rep_iff {w : World} {S : Nat → Prop} {x : Packet} {cs : List Value} : Packet.rep.rep w S x cs ↔ cs = Packet.cells x := by
  constructor
  · intro h
    obtain ⟨_, _, rfl, rfl, ⟨_, _, rfl, rfl, rfl⟩⟩ := h
    rfl
  · rintro rfl
    exact ⟨_, _, rfl, rfl, ⟨_, _, rfl, rfl, rfl⟩⟩

theorem Packet.enc (w : World) (S : Nat → Prop) (x : Packet) : Packet.rep.rep w S x (Packet.cells x) := Packet.rep_iff.2 rfl
theorem Packet.one (l : List Packet) : ∀ u ∈ l.flatMap Packet.cells, u.oneCell' = true := by
  intro u hu
  obtain ⟨x, _, hx⟩ := List.mem_flatMap.1 hu
  simp only [Packet.cells, List.mem_cons, List.not_mem_nil, or_false] at hx
  rcases hx with rfl | rfl <;> rfl

theorem Packet.cells_at (z : Packet) {w : World} {S : Nat → Prop} {l : List Packet} {A : Option Addr} {c k : Nat} (h : SlRep Packet.rep w S l A c) (hk : k < l.length) :
    ∃ b o, A = some ⟨b, o, none⟩ ∧ S b ∧ w.cell? ⟨b, o + k * 2, none⟩ = some (.int .i64 (l.getD k z).at_) ∧ w.cell? ⟨b, o + k * 2 + 1, none⟩ = some (.int .i64 (l.getD k z).size) := by
  rcases h.2.2 with rfl | ⟨b, o, rfl, hb, hr⟩
  · simp at hk
  · obtain ⟨cs, hcs, hc⟩ := hr k (l.getD k z) (by rw [List.getD_eq_getElem?_getD, List.getElem?_eq_getElem hk]; rfl)
    rw [Packet.rep_iff] at hcs
    subst hcs
    exact ⟨b, o, rfl, hb, hc 0 _ rfl, hc 1 _ rfl⟩

theorem opens_Packet : Opens Try.prog Packet.rep Packet.ok 66 :=
  opens_weak (opens_via Packet.tup (fun b => ⟨b.1, b.2.1⟩) (fun _ => rfl) (opens_struct Try.underlying66 (by kernel_rfl) (opensF_cons (opens_int Try.underlying3 (by kernel_rfl)) rfl (opensF_cons (opens_int Try.underlying3 (by kernel_rfl)) rfl (opensF_nil _))))) (fun a ho => by
    obtain ⟨h0, ⟨h1, _⟩⟩ := ho
    exact ⟨h0, h1⟩)

end Go.Proofs.Ytdjdjjbcmlnecaa
