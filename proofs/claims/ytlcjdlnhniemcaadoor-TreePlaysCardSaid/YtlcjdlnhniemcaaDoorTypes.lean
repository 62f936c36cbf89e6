/- The Go structs of package api as Lean structures, their readings in memory, and what opens them. No condition. Written by a program of this prover's. -/
import Derived.Test.YtlcjdlnhniemcaaDoorLib
namespace Go.Proofs.YtlcjdlnhniemcaaDoor
open Go.RowKit

def SlRep {α : Type} (R : Rep α) (w : World) (S : Nat → Prop) (l : List α) (A : Option Addr) (c : Nat) : Prop :=
  l.length ≤ c ∧ c ≤ maxLen ∧ (l = [] ∨ ∃ b o, A = some ⟨b, o, none⟩ ∧ S b ∧ R.at_ w S b o l)
theorem rep_slice_iff {α : Type} {R : Rep α} {w : World} {S : Nat → Prop} {l : List α} {cs : List Value} : (Rep.slice R).rep w S l cs ↔ ∃ A c, cs = [.slice A l.length c] ∧ SlRep R w S l A c := Iff.rfl
theorem rep_slice_val {α : Type} {R : Rep α} {w : World} {S : Nat → Prop} {l : List α} {A : Option Addr} {n c : Nat} : (Rep.slice R).rep w S l [.slice A n c] ↔ n = l.length ∧ SlRep R w S l A c := by
  constructor
  · rintro ⟨A', c', e, h⟩
    simp only [List.cons.injEq, Value.slice.injEq, and_true] at e
    obtain ⟨rfl, rfl, rfl⟩ := e
    exact ⟨rfl, h⟩
  · rintro ⟨rfl, h⟩
    exact ⟨A, c, rfl, h⟩

theorem SlRep.keep {α : Type} {R : Rep α} {w w' : World} {S S' : Nat → Prop} {l : List α} {A : Option Addr} {c : Nat} (h : SlRep R w S l A c) (hk : ∀ k, S k → S' k ∧ w'.heap[k]? = w.heap[k]?) : SlRep R w' S' l A c :=
  (rep_slice_val.1 ((Rep.slice R).mono (rep_slice_val.2 ⟨rfl, h⟩) hk)).2
theorem SlRep.below {α : Type} {R : Rep α} {w0 w w' : World} {l : List α} {A : Option Addr} {c : Nat} (h : SlRep R w (· < w0.heap.size) l A c) (hb : Below w0.heap.size w w') : SlRep R w' (· < w0.heap.size) l A c :=
  h.keep fun k hk => ⟨hk, hb.block k hk⟩
theorem SlRep.next {α : Type} {R : Rep α} {w w' : World} {l : List α} {A : Option Addr} {c : Nat} (h : SlRep R w (· < w.heap.size) l A c) (hb : Below w.heap.size w w') : SlRep R w' (· < w'.heap.size) l A c :=
  h.keep fun k hk => ⟨Nat.lt_of_lt_of_le hk hb.size, hb.block k hk⟩
theorem u8_at {w : World} {S : Nat → Prop} {l : List UInt8} {A : Option Addr} {c k : Nat} (h : SlRep Rep.u8 w S l A c) (hk : k < l.length) :
    ∃ b o, A = some ⟨b, o, none⟩ ∧ S b ∧ w.cell? ⟨b, o + k, none⟩ = some (.int .u8 ((l.getD k 0).toNat : Int)) := by
  rcases h.2.2 with rfl | ⟨b, o, rfl, hb, hr⟩
  · simp at hk
  · obtain ⟨cs, hcs, hc⟩ := hr k (l.getD k 0) (by rw [List.getD_eq_getElem?_getD, List.getElem?_eq_getElem hk]; rfl)
    subst hcs
    have := hc 0 _ rfl
    exact ⟨b, o, rfl, hb, by simpa [Rep.u8] using this⟩
theorem int_at {w : World} {S : Nat → Prop} {l : List Int} {A : Option Addr} {c k : Nat} (h : SlRep Rep.int w S l A c) (hk : k < l.length) :
    ∃ b o, A = some ⟨b, o, none⟩ ∧ S b ∧ w.cell? ⟨b, o + k, none⟩ = some (.int .i64 (l.getD k 0)) := by
  rcases h.2.2 with rfl | ⟨b, o, rfl, hb, hr⟩
  · simp at hk
  · obtain ⟨cs, hcs, hc⟩ := hr k (l.getD k 0) (by rw [List.getD_eq_getElem?_getD, List.getElem?_eq_getElem hk]; rfl)
    subst hcs
    have := hc 0 _ rfl
    exact ⟨b, o, rfl, hb, by simpa [Rep.int] using this⟩

structure Act_ where
  kind : Int
  path : ByteArray
  to : ByteArray
  at_ : Int
  count : Int
  data : List UInt8
  deriving DecidableEq

def Act_.tup (x : Act_) : Int × ByteArray × ByteArray × Int × Int × (List UInt8) × Unit := (x.kind, x.path, x.to, x.at_, x.count, x.data, ())

def Act_.rep : Rep Act_ := Rep.via Act_.tup (Rep.pair Rep.int (Rep.pair Rep.str (Rep.pair Rep.str (Rep.pair Rep.int (Rep.pair Rep.int (Rep.pair (Rep.slice Rep.u8) Rep.unit))))))

def Act_.ok (x : Act_) : Prop := IntOk x.kind ∧ StrOk x.path ∧ StrOk x.to ∧ IntOk x.at_ ∧ IntOk x.count ∧ (AllOk 1 AnyOk) x.data

theorem Act_.rep_iff {w : World} {S : Nat → Prop} {x : Act_} {cs : List Value} : Act_.rep.rep w S x cs ↔ ∃ (A0 : Option Addr) (c0 : Nat), cs = [.int .i64 x.kind, .string x.path, .string x.to, .int .i64 x.at_, .int .i64 x.count, .slice A0 x.data.length c0] ∧ SlRep Rep.u8 w S x.data A0 c0 := by
  constructor
  · intro h
    obtain ⟨_, _, rfl, rfl, ⟨_, _, rfl, rfl, ⟨_, _, rfl, rfl, ⟨_, _, rfl, rfl, ⟨_, _, rfl, rfl, ⟨_, _, rfl, ⟨A0, c0, rfl, h0⟩, rfl⟩⟩⟩⟩⟩⟩ := h
    exact ⟨A0, c0, rfl, h0⟩
  · rintro ⟨A0, c0, rfl, h0⟩
    exact ⟨_, _, rfl, rfl, ⟨_, _, rfl, rfl, ⟨_, _, rfl, rfl, ⟨_, _, rfl, rfl, ⟨_, _, rfl, rfl, ⟨_, _, rfl, ⟨A0, c0, rfl, h0⟩, rfl⟩⟩⟩⟩⟩⟩

theorem Act_.cells_at (z : Act_) {w : World} {S : Nat → Prop} {l : List Act_} {A : Option Addr} {c k : Nat} (h : SlRep Act_.rep w S l A c) (hk : k < l.length) :
    ∃ b o, A = some ⟨b, o, none⟩ ∧ S b ∧ ∃ (A0 : Option Addr) (c0 : Nat), w.cell? ⟨b, o + k * 6, none⟩ = some (.int .i64 (l.getD k z).kind) ∧ w.cell? ⟨b, o + k * 6 + 1, none⟩ = some (.string (l.getD k z).path) ∧ w.cell? ⟨b, o + k * 6 + 2, none⟩ = some (.string (l.getD k z).to) ∧ w.cell? ⟨b, o + k * 6 + 3, none⟩ = some (.int .i64 (l.getD k z).at_) ∧ w.cell? ⟨b, o + k * 6 + 4, none⟩ = some (.int .i64 (l.getD k z).count) ∧ w.cell? ⟨b, o + k * 6 + 5, none⟩ = some (.slice A0 (l.getD k z).data.length c0) ∧ SlRep Rep.u8 w S (l.getD k z).data A0 c0 := by
  rcases h.2.2 with rfl | ⟨b, o, rfl, hb, hr⟩
  · simp at hk
  · obtain ⟨cs, hcs, hc⟩ := hr k (l.getD k z) (by rw [List.getD_eq_getElem?_getD, List.getElem?_eq_getElem hk]; rfl)
    obtain ⟨A0, c0, rfl, h0⟩ := Act_.rep_iff.1 hcs
    exact ⟨b, o, rfl, hb, A0, c0, hc 0 _ rfl, hc 1 _ rfl, hc 2 _ rfl, hc 3 _ rfl, hc 4 _ rfl, hc 5 _ rfl, h0⟩

set_option maxRecDepth 100000 in
theorem opens_Act_ : Opens Tryd.prog Act_.rep Act_.ok 36 :=
  opens_weak (opens_via Act_.tup (fun b => ⟨b.1, b.2.1, b.2.2.1, b.2.2.2.1, b.2.2.2.2.1, b.2.2.2.2.2.1⟩) (fun _ => rfl) (opens_struct Tryd.underlying36 (by kernel_rfl) (opensF_cons (opens_int Tryd.underlying3 (by kernel_rfl)) rfl (opensF_cons (opens_str Tryd.underlying9 (by kernel_rfl)) rfl (opensF_cons (opens_str Tryd.underlying9 (by kernel_rfl)) rfl (opensF_cons (opens_int Tryd.underlying3 (by kernel_rfl)) rfl (opensF_cons (opens_int Tryd.underlying3 (by kernel_rfl)) rfl (opensF_cons (opens_slice Tryd.underlying28 (by kernel_rfl) (by decide) (by kernel_rfl) (opens_u8 Tryd.underlying5 (by kernel_rfl))) rfl (opensF_nil _))))))))) (fun a ho => by
    obtain ⟨h0, ⟨h1, ⟨h2, ⟨h3, ⟨h4, ⟨h5, _⟩⟩⟩⟩⟩⟩ := ho
    exact ⟨h0, h1, h2, h3, h4, h5⟩)

structure Seen where
  code : Int
  kind : Int
  size : Int
  data : List UInt8
  names : List ByteArray
  deriving DecidableEq

def Seen.tup (x : Seen) : Int × Int × Int × (List UInt8) × (List ByteArray) × Unit := (x.code, x.kind, x.size, x.data, x.names, ())

def Seen.rep : Rep Seen := Rep.via Seen.tup (Rep.pair Rep.int (Rep.pair Rep.int (Rep.pair Rep.int (Rep.pair (Rep.slice Rep.u8) (Rep.pair (Rep.slice Rep.str) Rep.unit)))))

def Seen.ok (x : Seen) : Prop := IntOk x.code ∧ IntOk x.kind ∧ IntOk x.size ∧ (AllOk 1 AnyOk) x.data ∧ (AllOk 16 StrOk) x.names

theorem Seen.rep_iff {w : World} {S : Nat → Prop} {x : Seen} {cs : List Value} : Seen.rep.rep w S x cs ↔ ∃ (A0 : Option Addr) (c0 : Nat) (A1 : Option Addr) (c1 : Nat), cs = [.int .i64 x.code, .int .i64 x.kind, .int .i64 x.size, .slice A0 x.data.length c0, .slice A1 x.names.length c1] ∧ SlRep Rep.u8 w S x.data A0 c0 ∧ SlRep Rep.str w S x.names A1 c1 := by
  constructor
  · intro h
    obtain ⟨_, _, rfl, rfl, ⟨_, _, rfl, rfl, ⟨_, _, rfl, rfl, ⟨_, _, rfl, ⟨A0, c0, rfl, h0⟩, ⟨_, _, rfl, ⟨A1, c1, rfl, h1⟩, rfl⟩⟩⟩⟩⟩ := h
    exact ⟨A0, c0, A1, c1, rfl, h0, h1⟩
  · rintro ⟨A0, c0, A1, c1, rfl, h0, h1⟩
    exact ⟨_, _, rfl, rfl, ⟨_, _, rfl, rfl, ⟨_, _, rfl, rfl, ⟨_, _, rfl, ⟨A0, c0, rfl, h0⟩, ⟨_, _, rfl, ⟨A1, c1, rfl, h1⟩, rfl⟩⟩⟩⟩⟩

theorem Seen.cells_at (z : Seen) {w : World} {S : Nat → Prop} {l : List Seen} {A : Option Addr} {c k : Nat} (h : SlRep Seen.rep w S l A c) (hk : k < l.length) :
    ∃ b o, A = some ⟨b, o, none⟩ ∧ S b ∧ ∃ (A0 : Option Addr) (c0 : Nat) (A1 : Option Addr) (c1 : Nat), w.cell? ⟨b, o + k * 5, none⟩ = some (.int .i64 (l.getD k z).code) ∧ w.cell? ⟨b, o + k * 5 + 1, none⟩ = some (.int .i64 (l.getD k z).kind) ∧ w.cell? ⟨b, o + k * 5 + 2, none⟩ = some (.int .i64 (l.getD k z).size) ∧ w.cell? ⟨b, o + k * 5 + 3, none⟩ = some (.slice A0 (l.getD k z).data.length c0) ∧ w.cell? ⟨b, o + k * 5 + 4, none⟩ = some (.slice A1 (l.getD k z).names.length c1) ∧ SlRep Rep.u8 w S (l.getD k z).data A0 c0 ∧ SlRep Rep.str w S (l.getD k z).names A1 c1 := by
  rcases h.2.2 with rfl | ⟨b, o, rfl, hb, hr⟩
  · simp at hk
  · obtain ⟨cs, hcs, hc⟩ := hr k (l.getD k z) (by rw [List.getD_eq_getElem?_getD, List.getElem?_eq_getElem hk]; rfl)
    obtain ⟨A0, c0, A1, c1, rfl, h0, h1⟩ := Seen.rep_iff.1 hcs
    exact ⟨b, o, rfl, hb, A0, c0, A1, c1, hc 0 _ rfl, hc 1 _ rfl, hc 2 _ rfl, hc 3 _ rfl, hc 4 _ rfl, h0, h1⟩

set_option maxRecDepth 100000 in
theorem opens_Seen : Opens Tryd.prog Seen.rep Seen.ok 31 :=
  opens_weak (opens_via Seen.tup (fun b => ⟨b.1, b.2.1, b.2.2.1, b.2.2.2.1, b.2.2.2.2.1⟩) (fun _ => rfl) (opens_struct Tryd.underlying31 (by kernel_rfl) (opensF_cons (opens_int Tryd.underlying3 (by kernel_rfl)) rfl (opensF_cons (opens_int Tryd.underlying3 (by kernel_rfl)) rfl (opensF_cons (opens_int Tryd.underlying3 (by kernel_rfl)) rfl (opensF_cons (opens_slice Tryd.underlying28 (by kernel_rfl) (by decide) (by kernel_rfl) (opens_u8 Tryd.underlying5 (by kernel_rfl))) rfl (opensF_cons (opens_slice Tryd.underlying29 (by kernel_rfl) (by decide) (by kernel_rfl) (opens_str Tryd.underlying9 (by kernel_rfl))) rfl (opensF_nil _)))))))) (fun a ho => by
    obtain ⟨h0, ⟨h1, ⟨h2, ⟨h3, ⟨h4, _⟩⟩⟩⟩⟩ := ho
    exact ⟨h0, h1, h2, h3, h4⟩)

end Go.Proofs.YtlcjdlnhniemcaaDoor
