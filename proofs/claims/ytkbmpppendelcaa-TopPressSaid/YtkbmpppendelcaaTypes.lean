/- The Go structs of package api as Lean structures, their readings in memory, and what opens them. No condition. Written by a program of this prover's. -/
import Derived.Test.YtkbmpppendelcaaLib
namespace Go.Proofs.Ytkbmpppendelcaa
open Go.RowKit

def SlRep {α : Type} (R : Rep α) (w : World) (S : Nat → Prop) (l : List α) (A : Option Addr) (c : Nat) : Prop :=
  l.length ≤ c ∧ c ≤ maxLen ∧ (l = [] ∨ ∃ b o, A = some ⟨b, o, none⟩ ∧ S b ∧ R.at_ w S b o l)
theorem rep_slice_iff {α : Type} {R : Rep α} {w : World} {S : Nat → Prop} {l : List α} {cs : List Value} : (Rep.slice R).rep w S l cs ↔ ∃ A c, cs = [.slice A l.length c] ∧ SlRep R w S l A c := Iff.rfl
theorem rep_slice_val {α : Type} {R : Rep α} {w : World} {S : Nat → Prop} {l : List α} {A : Option Addr} {n c : Nat} : (Rep.slice R).rep w S l [.slice A n c] ↔ n = l.length ∧ SlRep R w S l A c := by
  constructor
  · rintro ⟨A', c', e, h⟩
    simp only [List.cons.injEq, Value.slice.injEq, and_true] at e
    obtain ⟨rfl, rfl, rfl⟩ := e
    exact ⟨rfl, h⟩
  · rintro ⟨rfl, h⟩
    exact ⟨A, c, rfl, h⟩

theorem SlRep.keep {α : Type} {R : Rep α} {w w' : World} {S S' : Nat → Prop} {l : List α} {A : Option Addr} {c : Nat} (h : SlRep R w S l A c) (hk : ∀ k, S k → S' k ∧ w'.heap[k]? = w.heap[k]?) : SlRep R w' S' l A c :=
  (rep_slice_val.1 ((Rep.slice R).mono (rep_slice_val.2 ⟨rfl, h⟩) hk)).2
theorem SlRep.below {α : Type} {R : Rep α} {w0 w w' : World} {l : List α} {A : Option Addr} {c : Nat} (h : SlRep R w (· < w0.heap.size) l A c) (hb : Below w0.heap.size w w') : SlRep R w' (· < w0.heap.size) l A c :=
  h.keep fun k hk => ⟨hk, hb.block k hk⟩
theorem SlRep.next {α : Type} {R : Rep α} {w w' : World} {l : List α} {A : Option Addr} {c : Nat} (h : SlRep R w (· < w.heap.size) l A c) (hb : Below w.heap.size w w') : SlRep R w' (· < w'.heap.size) l A c :=
  h.keep fun k hk => ⟨Nat.lt_of_lt_of_le hk hb.size, hb.block k hk⟩
theorem u8_at {w : World} {S : Nat → Prop} {l : List UInt8} {A : Option Addr} {c k : Nat} (h : SlRep Rep.u8 w S l A c) (hk : k < l.length) :
    ∃ b o, A = some ⟨b, o, none⟩ ∧ S b ∧ w.cell? ⟨b, o + k, none⟩ = some (.int .u8 ((l.getD k 0).toNat : Int)) := by
  rcases h.2.2 with rfl | ⟨b, o, rfl, hb, hr⟩
  · simp at hk
  · obtain ⟨cs, hcs, hc⟩ := hr k (l.getD k 0) (by rw [List.getD_eq_getElem?_getD, List.getElem?_eq_getElem hk]; rfl)
    subst hcs
    have := hc 0 _ rfl
    exact ⟨b, o, rfl, hb, by simpa [Rep.u8] using this⟩
theorem int_at {w : World} {S : Nat → Prop} {l : List Int} {A : Option Addr} {c k : Nat} (h : SlRep Rep.int w S l A c) (hk : k < l.length) :
    ∃ b o, A = some ⟨b, o, none⟩ ∧ S b ∧ w.cell? ⟨b, o + k, none⟩ = some (.int .i64 (l.getD k 0)) := by
  rcases h.2.2 with rfl | ⟨b, o, rfl, hb, hr⟩
  · simp at hk
  · obtain ⟨cs, hcs, hc⟩ := hr k (l.getD k 0) (by rw [List.getD_eq_getElem?_getD, List.getElem?_eq_getElem hk]; rfl)
    subst hcs
    have := hc 0 _ rfl
    exact ⟨b, o, rfl, hb, by simpa [Rep.int] using this⟩

structure Token where
  byte : UInt8
  dist : Int
  len : Int
  deriving DecidableEq

def Token.tup (x : Token) : UInt8 × Int × Int × Unit := (x.byte, x.dist, x.len, ())

def Token.rep : Rep Token := Rep.via Token.tup (Rep.pair Rep.u8 (Rep.pair Rep.int (Rep.pair Rep.int Rep.unit)))

def Token.ok (x : Token) : Prop := IntOk x.dist ∧ IntOk x.len

def Token.cells (x : Token) : List Value := [.int .u8 x.byte.toNat, .int .i64 x.dist, .int .i64 x.len]
theorem Token.rep_iff {w : World} {S : Nat → Prop} {x : Token} {cs : List Value} : Token.rep.rep w S x cs ↔ cs = Token.cells x := by
  constructor
  · intro h
    obtain ⟨_, _, rfl, rfl, ⟨_, _, rfl, rfl, ⟨_, _, rfl, rfl, rfl⟩⟩⟩ := h
    rfl
  · rintro rfl
    exact ⟨_, _, rfl, rfl, ⟨_, _, rfl, rfl, ⟨_, _, rfl, rfl, rfl⟩⟩⟩

theorem Token.enc (w : World) (S : Nat → Prop) (x : Token) : Token.rep.rep w S x (Token.cells x) := Token.rep_iff.2 rfl
theorem Token.one (l : List Token) : ∀ u ∈ l.flatMap Token.cells, u.oneCell' = true := by
  intro u hu
  obtain ⟨x, _, hx⟩ := List.mem_flatMap.1 hu
  simp only [Token.cells, List.mem_cons, List.not_mem_nil, or_false] at hx
  rcases hx with rfl | rfl | rfl <;> rfl

theorem Token.cells_at (z : Token) {w : World} {S : Nat → Prop} {l : List Token} {A : Option Addr} {c k : Nat} (h : SlRep Token.rep w S l A c) (hk : k < l.length) :
    ∃ b o, A = some ⟨b, o, none⟩ ∧ S b ∧ w.cell? ⟨b, o + k * 3, none⟩ = some (.int .u8 (l.getD k z).byte.toNat) ∧ w.cell? ⟨b, o + k * 3 + 1, none⟩ = some (.int .i64 (l.getD k z).dist) ∧ w.cell? ⟨b, o + k * 3 + 2, none⟩ = some (.int .i64 (l.getD k z).len) := by
  rcases h.2.2 with rfl | ⟨b, o, rfl, hb, hr⟩
  · simp at hk
  · obtain ⟨cs, hcs, hc⟩ := hr k (l.getD k z) (by rw [List.getD_eq_getElem?_getD, List.getElem?_eq_getElem hk]; rfl)
    rw [Token.rep_iff] at hcs
    subst hcs
    exact ⟨b, o, rfl, hb, hc 0 _ rfl, hc 1 _ rfl, hc 2 _ rfl⟩

set_option maxRecDepth 100000 in
theorem opens_Token : Opens Try.prog Token.rep Token.ok 31 :=
  opens_weak (opens_via Token.tup (fun b => ⟨b.1, b.2.1, b.2.2.1⟩) (fun _ => rfl) (opens_struct Try.underlying31 (by kernel_rfl) (opensF_cons (opens_u8 Try.underlying5 (by kernel_rfl)) rfl (opensF_cons (opens_int Try.underlying3 (by kernel_rfl)) rfl (opensF_cons (opens_int Try.underlying3 (by kernel_rfl)) rfl (opensF_nil _)))))) (fun a ho => by
    obtain ⟨h0, ⟨h1, ⟨h2, _⟩⟩⟩ := ho
    exact ⟨h1, h2⟩)

end Go.Proofs.Ytkbmpppendelcaa
