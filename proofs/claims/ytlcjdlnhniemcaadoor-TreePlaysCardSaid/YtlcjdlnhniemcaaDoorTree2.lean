/- Package tree: look. No condition. -/
import Derived.Test.YtlcjdlnhniemcaaDoorTree1
import Derived.Test.YtlcjdlnhniemcaaDoorWalk3
import Derived.Test.YtlcjdlnhniemcaaDoorMgC
import Derived.Deep.DeepCutAuto
namespace Go.Proofs.YtlcjdlnhniemcaaDoor
open Go.RowKit Go.Maps Go.MapKept
set_option linter.unusedSimpArgs false
set_option linter.unusedVariables false

theorem pa.lists_map (L : List (List UInt8)) : pa.lists (L.map strOf) = L := by
  unfold pa.lists
  rw [List.map_map]
  conv => rhs; rw [← List.map_id L]
  exact List.map_congr_left fun x _ => by simp [strOf]
/-- names in memory -/
def NmRep (w : World) (A : Option Addr) (c : Nat) (L : List (List UInt8)) : Prop := SlRep Rep.str w (· < w.heap.size) (L.map strOf) A c
theorem NmRep.next {w w' : World} {A : Option Addr} {c : Nat} {L : List (List UInt8)} (h : NmRep w A c L) (hb : Below w.heap.size w w') : NmRep w' A c L := SlRep.next h hb
theorem NmRep.at {w : World} {A : Option Addr} {c : Nat} {L : List (List UInt8)} (h : NmRep w A c L) {k : Nat} (hk : k < L.length) : ∃ b o, A = some ⟨b, o, none⟩ ∧ b < w.heap.size ∧ w.cell? ⟨b, o + k, none⟩ = some (.string (strOf (L.getD k []))) := by
  have h2 := str_at h (k := k) (by rw [List.length_map]; exact hk)
  obtain ⟨b, o, e, hb, hc⟩ := h2
  refine ⟨b, o, e, hb, ?_⟩
  rw [hc]
  congr 2
  rw [List.getD_eq_getElem?_getD, List.getElem?_map, List.getElem?_eq_getElem hk, List.getD_eq_getElem?_getD, List.getElem?_eq_getElem hk]
  rfl
theorem NmRep.of {w : World} {B n c : Nat} {A : Option Addr} {L : List (List UInt8)} (h : Own w B 9 1 A n c (L.map pa.sv)) : n = L.length ∧ NmRep w A c L := by
  have h2 : Own w B 9 1 A n c ((L.map strOf).flatMap fun x => [Value.string x]) := by
    have e : (L.map strOf).flatMap (fun x => [Value.string x]) = L.map pa.sv := by
      rw [← List.map_eq_flatMap, List.map_map]
      rfl
    rw [e]
    exact h
  obtain ⟨h3, h4⟩ := Own.flat (R := Rep.str) (fun x => [Value.string x]) rfl (fun _ _ => rfl) (by decide) h2
  rw [List.length_map] at h3
  exact ⟨h3, h4.keep fun _ hk => ⟨hk.2, rfl⟩⟩
/-- names that may be looked up -/
def Nms (L : List (List UInt8)) : Prop := L.length ≤ 12 ∧ ∀ s ∈ L, s.length ≤ 16
theorem Nms.take {L : List (List UInt8)} (h : Nms L) (k : Nat) : Nms (L.take k) := ⟨by rw [List.length_take]; have := h.1; omega, fun s hs => h.2 s (List.mem_of_mem_take hs)⟩
theorem Nms.front {L : List (List UInt8)} (h : Nms L) : Nms L.dropLast := ⟨by rw [List.length_dropLast]; have := h.1; omega, fun s hs => h.2 s ((List.dropLast_sublist L).subset hs)⟩
theorem pa.name_len {s : List UInt8} (h : pa.name s = true) : s.length ≤ 16 := by
  unfold pa.name at h
  simp at h
  omega
theorem pa.step_nms {o o' : List (List UInt8)} {p : List UInt8} (h : pa.step o p = .ok o') (ho : Nms o) : Nms o' := by
  have h1 := pa.step_len h ho.1
  refine ⟨h1, ?_⟩
  unfold pa.step at h
  split at h
  · cases h; exact ho.2
  · split at h
    · cases h; exact ho.front.2
    · split at h
      · cases h
      · next hn =>
        split at h
        · cases h
        · cases h
          intro s hs
          rcases List.mem_append.1 hs with hs | hs
          · exact ho.2 s hs
          · simp only [List.mem_singleton] at hs
            subst hs
            exact pa.name_len (by simpa using hn)
theorem pa.play_nms : ∀ {ps : List (List UInt8)} {o o' : List (List UInt8)}, playTo pa.step o ps = .ok o' → Nms o → Nms o'
  | [], _, _, h, ho => by cases h; exact ho
  | p :: ps, o, o', h, ho => by
    rw [playTo_cons] at h
    cases e : pa.step o p with
    | error c => rw [e] at h; cases h
    | ok o1 => rw [e] at h; exact pa.play_nms h (pa.step_nms e ho)
theorem pa.walk_nms {o o' : List (List UInt8)} {p : List UInt8} (h : pa.walk o p = .ok o') (ho : Nms o) : Nms o' := by
  unfold pa.walk at h
  split at h
  · cases h
  · exact pa.play_nms h ho
theorem Nms.nil : Nms [] := ⟨by simp, fun s hs => by cases hs⟩
theorem pa.follow_nms {o o' : List (List UInt8)} {p : List UInt8} (h : pa.follow o p = .ok o') (ho : Nms o) : Nms o' := by
  unfold pa.follow at h
  split at h
  · split at h
    · exact pa.walk_nms h Nms.nil
    · exact pa.walk_nms h ho
  · cases h

/-! ### Nodes as values -/
theorem nv_dir (p : Nat) : nv 1 p = .iface 42 (.pointer (some ⟨p, 0, none⟩)) := rfl
theorem nv_file (p : Nat) : nv 2 p = .iface 52 (.pointer (some ⟨p, 0, none⟩)) := rfl
theorem nv_link (p : Nat) : nv 3 p = .iface 55 (.pointer (some ⟨p, 0, none⟩)) := rfl
theorem as_dir1 (p : Nat) (W : World) : (Instr.typeAssert (.iface 42 (.pointer (some ⟨p, 0, none⟩))) 61 42 true).run Tryd.prog W = .ok (.tuple #[.pointer (some ⟨p, 0, none⟩), .bool true]) W := by kernel_rfl
theorem as_dir2 (p : Nat) (W : World) : (Instr.typeAssert (.iface 52 (.pointer (some ⟨p, 0, none⟩))) 61 42 true).run Tryd.prog W = .ok (.tuple #[.pointer none, .bool false]) W := by kernel_rfl
theorem as_dir3 (p : Nat) (W : World) : (Instr.typeAssert (.iface 55 (.pointer (some ⟨p, 0, none⟩))) 61 42 true).run Tryd.prog W = .ok (.tuple #[.pointer none, .bool false]) W := by kernel_rfl
theorem as_link1 (p : Nat) (W : World) : (Instr.typeAssert (.iface 42 (.pointer (some ⟨p, 0, none⟩))) 61 55 true).run Tryd.prog W = .ok (.tuple #[.pointer none, .bool false]) W := by kernel_rfl
theorem as_link2 (p : Nat) (W : World) : (Instr.typeAssert (.iface 52 (.pointer (some ⟨p, 0, none⟩))) 61 55 true).run Tryd.prog W = .ok (.tuple #[.pointer none, .bool false]) W := by kernel_rfl
theorem as_link3 (p : Nat) (W : World) : (Instr.typeAssert (.iface 55 (.pointer (some ⟨p, 0, none⟩))) 61 55 true).run Tryd.prog W = .ok (.tuple #[.pointer (some ⟨p, 0, none⟩), .bool true]) W := by kernel_rfl
theorem keyedS : Keyed Tryd.prog 9 := string_keyed Tryd.underlying9
theorem zeroNode (w : World) : (zeroValue 61).run Tryd.prog w = .ok .nilIface w := by kernel_rfl
end Go.Proofs.YtlcjdlnhniemcaaDoor
