/- Package msg: Put of any field; bare. No condition. -/
import Derived.Test.YtcpbgiikfabaaaaMsg4
namespace Go.Proofs.Ytcpbgiikfabaaaa
open Go.RowKit

theorem mg.fit_num {r : Request} {s : mg.Sel} (hs : s.srt = .num) (h : mg.fit r s = 0) : 0 ≤ mg.num r s := by
  unfold mg.fit at h
  rw [hs] at h
  dsimp only at h
  split at h
  · cases h
  · omega
theorem mg.fit_text {r : Request} {s : mg.Sel} (hs : s.srt = .text) (h : mg.fit r s = 0) : (mg.txt r s).length ≤ 200 := by
  unfold mg.fit at h
  rw [hs] at h
  dsimp only at h
  split at h
  · cases h
  · omega
theorem mg.fit_data {r : Request} {s : mg.Sel} (hs : s.srt = .data) (h : mg.fit r s = 0) : (mg.txt r s).length ≤ 100 := by
  unfold mg.fit at h
  rw [hs] at h
  dsimp only at h
  split at h
  · cases h
  · omega
theorem msg_put (B : Nat) (r : Request) (A : Option Addr) (c : Nat) (s : mg.Sel) (base : Nat) (Ab : Option Addr) (cb : Nat) (xs : List UInt8) (w : World) (hr : mg.Ok r) (h : mg.At w B r A c) (hd : SlRep Rep.u8 w (· < base) r.data A c) (hf : mg.fit r s = 0)
    (ho : Own w base 5 1 Ab xs.length cb (xs.map u8v)) (hb : base ≤ w.heap.size) (hx : xs.length ≤ 1048576) :
    Calls Try.prog 22 #[.agg (mg.cells B s).toArray, .slice Ab xs.length cb] w (mg.PutRes base xs (mg.put r s) w) := by
  have hp : w.cell? ⟨B, 2, none⟩ = some (.string (strOf r.path.data.toList)) := by rw [mg.str]; exact h.cell 2
  have ht : w.cell? ⟨B, 3, none⟩ = some (.string (strOf r.to.data.toList)) := by rw [mg.str]; exact h.cell 3
  match s, hf with
  | .kind, hf => exact put_num B 0 1 (by omega) r.kind base Ab cb xs w (mg.fit_num rfl hf) hr.1.2 (h.cell 0) ho hb hx
  | .mark, hf => exact put_num B 1 4 (by omega) r.mark base Ab cb xs w (mg.fit_num rfl hf) hr.2.1.2 (h.cell 1) ho hb hx
  | .path, hf => exact put_text B 2 _ base Ab cb xs w hp ho hb hx (by have := mg.fit_text (s := .path) rfl hf; exact Nat.le_trans this (by omega))
  | .to, hf => exact put_text B 3 _ base Ab cb xs w ht ho hb hx (by have := mg.fit_text (s := .to) rfl hf; exact Nat.le_trans this (by omega))
  | .how, hf => exact put_num B 4 1 (by omega) r.how base Ab cb xs w (mg.fit_num rfl hf) hr.2.2.1.2 (h.cell 4) ho hb hx
  | .handle, hf => exact put_num B 5 4 (by omega) r.handle base Ab cb xs w (mg.fit_num rfl hf) hr.2.2.2.1.2 (h.cell 5) ho hb hx
  | .at_, hf => exact put_num B 6 4 (by omega) r.at_ base Ab cb xs w (mg.fit_num rfl hf) hr.2.2.2.2.1.2 (h.cell 6) ho hb hx
  | .count, hf => exact put_num B 7 2 (by omega) r.count base Ab cb xs w (mg.fit_num rfl hf) hr.2.2.2.2.2.2 (h.cell 7) ho hb hx
  | .data, hf => exact put_data B 8 r.data A c base Ab cb xs w (h.cell 8) hd ho hb hx (by have := mg.fit_data (s := .data) rfl hf; exact Nat.le_trans this (by omega))

/-- what a field holds once it is taken away -/
def mg.zero : mg.Sel → Value
  | .path => .string .empty | .to => .string .empty | .data => .slice none 0 0
  | .kind => .int .i64 0 | .mark => .int .i64 0 | .how => .int .i64 0 | .handle => .int .i64 0 | .at_ => .int .i64 0 | .count => .int .i64 0
theorem mg.set_other {w : World} {a b : Addr} (v : Value) (h : a ≠ b) : (w.setCell a v).cell? b = w.cell? b := by
  first
    | exact World.cell?_setCell_other w v h
    | exact World.cell?_setCell_other w a b v h
    | exact World.cell?_setCell_other _ _ _ _ h
    | simp [h]
theorem mg.At.clear {w : World} {B : Nat} {r : Request} {A : Option Addr} {c : Nat} (h : mg.At w B r A c) (s : mg.Sel) (hs : s ≠ .kind) : ∃ A' c', mg.At (w.setCell ⟨B, s.off, none⟩ (mg.zero s)) B (mg.clear r s) A' c' := by
  have key : ∀ (A' : Option Addr) (c' : Nat), mg.vals (mg.clear r s) A' c' = (mg.vals r A c).set s.off (mg.zero s) → mg.At (w.setCell ⟨B, s.off, none⟩ (mg.zero s)) B (mg.clear r s) A' c' := fun A' c' he => by
    refine ⟨fun j => ?_, fun j => by rw [World.frozen?_setCell]; exact h.free j⟩
    rw [he, List.getElem?_set]
    have hoff : s.off < (mg.vals r A c).length := by cases s <;> simp [mg.vals, mg.Sel.off]
    by_cases e : s.off = j
    · subst e
      rw [if_pos rfl, if_pos hoff]
      exact World.cell?_setCell_same' w _ _ (by rw [h.cell s.off, List.getElem?_eq_getElem hoff]; rfl)
    · rw [if_neg e, mg.set_other _ (by intro e2; cases e2; exact e rfl)]
      exact h.cell j
  match s, hs with
  | .mark, _ => exact ⟨A, c, key A c rfl⟩
  | .path, _ => exact ⟨A, c, key A c rfl⟩
  | .to, _ => exact ⟨A, c, key A c rfl⟩
  | .how, _ => exact ⟨A, c, key A c rfl⟩
  | .handle, _ => exact ⟨A, c, key A c rfl⟩
  | .at_, _ => exact ⟨A, c, key A c rfl⟩
  | .count, _ => exact ⟨A, c, key A c rfl⟩
  | .data, _ => exact ⟨none, 0, key none 0 rfl⟩
theorem mg.fold_take {l : List mg.Sel} {k : Nat} (hk : k < l.length) (r : Request) : (l.take (k + 1)).foldl mg.clear r = mg.clear ((l.take k).foldl mg.clear r) (l.getD k .kind) := by
  have e : l.take (k + 1) = l.take k ++ [l[k]] := by rw [List.take_add_one, List.getElem?_eq_getElem hk]; rfl
  rw [e, List.foldl_append, List.getD_eq_getElem?_getD, List.getElem?_eq_getElem hk]
  rfl
theorem mg.At.new (w : World) (r : Request) (A : Option Addr) (c : Nat) : mg.At (w.alloc (.cells (mg.vals r A c).toArray 24)) w.heap.size r A c :=
  ⟨fun j => by rw [World.cell?_alloc_new]; simp, fun j => by simp [go_sem]⟩
theorem mg.fields_len (r : Request) : (mg.fields r).length ≤ 5 := by
  unfold mg.fields mg.parts
  repeat' split
  all_goals simp
theorem mg.parts_len (k : Int) : (mg.parts k).length ≤ 3 := by
  unfold mg.parts
  repeat' split
  all_goals simp
theorem mg.one (B : Nat) (l : List mg.Sel) : ∀ u ∈ l.flatMap (mg.cells B), u.oneCell' = true := by
  intro u hu
  obtain ⟨s, _, hs⟩ := List.mem_flatMap.1 hu
  cases s <;> simp [mg.cells] at hs <;> rcases hs with rfl | rfl | rfl | rfl <;> rfl
theorem mg.row_len (B : Nat) (l : List mg.Sel) : (l.flatMap (mg.cells B)).length = l.length * 4 := flatMap_len (mg.cells B) 4 (fun s => by cases s <;> rfl) l

end Go.Proofs.Ytcpbgiikfabaaaa
