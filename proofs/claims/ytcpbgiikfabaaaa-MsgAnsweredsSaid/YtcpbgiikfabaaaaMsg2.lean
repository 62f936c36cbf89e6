/- Package msg: what is refused of a part; a part as bytes. No condition. -/
import Derived.Test.YtcpbgiikfabaaaaFrame
import Derived.Test.YtcpbgiikfabaaaaSl
import Derived.Test.YtcpbgiikfabaaaaStrS
import Derived.Test.YtcpbgiikfabaaaaMsg
import Derived.BigQuiet
import Derived.IntWalk
import Derived.Deep.QuietTactic
import Derived.Deep.RegionWith
namespace Go.Proofs.Ytcpbgiikfabaaaa
open Go.RowKit

/-- a request in memory -/
def mg.vals (r : Request) (A : Option Addr) (c : Nat) : List Value := [.int .i64 r.kind, .int .i64 r.mark, .string r.path, .string r.to, .int .i64 r.how, .int .i64 r.handle, .int .i64 r.at_, .int .i64 r.count, .slice A r.data.length c]
structure mg.At (w : World) (B : Nat) (r : Request) (A : Option Addr) (c : Nat) : Prop where
  cell : ∀ j, w.cell? ⟨B, j, none⟩ = (mg.vals r A c)[j]?
  free : ∀ j, w.frozen? ⟨B, j, none⟩ = false
theorem mg.At.lt {w : World} {B : Nat} {r : Request} {A : Option Addr} {c : Nat} (h : mg.At w B r A c) : B < w.heap.size := World.block_lt_of_cell? w _ (h.cell 0)
theorem mg.At.next {w w' : World} {B : Nat} {r : Request} {A : Option Addr} {c : Nat} (h : mg.At w B r A c) (hb : Below w.heap.size w w') : mg.At w' B r A c :=
  ⟨fun j => (hb.cell (p := ⟨B, j, none⟩) h.lt).trans (h.cell j), fun j => (hb.frozen (p := ⟨B, j, none⟩) h.lt).trans (h.free j)⟩

set_option maxHeartbeats 1000000 in
theorem fits_num (B o wide : Nat) (hw : wide = 1 ∨ wide = 2 ∨ wide = 4) (n : Int) (w : World) (hn : IntOk n) (hc : w.cell? ⟨B, o, none⟩ = some (.int .i64 n)) : Calls Try.prog 38 #[.agg #[.int .i64 wide, .pointer (some ⟨B, o, none⟩), .pointer none, .pointer none]] w fun e w' => e = .returned (.int .i64 (if n < 0 ∨ 256 ^ wide ≤ n then 2 else 0)) ∧ Below w.heap.size w w' := by
  have hB := World.block_lt_of_cell? w _ hc
  have hca : ∀ x m, ((w.alloc x).drewN m).cell? ⟨B, o, none⟩ = some (.int .i64 n) := fun x m => ((bdrewN (balloc (bself w) x) m).cell (p := ⟨B, o, none⟩) hB).trans hc
  by_cases h0 : n < 0
  · have d0 : decide (n < 0) = true := decide_eq_true h0
    have HX : Hid ((if n < 0 ∨ 256 ^ wide ≤ n then (2 : Int) else 0) = 2) := Lib.hid (if_pos (.inl h0))
    rw [HX.out]
    clear h0
    go_enter Try.func38, Try.ntmps38
    go_wp2
    go_quiet (fail)
    go_wp2
    go_ret
    exact ⟨rfl, (by repeat (first | (with_reducible exact Below.refl _ _) | (with_reducible assumption) | (with_reducible refine bset ?_ ?_ _) | (with_reducible refine balloc ?_ _) | (with_reducible refine Below.drew ?_) | (with_reducible refine bdrewN ?_ _) | (with_reducible refine bnext ?_ (by with_reducible assumption)) | exact Nat.le_refl _ | (simp; done) | omega | (simp; omega)))⟩
  · have d0 : decide (n < 0) = false := decide_eq_false h0
    rcases hw with rfl | rfl | rfl
    · by_cases h1 : 256 ≤ n
      · have d1 : decide (n / 256 > 0) = true := decide_eq_true (by omega)
        have d1' : decide (0 < n / 256) = true := decide_eq_true (by omega)
        have HX : Hid ((if n < 0 ∨ 256 ^ 1 ≤ n then (2 : Int) else 0) = 2) := Lib.hid (if_pos (.inr h1))
        rw [HX.out]
        clear h1 h0
        go_enter Try.func38, Try.ntmps38
        go_wp2
        go_quiet (fail)
        go_wp2
        go_ret
        exact ⟨rfl, (by repeat (first | (with_reducible exact Below.refl _ _) | (with_reducible assumption) | (with_reducible refine bset ?_ ?_ _) | (with_reducible refine balloc ?_ _) | (with_reducible refine Below.drew ?_) | (with_reducible refine bdrewN ?_ _) | (with_reducible refine bnext ?_ (by with_reducible assumption)) | exact Nat.le_refl _ | (simp; done) | omega | (simp; omega)))⟩
      · have d1 : decide (n / 256 > 0) = false := decide_eq_false (by omega)
        have d1' : decide (0 < n / 256) = false := decide_eq_false (by omega)
        have HX : Hid ((if n < 0 ∨ 256 ^ 1 ≤ n then (2 : Int) else 0) = 0) := Lib.hid (if_neg (by rintro (h | h); exact h0 h; exact h1 h))
        rw [HX.out]
        clear h1 h0
        go_enter Try.func38, Try.ntmps38
        go_wp2
        go_quiet (fail)
        go_wp2
        go_ret
        exact ⟨rfl, (by repeat (first | (with_reducible exact Below.refl _ _) | (with_reducible assumption) | (with_reducible refine bset ?_ ?_ _) | (with_reducible refine balloc ?_ _) | (with_reducible refine Below.drew ?_) | (with_reducible refine bdrewN ?_ _) | (with_reducible refine bnext ?_ (by with_reducible assumption)) | exact Nat.le_refl _ | (simp; done) | omega | (simp; omega)))⟩
    · by_cases h1 : 65536 ≤ n
      · have d1 : decide (n / 65536 > 0) = true := decide_eq_true (by omega)
        have d1' : decide (0 < n / 65536) = true := decide_eq_true (by omega)
        have HX : Hid ((if n < 0 ∨ 256 ^ 2 ≤ n then (2 : Int) else 0) = 2) := Lib.hid (if_pos (.inr h1))
        rw [HX.out]
        clear h1 h0
        go_enter Try.func38, Try.ntmps38
        go_wp2
        go_quiet (fail)
        go_wp2
        go_ret
        exact ⟨rfl, (by repeat (first | (with_reducible exact Below.refl _ _) | (with_reducible assumption) | (with_reducible refine bset ?_ ?_ _) | (with_reducible refine balloc ?_ _) | (with_reducible refine Below.drew ?_) | (with_reducible refine bdrewN ?_ _) | (with_reducible refine bnext ?_ (by with_reducible assumption)) | exact Nat.le_refl _ | (simp; done) | omega | (simp; omega)))⟩
      · have d1 : decide (n / 65536 > 0) = false := decide_eq_false (by omega)
        have d1' : decide (0 < n / 65536) = false := decide_eq_false (by omega)
        have HX : Hid ((if n < 0 ∨ 256 ^ 2 ≤ n then (2 : Int) else 0) = 0) := Lib.hid (if_neg (by rintro (h | h); exact h0 h; exact h1 h))
        rw [HX.out]
        clear h1 h0
        go_enter Try.func38, Try.ntmps38
        go_wp2
        go_quiet (fail)
        go_wp2
        go_ret
        exact ⟨rfl, (by repeat (first | (with_reducible exact Below.refl _ _) | (with_reducible assumption) | (with_reducible refine bset ?_ ?_ _) | (with_reducible refine balloc ?_ _) | (with_reducible refine Below.drew ?_) | (with_reducible refine bdrewN ?_ _) | (with_reducible refine bnext ?_ (by with_reducible assumption)) | exact Nat.le_refl _ | (simp; done) | omega | (simp; omega)))⟩
    · by_cases h1 : 4294967296 ≤ n
      · have d1 : decide (n / 4294967296 > 0) = true := decide_eq_true (by omega)
        have d1' : decide (0 < n / 4294967296) = true := decide_eq_true (by omega)
        have HX : Hid ((if n < 0 ∨ 256 ^ 4 ≤ n then (2 : Int) else 0) = 2) := Lib.hid (if_pos (.inr h1))
        rw [HX.out]
        clear h1 h0
        go_enter Try.func38, Try.ntmps38
        go_wp2
        go_quiet (fail)
        go_wp2
        go_ret
        exact ⟨rfl, (by repeat (first | (with_reducible exact Below.refl _ _) | (with_reducible assumption) | (with_reducible refine bset ?_ ?_ _) | (with_reducible refine balloc ?_ _) | (with_reducible refine Below.drew ?_) | (with_reducible refine bdrewN ?_ _) | (with_reducible refine bnext ?_ (by with_reducible assumption)) | exact Nat.le_refl _ | (simp; done) | omega | (simp; omega)))⟩
      · have d1 : decide (n / 4294967296 > 0) = false := decide_eq_false (by omega)
        have d1' : decide (0 < n / 4294967296) = false := decide_eq_false (by omega)
        have HX : Hid ((if n < 0 ∨ 256 ^ 4 ≤ n then (2 : Int) else 0) = 0) := Lib.hid (if_neg (by rintro (h | h); exact h0 h; exact h1 h))
        rw [HX.out]
        clear h1 h0
        go_enter Try.func38, Try.ntmps38
        go_wp2
        go_quiet (fail)
        go_wp2
        go_ret
        exact ⟨rfl, (by repeat (first | (with_reducible exact Below.refl _ _) | (with_reducible assumption) | (with_reducible refine bset ?_ ?_ _) | (with_reducible refine balloc ?_ _) | (with_reducible refine Below.drew ?_) | (with_reducible refine bdrewN ?_ _) | (with_reducible refine bnext ?_ (by with_reducible assumption)) | exact Nat.le_refl _ | (simp; done) | omega | (simp; omega)))⟩

set_option maxHeartbeats 1000000 in
theorem fits_text (B o : Nat) (l : List UInt8) (w : World) (hc : w.cell? ⟨B, o, none⟩ = some (.string (strOf l))) : Calls Try.prog 38 #[.agg #[.int .i64 0, .pointer none, .pointer (some ⟨B, o, none⟩), .pointer none]] w fun e w' => e = .returned (.int .i64 (if 200 < l.length then 1 else 0)) ∧ Below w.heap.size w w' := by
  have hB := World.block_lt_of_cell? w _ hc
  have hca : ∀ x m, ((w.alloc x).drewN m).cell? ⟨B, o, none⟩ = some (.string (strOf l)) := fun x m => ((bdrewN (balloc (bself w) x) m).cell (p := ⟨B, o, none⟩) hB).trans hc
  by_cases h1 : 200 < l.length
  · have d1 : decide ((l.length : Int) > 200) = true := by simp; omega
    have d1' : decide (200 < (l.length : Int)) = true := by simp; omega
    have HX : Hid ((if 200 < l.length then (1 : Int) else 0) = 1) := Lib.hid (if_pos h1)
    rw [HX.out]
    clear h1
    go_enter Try.func38, Try.ntmps38
    go_wp2
    go_quiet (fail)
    go_wp2
    (try (go_quiet (fail); go_wp2))
    go_ret
    exact ⟨rfl, (by repeat (first | (with_reducible exact Below.refl _ _) | (with_reducible assumption) | (with_reducible refine bset ?_ ?_ _) | (with_reducible refine balloc ?_ _) | (with_reducible refine Below.drew ?_) | (with_reducible refine bdrewN ?_ _) | (with_reducible refine bnext ?_ (by with_reducible assumption)) | exact Nat.le_refl _ | (simp; done) | omega | (simp; omega)))⟩
  · have d1 : decide ((l.length : Int) > 200) = false := by simp; omega
    have d1' : decide (200 < (l.length : Int)) = false := by simp; omega
    have HX : Hid ((if 200 < l.length then (1 : Int) else 0) = 0) := Lib.hid (if_neg h1)
    rw [HX.out]
    clear h1
    go_enter Try.func38, Try.ntmps38
    go_wp2
    go_quiet (fail)
    go_wp2
    (try (go_quiet (fail); go_wp2))
    go_ret
    exact ⟨rfl, (by repeat (first | (with_reducible exact Below.refl _ _) | (with_reducible assumption) | (with_reducible refine bset ?_ ?_ _) | (with_reducible refine balloc ?_ _) | (with_reducible refine Below.drew ?_) | (with_reducible refine bdrewN ?_ _) | (with_reducible refine bnext ?_ (by with_reducible assumption)) | exact Nat.le_refl _ | (simp; done) | omega | (simp; omega)))⟩
set_option maxHeartbeats 1000000 in
theorem fits_data (B o n c : Nat) (A : Option Addr) (w : World) (hc : w.cell? ⟨B, o, none⟩ = some (.slice A n c)) : Calls Try.prog 38 #[.agg #[.int .i64 0, .pointer none, .pointer none, .pointer (some ⟨B, o, none⟩)]] w fun e w' => e = .returned (.int .i64 (if 100 < n then 1 else 0)) ∧ Below w.heap.size w w' := by
  have hB := World.block_lt_of_cell? w _ hc
  have hca : ∀ x m, ((w.alloc x).drewN m).cell? ⟨B, o, none⟩ = some (.slice A n c) := fun x m => ((bdrewN (balloc (bself w) x) m).cell (p := ⟨B, o, none⟩) hB).trans hc
  by_cases h1 : 100 < n
  · have d1 : decide ((n : Int) > 100) = true := by simp; omega
    have d1' : decide (100 < (n : Int)) = true := by simp; omega
    have HX : Hid ((if 100 < n then (1 : Int) else 0) = 1) := Lib.hid (if_pos h1)
    rw [HX.out]
    clear h1
    go_enter Try.func38, Try.ntmps38
    go_wp2
    go_quiet (fail)
    go_wp2
    (try (go_quiet (fail); go_wp2))
    go_ret
    exact ⟨rfl, (by repeat (first | (with_reducible exact Below.refl _ _) | (with_reducible assumption) | (with_reducible refine bset ?_ ?_ _) | (with_reducible refine balloc ?_ _) | (with_reducible refine Below.drew ?_) | (with_reducible refine bdrewN ?_ _) | (with_reducible refine bnext ?_ (by with_reducible assumption)) | exact Nat.le_refl _ | (simp; done) | omega | (simp; omega)))⟩
  · have d1 : decide ((n : Int) > 100) = false := by simp; omega
    have d1' : decide (100 < (n : Int)) = false := by simp; omega
    have HX : Hid ((if 100 < n then (1 : Int) else 0) = 0) := Lib.hid (if_neg h1)
    rw [HX.out]
    clear h1
    go_enter Try.func38, Try.ntmps38
    go_wp2
    go_quiet (fail)
    go_wp2
    (try (go_quiet (fail); go_wp2))
    go_ret
    exact ⟨rfl, (by repeat (first | (with_reducible exact Below.refl _ _) | (with_reducible assumption) | (with_reducible refine bset ?_ ?_ _) | (with_reducible refine balloc ?_ _) | (with_reducible refine Below.drew ?_) | (with_reducible refine bdrewN ?_ _) | (with_reducible refine bnext ?_ (by with_reducible assumption)) | exact Nat.le_refl _ | (simp; done) | omega | (simp; omega)))⟩

/-- all numbers of a request are such -/
def mg.Ok (r : Request) : Prop := IntOk r.kind ∧ IntOk r.mark ∧ IntOk r.how ∧ IntOk r.handle ∧ IntOk r.at_ ∧ IntOk r.count
theorem mg.str (s : ByteArray) : strOf s.data.toList = s := (strOf_of s).symm
theorem msg_fits (B : Nat) (r : Request) (A : Option Addr) (c : Nat) (s : mg.Sel) (w : World) (hr : mg.Ok r) (h : mg.At w B r A c) :
    Calls Try.prog 38 #[.agg (mg.cells B s).toArray] w fun e w' => e = .returned (.int .i64 (mg.fit r s)) ∧ Below w.heap.size w w' := by
  have hp : w.cell? ⟨B, 2, none⟩ = some (.string (strOf r.path.data.toList)) := by rw [mg.str]; exact h.cell 2
  have ht : w.cell? ⟨B, 3, none⟩ = some (.string (strOf r.to.data.toList)) := by rw [mg.str]; exact h.cell 3
  match s with
  | .kind => exact fits_num B 0 1 (.inl rfl) r.kind w hr.1 (h.cell 0)
  | .mark => exact fits_num B 1 4 (.inr (.inr rfl)) r.mark w hr.2.1 (h.cell 1)
  | .path => exact fits_text B 2 _ w hp
  | .to => exact fits_text B 3 _ w ht
  | .how => exact fits_num B 4 1 (.inl rfl) r.how w hr.2.2.1 (h.cell 4)
  | .handle => exact fits_num B 5 4 (.inr (.inr rfl)) r.handle w hr.2.2.2.1 (h.cell 5)
  | .at_ => exact fits_num B 6 4 (.inr (.inr rfl)) r.at_ w hr.2.2.2.2.1 (h.cell 6)
  | .count => exact fits_num B 7 2 (.inr (.inl rfl)) r.count w hr.2.2.2.2.2 (h.cell 7)
  | .data => exact fits_data B 8 r.data.length c A w (h.cell 8)

/-- the k-th part of a row of parts -/
theorem mg.row_at {w : World} {base B : Nat} {A : Option Addr} {n c : Nat} {l : List mg.Sel} (h : Own w base 50 4 A n c (l.flatMap (mg.cells B))) {k : Nat} (hk : k < l.length) :
    ∃ g, A = some ⟨g, 0, none⟩ ∧ base ≤ g ∧ g < w.heap.size ∧ ∀ j, j < 4 → w.cell? ⟨g, k * 4 + j, none⟩ = (mg.cells B (l.getD k .kind))[j]? := by
  have hlen : ∀ s : mg.Sel, (mg.cells B s).length = 4 := fun s => by cases s <;> rfl
  have hcell : ∀ j, j < 4 → ∃ u, (l.flatMap (mg.cells B))[k * 4 + j]? = some u ∧ (mg.cells B (l.getD k .kind))[j]? = some u := fun j hj => by
    have h1 := flatMap_at (mg.cells B) 4 hlen l k (l.getD k .kind) (by rw [List.getD_eq_getElem?_getD, List.getElem?_eq_getElem hk]; rfl) j hj
    have h2 : j < (mg.cells B (l.getD k .kind)).length := by rw [hlen]; exact hj
    refine ⟨(mg.cells B (l.getD k .kind))[j], ?_, List.getElem?_eq_getElem h2⟩
    rw [h1, List.getElem?_eq_getElem h2]
  obtain ⟨u, hu, _⟩ := hcell 0 (by omega)
  obtain ⟨g, e1, h1, h2, h3⟩ := h.cell hu
  refine ⟨g, e1, h1, h2, fun j hj => ?_⟩
  obtain ⟨u', hu', e'⟩ := hcell j hj
  obtain ⟨g', e2, _, _, h4⟩ := h.cell hu'
  rw [e1] at e2
  cases e2
  rw [h4, e']
end Go.Proofs.Ytcpbgiikfabaaaa
