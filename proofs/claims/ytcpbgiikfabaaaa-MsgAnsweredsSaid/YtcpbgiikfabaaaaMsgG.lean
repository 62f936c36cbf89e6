/- Package msg: a part is read. No condition. -/
import Derived.Test.YtcpbgiikfabaaaaMsg5
import Derived.Test.YtcpbgiikfabaaaaMsgQ
import Derived.Test.YtcpbgiikfabaaaaGetF
namespace Go.Proofs.Ytcpbgiikfabaaaa
open Go.RowKit

/-- a cell of block B is set; all else is as it was, but for new blocks -/
def mg.Stored (w : World) (B o : Nat) (v : Value) (w' : World) : Prop := ∃ w2, Below w.heap.size w w2 ∧ w' = w2.setCell ⟨B, o, none⟩ v
def mg.Gone (w : World) (e : Ending) (w' : World) : Prop := e = .returned (.tuple #[.slice none 0 0, .bool false]) ∧ Below w.heap.size w w'

/-- a part of n bytes is taken from b, or bytes end too early -/
def mg.Had (w : World) (B o : Nat) (n m : Nat) (Ab : Option Addr) (ok : Bool) (V : World → Value → Prop) (e : Ending) (w' : World) : Prop :=
  match ok with
  | false => mg.Gone w e w'
  | true => e = .returned (.tuple #[.slice Ab n m, .bool true]) ∧ ∃ w2 v, Below w.heap.size w w2 ∧ V w2 v ∧ w' = w2.setCell ⟨B, o, none⟩ v

set_option maxHeartbeats 1000000 in
theorem get_num (B o wide : Nat) (hw : wide ≤ 4) (n0 : Int) (b : List UInt8) (Ab : Option Addr) (cb : Nat) (w : World) (hl : SlRep Rep.u8 w (· < w.heap.size) b Ab cb) (hn : b.length ≤ 9223372036854775807) (hc : w.cell? ⟨B, o, none⟩ = some (.int .i64 n0)) (hf : w.frozen? ⟨B, o, none⟩ = false) :
    Calls Try.prog 34 #[.agg #[.int .i64 wide, .pointer (some ⟨B, o, none⟩), .pointer none, .pointer none], .slice Ab b.length cb] w (mg.Had w B o (b.length - wide) (cb - wide) (cutA Ab cb wide 1) (!decide (b.length < wide)) (fun _ v => v = .int .i64 (feed.be (b.take wide)))) := by
  have hB := World.block_lt_of_cell? w _ hc
  by_cases hlt : b.length < wide
  · have q := decide_eq_true hlt
    rw [q]
    clear hlt
    go_enter Try.func34, Try.ntmps34
    go_wp2
    go_ret2
    exact ⟨rfl, (by repeat (first | (with_reducible exact Below.refl _ _) | (with_reducible assumption) | (with_reducible refine bset ?_ ?_ _) | (with_reducible refine balloc ?_ _) | (with_reducible refine Below.drew ?_) | (with_reducible refine bdrewN ?_ _) | (with_reducible refine bnext ?_ (by with_reducible assumption)) | exact Nat.le_refl _ | (simp; done) | omega | (simp; omega)))⟩
  · have q := decide_eq_false hlt
    rw [q]
    have hcap := hl.1
    have c1 := fun W => run_cut_h elemU8 Ab b.length cb wide (by omega) (wide : Int) rfl W
    have c2 := fun W => run_cut_l elemU8 Ab b.length cb wide (by omega) (wide : Int) rfl W
    have HG := Lib.hid (fun W (hb : Below w.heap.size w W) => frame_Get (b.take wide) Ab cb W ((hl.take wide).next hb) (by rw [List.length_take]; omega))
    have hlen : (b.take wide).length = wide := by rw [List.length_take]; omega
    rw [hlen] at HG
    clear hlt hl hlen
    go_enter Try.func34, Try.ntmps34
    go_wp2_with (first
      | (go_at_call 47; refine (HG.out _ (by repeat (first | (with_reducible exact Below.refl _ _) | (with_reducible assumption) | (with_reducible refine bset ?_ ?_ _) | (with_reducible refine balloc ?_ _) | (with_reducible refine Below.drew ?_) | (with_reducible refine bdrewN ?_ _) | (with_reducible refine bnext ?_ (by with_reducible assumption)) | exact Nat.le_refl _ | (simp; done) | omega | (simp; omega)))).mono ?_; rintro e w3 ⟨rfl, hw3⟩; have HW3 : Hid (Below w.heap.size w w3) := Lib.hid (hw3 ▸ (by repeat (first | (with_reducible exact Below.refl _ _) | (with_reducible assumption) | (with_reducible refine bset ?_ ?_ _) | (with_reducible refine balloc ?_ _) | (with_reducible refine Below.drew ?_) | (with_reducible refine bdrewN ?_ _) | (with_reducible refine bnext ?_ (by with_reducible assumption)) | exact Nat.le_refl _ | (simp; done) | omega | (simp; omega)))); have hc3 := (HW3.out.cell (p := ⟨B, o, none⟩) hB).trans hc; have hf3 := (HW3.out.frozen (p := ⟨B, o, none⟩) hB).trans hf; have z0 : ∀ j, w3.cell? ⟨w.heap.size, j, none⟩ = #[Value.int .i64 wide, .pointer (some ⟨B, o, none⟩), .pointer none, .pointer none][j]? := (fun j => by rw [← hw3, World.cell?_alloc_new]); have z1 := z0 1; simp at z1; clear hw3 z0)
      | fail)
    go_ret2
    exact ⟨rfl, _, _, HW3.out, rfl, rfl⟩

set_option maxHeartbeats 1000000 in
theorem get_text (B o : Nat) (s0 : ByteArray) (b : List UInt8) (Ab : Option Addr) (cb : Nat) (w : World) (hl : SlRep Rep.u8 w (· < w.heap.size) b Ab cb) (hn : b.length ≤ 9223372036854775807) (hc : w.cell? ⟨B, o, none⟩ = some (.string s0)) (hf : w.frozen? ⟨B, o, none⟩ = false) :
    Calls Try.prog 34 #[.agg #[.int .i64 0, .pointer none, .pointer (some ⟨B, o, none⟩), .pointer none], .slice Ab b.length cb] w (mg.Had w B o (b.length - 2 - feed.be (b.take 2)) (cb - 2 - feed.be (b.take 2)) (cutA (cutA Ab cb 2 1) (cb - 2) (feed.be (b.take 2)) 1) (!decide (b.length < 2) && !decide (b.length - 2 < feed.be (b.take 2))) (fun _ v => v = .string (strOf ((b.drop 2).take (feed.be (b.take 2)))))) := by
  have hB := World.block_lt_of_cell? w _ hc
  by_cases hlt : b.length < 2
  · have q := decide_eq_true hlt
    have q' : decide ((b.length : Int) < 2) = true := decide_eq_true (by omega)
    rw [q]
    clear hlt
    go_enter Try.func34, Try.ntmps34
    go_wp2
    go_ret2
    exact ⟨rfl, (by repeat (first | (with_reducible exact Below.refl _ _) | (with_reducible assumption) | (with_reducible refine bset ?_ ?_ _) | (with_reducible refine balloc ?_ _) | (with_reducible refine Below.drew ?_) | (with_reducible refine bdrewN ?_ _) | (with_reducible refine bnext ?_ (by with_reducible assumption)) | exact Nat.le_refl _ | (simp; done) | omega | (simp; omega)))⟩
  · have q := decide_eq_false hlt
    have q' : decide ((b.length : Int) < 2) = false := decide_eq_false (by omega)
    rw [q]
    have hcap := hl.1
    have c1 := fun W => run_cut_h elemU8 Ab b.length cb 2 (by omega) 2 rfl W
    have c2 := fun W => run_cut_l elemU8 Ab b.length cb 2 (by omega) 2 rfl W
    have HG := Lib.hid (fun W (hb : Below w.heap.size w W) => frame_Get (b.take 2) Ab cb W ((hl.take 2).next hb) (by rw [List.length_take]; omega))
    have hlen : (b.take 2).length = 2 := by rw [List.length_take]; omega
    have hd := hl.drop (f := 2) (by omega)
    rw [hlen] at HG
    have hbe := feed.be_lt b 2
    generalize feed.be (b.take 2) = n at *
    generalize hA2 : cutA Ab cb 2 1 = A2 at *
    have hd2 : SlRep Rep.u8 w (· < w.heap.size) (b.drop 2) A2 (cb - 2) := by rw [← hA2]; exact hd
    have hdl : (b.drop 2).length = b.length - 2 := List.length_drop
    clear hlen hA2 hd
    by_cases h2 : b.length - 2 < n
    · have q2 := decide_eq_true h2
      rw [q2]
      clear hlt h2 hd2 hl
      go_enter Try.func34, Try.ntmps34
      go_wp2_with (first
        | (go_at_call 47; refine (HG.out _ (by repeat (first | (with_reducible exact Below.refl _ _) | (with_reducible assumption) | (with_reducible refine bset ?_ ?_ _) | (with_reducible refine balloc ?_ _) | (with_reducible refine Below.drew ?_) | (with_reducible refine bdrewN ?_ _) | (with_reducible refine bnext ?_ (by with_reducible assumption)) | exact Nat.le_refl _ | (simp; done) | omega | (simp; omega)))).mono ?_; rintro e _ ⟨rfl, rfl⟩)
        | fail)
      go_ret2
      exact ⟨rfl, (by repeat (first | (with_reducible exact Below.refl _ _) | (with_reducible assumption) | (with_reducible refine bset ?_ ?_ _) | (with_reducible refine balloc ?_ _) | (with_reducible refine Below.drew ?_) | (with_reducible refine bdrewN ?_ _) | (with_reducible refine bnext ?_ (by with_reducible assumption)) | exact Nat.le_refl _ | (simp; done) | omega | (simp; omega)))⟩
    · have q2 := decide_eq_false h2
      rw [q2]
      have c3 := fun W => run_cut_h elemU8 A2 (b.length - 2) (cb - 2) n (by omega) (n : Int) rfl W
      have c4 := fun W => run_cut_l elemU8 A2 (b.length - 2) (cb - 2) n (by omega) (n : Int) rfl W
      have c5 : ∀ W, Below w.heap.size w W → (convert 22 9 (.slice A2 n (cb - 2))).run Try.prog W = .ok (.string (strOf ((b.drop 2).take n))) W := fun W hb => by
        have := run_string (((hd2.take n).next hb))
        rw [show ((b.drop 2).take n).length = n by rw [List.length_take]; omega] at this
        exact this
      clear hlt h2 hd2 hl
      go_enter Try.func34, Try.ntmps34
      go_wp2_with (first
        | (go_at_call 47; refine (HG.out _ (by repeat (first | (with_reducible exact Below.refl _ _) | (with_reducible assumption) | (with_reducible refine bset ?_ ?_ _) | (with_reducible refine balloc ?_ _) | (with_reducible refine Below.drew ?_) | (with_reducible refine bdrewN ?_ _) | (with_reducible refine bnext ?_ (by with_reducible assumption)) | exact Nat.le_refl _ | (simp; done) | omega | (simp; omega)))).mono ?_; rintro e w3 ⟨rfl, hw3⟩; have HW3 : Hid (Below w.heap.size w w3) := Lib.hid (hw3 ▸ (by repeat (first | (with_reducible exact Below.refl _ _) | (with_reducible assumption) | (with_reducible refine bset ?_ ?_ _) | (with_reducible refine balloc ?_ _) | (with_reducible refine Below.drew ?_) | (with_reducible refine bdrewN ?_ _) | (with_reducible refine bnext ?_ (by with_reducible assumption)) | exact Nat.le_refl _ | (simp; done) | omega | (simp; omega)))); have hc3 := (HW3.out.cell (p := ⟨B, o, none⟩) hB).trans hc; have hf3 := (HW3.out.frozen (p := ⟨B, o, none⟩) hB).trans hf; have z0 : ∀ j, w3.cell? ⟨w.heap.size, j, none⟩ = #[Value.int .i64 0, .pointer none, .pointer (some ⟨B, o, none⟩), .pointer none][j]? := (fun j => by rw [← hw3, World.cell?_alloc_new]); have z1 := z0 1; have z2 := z0 2; simp at z1 z2; have c6 := c5 w3 HW3.out; have c7 := c5 w3.drew (Below.drew HW3.out); clear hw3 z0)
        | fail)
      go_region
      all_goals
        go_wp2
        go_ret2
        first
          | exact ⟨rfl, _, _, HW3.out, rfl, rfl⟩
          | exact ⟨rfl, w3.drew, _, Below.drew HW3.out, rfl, rfl⟩
set_option maxHeartbeats 1000000 in
theorem get_data (B o : Nat) (A0 : Option Addr) (n0 c0 : Nat) (b : List UInt8) (Ab : Option Addr) (cb : Nat) (w : World) (hl : SlRep Rep.u8 w (· < w.heap.size) b Ab cb) (hn : b.length ≤ 140737488351232) (hc : w.cell? ⟨B, o, none⟩ = some (.slice A0 n0 c0)) (hf : w.frozen? ⟨B, o, none⟩ = false) :
    Calls Try.prog 34 #[.agg #[.int .i64 0, .pointer none, .pointer none, .pointer (some ⟨B, o, none⟩)], .slice Ab b.length cb] w (mg.Had w B o (b.length - 2 - feed.be (b.take 2)) (cb - 2 - feed.be (b.take 2)) (cutA (cutA Ab cb 2 1) (cb - 2) (feed.be (b.take 2)) 1) (!decide (b.length < 2) && !decide (b.length - 2 < feed.be (b.take 2))) (fun w2 v => ∃ A' c', v = .slice A' (feed.be (b.take 2)) c' ∧ Own w2 w.heap.size 5 1 A' (feed.be (b.take 2)) c' (((b.drop 2).take (feed.be (b.take 2))).map u8v))) := by
  have hB := World.block_lt_of_cell? w _ hc
  by_cases hlt : b.length < 2
  · have q := decide_eq_true hlt
    have q' : decide ((b.length : Int) < 2) = true := decide_eq_true (by omega)
    rw [q]
    clear hlt
    go_enter Try.func34, Try.ntmps34
    go_wp2
    go_ret2
    exact ⟨rfl, (by repeat (first | (with_reducible exact Below.refl _ _) | (with_reducible assumption) | (with_reducible refine bset ?_ ?_ _) | (with_reducible refine balloc ?_ _) | (with_reducible refine Below.drew ?_) | (with_reducible refine bdrewN ?_ _) | (with_reducible refine bnext ?_ (by with_reducible assumption)) | exact Nat.le_refl _ | (simp; done) | omega | (simp; omega)))⟩
  · have q := decide_eq_false hlt
    have q' : decide ((b.length : Int) < 2) = false := decide_eq_false (by omega)
    rw [q]
    have hcap := hl.1
    have c1 := fun W => run_cut_h elemU8 Ab b.length cb 2 (by omega) 2 rfl W
    have c2 := fun W => run_cut_l elemU8 Ab b.length cb 2 (by omega) 2 rfl W
    have HG := Lib.hid (fun W (hb : Below w.heap.size w W) => frame_Get (b.take 2) Ab cb W ((hl.take 2).next hb) (by rw [List.length_take]; omega))
    have hlen : (b.take 2).length = 2 := by rw [List.length_take]; omega
    have hd := hl.drop (f := 2) (by omega)
    rw [hlen] at HG
    have hbe := feed.be_lt b 2
    generalize feed.be (b.take 2) = n at *
    generalize hA2 : cutA Ab cb 2 1 = A2 at *
    have hd2 : SlRep Rep.u8 w (· < w.heap.size) (b.drop 2) A2 (cb - 2) := by rw [← hA2]; exact hd
    have hdl : (b.drop 2).length = b.length - 2 := List.length_drop
    clear hlen hA2 hd
    by_cases h2 : b.length - 2 < n
    · have q2 := decide_eq_true h2
      rw [q2]
      clear hlt h2 hd2 hl
      go_enter Try.func34, Try.ntmps34
      go_wp2_with (first
        | (go_at_call 47; refine (HG.out _ (by repeat (first | (with_reducible exact Below.refl _ _) | (with_reducible assumption) | (with_reducible refine bset ?_ ?_ _) | (with_reducible refine balloc ?_ _) | (with_reducible refine Below.drew ?_) | (with_reducible refine bdrewN ?_ _) | (with_reducible refine bnext ?_ (by with_reducible assumption)) | exact Nat.le_refl _ | (simp; done) | omega | (simp; omega)))).mono ?_; rintro e _ ⟨rfl, rfl⟩)
        | fail)
      go_ret2
      exact ⟨rfl, (by repeat (first | (with_reducible exact Below.refl _ _) | (with_reducible assumption) | (with_reducible refine bset ?_ ?_ _) | (with_reducible refine balloc ?_ _) | (with_reducible refine Below.drew ?_) | (with_reducible refine bdrewN ?_ _) | (with_reducible refine bnext ?_ (by with_reducible assumption)) | exact Nat.le_refl _ | (simp; done) | omega | (simp; omega)))⟩
    · have q2 := decide_eq_false h2
      rw [q2]
      have c3 := fun W => run_cut_h elemU8 A2 (b.length - 2) (cb - 2) n (by omega) (n : Int) rfl W
      have c4 := fun W => run_cut_l elemU8 A2 (b.length - 2) (cb - 2) n (by omega) (n : Int) rfl W
      have hln : (((b.drop 2).take n).map u8v).length = n := by rw [List.length_map, List.length_take]; omega
      have HCL := Lib.hid (fun W (hb : Below w.heap.size w W) => clone_u8 n A2 (cb - 2) (((b.drop 2).take n).map u8v) W hln (fun w' hb' => mg.u8_cells ((hd2.take n).next (bnext hb hb'))) (oneCell_u8 _) (by omega))
      clear hln
      clear hlt h2 hd2 hl
      go_enter Try.func34, Try.ntmps34
      go_wp2_with (first
        | (go_at_call 47; refine (HG.out _ (by repeat (first | (with_reducible exact Below.refl _ _) | (with_reducible assumption) | (with_reducible refine bset ?_ ?_ _) | (with_reducible refine balloc ?_ _) | (with_reducible refine Below.drew ?_) | (with_reducible refine bdrewN ?_ _) | (with_reducible refine bnext ?_ (by with_reducible assumption)) | exact Nat.le_refl _ | (simp; done) | omega | (simp; omega)))).mono ?_; rintro e w3 ⟨rfl, hw3⟩; have HW3 : Hid (Below w.heap.size w w3) := Lib.hid (hw3 ▸ (by repeat (first | (with_reducible exact Below.refl _ _) | (with_reducible assumption) | (with_reducible refine bset ?_ ?_ _) | (with_reducible refine balloc ?_ _) | (with_reducible refine Below.drew ?_) | (with_reducible refine bdrewN ?_ _) | (with_reducible refine bnext ?_ (by with_reducible assumption)) | exact Nat.le_refl _ | (simp; done) | omega | (simp; omega)))); have hc3 := (HW3.out.cell (p := ⟨B, o, none⟩) hB).trans hc; have hf3 := (HW3.out.frozen (p := ⟨B, o, none⟩) hB).trans hf; have z0 : ∀ j, w3.cell? ⟨w.heap.size, j, none⟩ = #[Value.int .i64 0, .pointer none, .pointer none, .pointer (some ⟨B, o, none⟩)][j]? := (fun j => by rw [← hw3, World.cell?_alloc_new]); have z1 := z0 1; have z2 := z0 2; have z3 := z0 3; simp at z1 z2 z3; have hz3 : w.heap.size < w3.heap.size := (by rw [← hw3]; simp); clear hw3 z0)
        | fail)
      have hz4 : B < w3.heap.size := by omega
      go_region_with (go_at_call 48; ((first | (with_reducible refine (HCL.out _ HW3.out).mono ?_) | (with_reducible refine (HCL.out _ (Below.drew HW3.out)).mono ?_)); rintro e w4 ⟨A4, c4, rfl, ho4, hb4⟩; have HO4 := Lib.hid ho4; have hc4 := (hb4.cell (p := ⟨B, o, none⟩) hz4).trans hc3; have hf4 := (hb4.frozen (p := ⟨B, o, none⟩) hz4).trans hf3; have z4 := (hb4.cell (p := ⟨w.heap.size, 3, none⟩) hz3).trans z3; have HB4 := Lib.hid hb4; clear ho4 hb4))
      all_goals
        go_wp2
        go_ret2
        first
          | exact ⟨rfl, _, _, bnext HW3.out HB4.out, ⟨A4, c4, rfl, HO4.out.base_le HW3.out.size⟩, rfl⟩
          | exact ⟨rfl, _, _, bnext (Below.drew HW3.out) HB4.out, ⟨A4, c4, rfl, HO4.out.base_le HW3.out.size⟩, rfl⟩
          | exact ⟨rfl, w4.drew, _, Below.drew (bnext HW3.out HB4.out), ⟨A4, c4, rfl, HO4.out.base_le HW3.out.size⟩, rfl⟩

/-- a request in block B, its data apart from B, behind base -/
structure mg.Rq (w : World) (base B : Nat) (r : Request) (A : Option Addr) (c : Nat) : Prop where
  at_ : mg.At w B r A c
  data : SlRep Rep.u8 w (fun k => base ≤ k ∧ k < w.heap.size ∧ k ≠ B) r.data A c
theorem mg.Rq.next {w w' : World} {base B : Nat} {r : Request} {A : Option Addr} {c : Nat} (h : mg.Rq w base B r A c) (hb : Below w.heap.size w w') : mg.Rq w' base B r A c :=
  ⟨h.at_.next hb, h.data.keep fun k hk => ⟨⟨hk.1, Nat.lt_of_lt_of_le hk.2.1 hb.size, hk.2.2⟩, hb.block k hk.2.1⟩⟩
theorem mg.At.set {w : World} {B : Nat} {r r' : Request} {A A' : Option Addr} {c c' o : Nat} {v : Value} (h : mg.At w B r A c) (ho : o < 9) (he : mg.vals r' A' c' = (mg.vals r A c).set o v) : mg.At (w.setCell ⟨B, o, none⟩ v) B r' A' c' := by
  refine ⟨fun j => ?_, fun j => by rw [World.frozen?_setCell]; exact h.free j⟩
  rw [he, List.getElem?_set]
  have hoff : o < (mg.vals r A c).length := by simpa [mg.vals] using ho
  by_cases e : o = j
  · subst e
    rw [if_pos rfl, if_pos hoff]
    exact World.cell?_setCell_same' w _ _ (by rw [h.cell o, List.getElem?_eq_getElem hoff]; rfl)
  · rw [if_neg e, mg.set_other _ (by intro e2; cases e2; exact e rfl)]
    exact h.cell j
theorem mg.heap_set {w : World} {B o k : Nat} {v : Value} (h : k ≠ B) : (w.setCell ⟨B, o, none⟩ v).heap[k]? = w.heap[k]? := Below.heap_setCell w ⟨B, o, none⟩ v k (fun e => h e)
theorem mg.Rq.set {w : World} {base B : Nat} {r r' : Request} {A A' : Option Addr} {c c' o : Nat} {v : Value} (h : mg.Rq w base B r A c) (ho : o < 9) (he : mg.vals r' A' c' = (mg.vals r A c).set o v)
    (hd : SlRep Rep.u8 w (fun k => base ≤ k ∧ k < w.heap.size ∧ k ≠ B) r'.data A' c') : mg.Rq (w.setCell ⟨B, o, none⟩ v) base B r' A' c' :=
  ⟨h.at_.set ho he, hd.keep fun k hk => ⟨⟨hk.1, by rw [World.size_setCell]; exact hk.2.1, hk.2.2⟩, mg.heap_set hk.2.2⟩⟩
/-- w' is w but for block B and new blocks -/
def mg.Own1 (w : World) (B : Nat) (w' : World) : Prop := w.grownBy w' (some B)
/-- what reading field s of bytes b leaves -/
def mg.GetRes (base B : Nat) (S : Nat → Prop) (x : Option (List UInt8 × Request)) (w : World) (e : Ending) (w' : World) : Prop :=
  match x with
  | none => mg.Gone w e w'
  | some (b', r') => ∃ Ab' cb' A' c', e = .returned (.tuple #[.slice Ab' b'.length cb', .bool true]) ∧ SlRep Rep.u8 w' S b' Ab' cb' ∧ mg.Rq w' base B r' A' c' ∧ w.grownBy w' (some B)
theorem mg.had_get {base B o n m : Nat} {S : Nat → Prop} {w : World} {Ab : Option Addr} {ok : Bool} {V : World → Value → Prop} {x : Option (List UInt8 × Request)} {e : Ending} {w' : World} {r : Request} {A : Option Addr} {c : Nat} (hR : mg.Rq w base B r A c) (ho : o < 9)
    (h0 : ok = false → x = none) (h1 : ok = true → ∃ b' r', x = some (b', r') ∧ n = b'.length ∧ SlRep Rep.u8 w S b' Ab m ∧ (∀ k, S k → k ≠ B ∧ k < w.heap.size) ∧
      ∀ w2 v, Below w.heap.size w w2 → V w2 v → ∃ A' c', mg.vals r' A' c' = (mg.vals r A c).set o v ∧ SlRep Rep.u8 w2 (fun k => base ≤ k ∧ k < w2.heap.size ∧ k ≠ B) r'.data A' c')
    (h : mg.Had w B o n m Ab ok V e w') : mg.GetRes base B S x w e w' := by
  cases ok with
  | false =>
    rw [h0 rfl]
    exact h
  | true =>
    obtain ⟨b', r', rfl, rfl, hs, hS, hv⟩ := h1 rfl
    obtain ⟨rfl, w2, v, hb, hV, rfl⟩ := h
    obtain ⟨A', c', he, hd⟩ := hv w2 v hb hV
    refine ⟨Ab, m, A', c', rfl, hs.keep fun k hk => ⟨hk, ?_⟩, (hR.next hb).set ho he hd, ⟨hb.os, hb.tape, hb.output, by rw [World.size_setCell]; exact hb.size, fun k hk hne => ?_⟩⟩
    · rw [mg.heap_set (hS k hk).1]
      exact hb.block k (hS k hk).2
    · rw [mg.heap_set (fun e => hne (by rw [e]))]
      exact hb.block k hk
theorem mg.get_of_num {s : mg.Sel} (hs : mg.isNum s = true) (b : List UInt8) (r : Request) : ((!decide (b.length < s.wide)) = false → mg.getR s b r = none) ∧ ((!decide (b.length < s.wide)) = true → mg.getR s b r = some (b.drop s.wide, mg.setR r s (feed.be (b.take s.wide)) [])) := by
  unfold mg.getR
  rw [if_pos hs]
  by_cases h : b.length < s.wide
  · rw [if_pos h, decide_eq_true h]; exact ⟨fun _ => rfl, fun h => by cases h⟩
  · rw [if_neg h, decide_eq_false h]; exact ⟨(fun h => by cases h), fun _ => rfl⟩
theorem mg.get_of_row {s : mg.Sel} (hs : mg.isNum s = false) (b : List UInt8) (r : Request) : ((!decide (b.length < 2) && !decide (b.length - 2 < feed.be (b.take 2))) = false → mg.getR s b r = none) ∧
    ((!decide (b.length < 2) && !decide (b.length - 2 < feed.be (b.take 2))) = true → ¬ b.length < 2 ∧ ¬ b.length - 2 < feed.be (b.take 2) ∧ mg.getR s b r = some ((b.drop 2).drop (feed.be (b.take 2)), mg.setR r s 0 ((b.drop 2).take (feed.be (b.take 2))))) := by
  unfold mg.getR
  rw [if_neg (by rw [hs]; decide)]
  by_cases h : b.length < 2
  · rw [if_pos h, decide_eq_true h]; exact ⟨fun _ => rfl, fun h => by cases h⟩
  · rw [if_neg h, decide_eq_false h]
    by_cases h2 : b.length - 2 < feed.be (b.take 2)
    · rw [if_pos h2, decide_eq_true h2]; exact ⟨fun _ => rfl, fun h => by cases h⟩
    · rw [if_neg h2, decide_eq_false h2]; exact ⟨(fun h => by cases h), fun _ => ⟨h, h2, rfl⟩⟩
theorem mg.Rq.data_next {w w2 : World} {base B : Nat} {r : Request} {A : Option Addr} {c : Nat} (h : mg.Rq w base B r A c) (hb : Below w.heap.size w w2) : SlRep Rep.u8 w2 (fun k => base ≤ k ∧ k < w2.heap.size ∧ k ≠ B) r.data A c := (h.next hb).data
theorem msg_get (B base : Nat) (r : Request) (A : Option Addr) (c : Nat) (s : mg.Sel) (b : List UInt8) (Ab : Option Addr) (cb : Nat) (S : Nat → Prop) (w : World) (hR : mg.Rq w base B r A c) (hl : SlRep Rep.u8 w S b Ab cb) (hS : ∀ k, S k → k ≠ B ∧ k < w.heap.size) (hbs : base ≤ B) (hn : b.length ≤ 140737488351232) :
    Calls Try.prog 34 #[.agg (mg.cells B s).toArray, .slice Ab b.length cb] w (mg.GetRes base B S (mg.getR s b r) w) := by
  have hlw : SlRep Rep.u8 w (· < w.heap.size) b Ab cb := hl.keep fun k hk => ⟨(hS k hk).2, rfl⟩
  have hB := hR.at_.lt
  have hn' : b.length ≤ 9223372036854775807 := by omega
  match s with
  | .kind =>
    have hg := mg.get_of_num (s := .kind) rfl b r
    refine (get_num B 0 1 (by omega) r.kind b Ab cb w hlw hn' (hR.at_.cell 0) (hR.at_.free 0)).mono fun e w' h => mg.had_get hR (by omega) hg.1 (fun h => ⟨_, _, hg.2 h, (List.length_drop).symm, hl.drop (f := 1) (by have h2 := of_decide_eq_false (Bool.not_eq_true' _ ▸ h); simp only [mg.Sel.wide] at h2; omega), hS, fun w2 v hb hv => ⟨A, c, by rw [hv]; rfl, hR.data_next hb⟩⟩) h
  | .mark =>
    have hg := mg.get_of_num (s := .mark) rfl b r
    refine (get_num B 1 4 (by omega) r.mark b Ab cb w hlw hn' (hR.at_.cell 1) (hR.at_.free 1)).mono fun e w' h => mg.had_get hR (by omega) hg.1 (fun h => ⟨_, _, hg.2 h, (List.length_drop).symm, hl.drop (f := 4) (by have h2 := of_decide_eq_false (Bool.not_eq_true' _ ▸ h); simp only [mg.Sel.wide] at h2; omega), hS, fun w2 v hb hv => ⟨A, c, by rw [hv]; rfl, hR.data_next hb⟩⟩) h
  | .how =>
    have hg := mg.get_of_num (s := .how) rfl b r
    refine (get_num B 4 1 (by omega) r.how b Ab cb w hlw hn' (hR.at_.cell 4) (hR.at_.free 4)).mono fun e w' h => mg.had_get hR (by omega) hg.1 (fun h => ⟨_, _, hg.2 h, (List.length_drop).symm, hl.drop (f := 1) (by have h2 := of_decide_eq_false (Bool.not_eq_true' _ ▸ h); simp only [mg.Sel.wide] at h2; omega), hS, fun w2 v hb hv => ⟨A, c, by rw [hv]; rfl, hR.data_next hb⟩⟩) h
  | .handle =>
    have hg := mg.get_of_num (s := .handle) rfl b r
    refine (get_num B 5 4 (by omega) r.handle b Ab cb w hlw hn' (hR.at_.cell 5) (hR.at_.free 5)).mono fun e w' h => mg.had_get hR (by omega) hg.1 (fun h => ⟨_, _, hg.2 h, (List.length_drop).symm, hl.drop (f := 4) (by have h2 := of_decide_eq_false (Bool.not_eq_true' _ ▸ h); simp only [mg.Sel.wide] at h2; omega), hS, fun w2 v hb hv => ⟨A, c, by rw [hv]; rfl, hR.data_next hb⟩⟩) h
  | .at_ =>
    have hg := mg.get_of_num (s := .at_) rfl b r
    refine (get_num B 6 4 (by omega) r.at_ b Ab cb w hlw hn' (hR.at_.cell 6) (hR.at_.free 6)).mono fun e w' h => mg.had_get hR (by omega) hg.1 (fun h => ⟨_, _, hg.2 h, (List.length_drop).symm, hl.drop (f := 4) (by have h2 := of_decide_eq_false (Bool.not_eq_true' _ ▸ h); simp only [mg.Sel.wide] at h2; omega), hS, fun w2 v hb hv => ⟨A, c, by rw [hv]; rfl, hR.data_next hb⟩⟩) h
  | .count =>
    have hg := mg.get_of_num (s := .count) rfl b r
    refine (get_num B 7 2 (by omega) r.count b Ab cb w hlw hn' (hR.at_.cell 7) (hR.at_.free 7)).mono fun e w' h => mg.had_get hR (by omega) hg.1 (fun h => ⟨_, _, hg.2 h, (List.length_drop).symm, hl.drop (f := 2) (by have h2 := of_decide_eq_false (Bool.not_eq_true' _ ▸ h); simp only [mg.Sel.wide] at h2; omega), hS, fun w2 v hb hv => ⟨A, c, by rw [hv]; rfl, hR.data_next hb⟩⟩) h
  | .path =>
    have hg := mg.get_of_row (s := .path) rfl b r
    refine (get_text B 2 r.path b Ab cb w hlw hn' (hR.at_.cell 2) (hR.at_.free 2)).mono fun e w' h => mg.had_get hR (by omega) hg.1 (fun h => ⟨_, _, (hg.2 h).2.2, by simp only [List.length_drop], (hl.drop (f := 2) (by have := (hg.2 h).1; omega)).drop (by have h1 := (hg.2 h).1; have h2 := (hg.2 h).2.1; rw [List.length_drop]; omega), hS, fun w2 v hb hv => ⟨A, c, by rw [hv]; rfl, hR.data_next hb⟩⟩) h
  | .to =>
    have hg := mg.get_of_row (s := .to) rfl b r
    refine (get_text B 3 r.to b Ab cb w hlw hn' (hR.at_.cell 3) (hR.at_.free 3)).mono fun e w' h => mg.had_get hR (by omega) hg.1 (fun h => ⟨_, _, (hg.2 h).2.2, by simp only [List.length_drop], (hl.drop (f := 2) (by have := (hg.2 h).1; omega)).drop (by have h1 := (hg.2 h).1; have h2 := (hg.2 h).2.1; rw [List.length_drop]; omega), hS, fun w2 v hb hv => ⟨A, c, by rw [hv]; rfl, hR.data_next hb⟩⟩) h
  | .data =>
    have hg := mg.get_of_row (s := .data) rfl b r
    refine (get_data B 8 A r.data.length c b Ab cb w hlw hn (hR.at_.cell 8) (hR.at_.free 8)).mono fun e w' h => mg.had_get hR (by omega) hg.1 (fun h => ⟨_, _, (hg.2 h).2.2, by simp only [List.length_drop], (hl.drop (f := 2) (by have := (hg.2 h).1; omega)).drop (by have h1 := (hg.2 h).1; have h2 := (hg.2 h).2.1; rw [List.length_drop]; omega), hS, fun w2 v hb hv => ?_⟩) h
    obtain ⟨A', c', rfl, ho⟩ := hv
    have h1 := (hg.2 h).1
    have h2 := (hg.2 h).2.1
    have hlen : ((b.drop 2).take (feed.be (b.take 2))).length = feed.be (b.take 2) := by rw [List.length_take, List.length_drop]; omega
    refine ⟨A', c', ?_, ho.u8.2.keep fun k hk => ⟨⟨by omega, hk.2, by omega⟩, rfl⟩⟩
    show mg.vals (mg.setR r .data 0 ((b.drop 2).take (feed.be (b.take 2)))) A' c' = _
    simp only [mg.vals, mg.setR, hlen]
    rfl
end Go.Proofs.Ytcpbgiikfabaaaa
