/- Package msg: the parts of a reply: made, refused. No condition. -/
import Derived.Test.YtcpbgiikfabaaaaMsgRP
import Derived.Test.YtcpbgiikfabaaaaMsg7
import Derived.Test.YtcpbgiikfabaaaaPath3
namespace Go.Proofs.Ytcpbgiikfabaaaa
open Go.RowKit

set_option maxHeartbeats 400000 in
theorem msg_fault1 (s : List UInt8) (w : World) (hs : s.length ≤ 140737488351232) : Calls Try.prog 43 #[.string (strOf s)] w fun e w' => e = .returned (.bool (! pa.name s)) ∧ Below w.heap.size w w' := by
  have HC := Lib.hid (path_Name s w)
  go_enter Try.func43, Try.ntmps43
  go_wp2_with (go_at_call 44; refine HC.out.mono ?_; rintro e w2 ⟨rfl, hb2⟩)
  go_ret
  exact ⟨rfl, hb2⟩

def pa.NIdx (b : Bool) (w : World) (e : Ending) (w' : World) : Prop := (∃ n : Int, e = .returned (.int .i64 n) ∧ -1 ≤ n ∧ n ≤ 9223372036854775807 ∧ (0 ≤ n ↔ b = false)) ∧ Below w.heap.size w w'
theorem pa.NIdx.mk {b : Bool} {w w' : World} {e : Ending} (n : Int) (h : e = .returned (.int .i64 n)) (h1 : -1 ≤ n ∧ n ≤ 9223372036854775807) (h2 : 0 ≤ n ↔ b = false) (hb : Below w.heap.size w w') : pa.NIdx b w e w' := ⟨⟨n, h, h1.1, h1.2, h2⟩, hb⟩
set_option maxHeartbeats 1000000 in
theorem msg_IndexFunc (l : List ByteArray) (A : Option Addr) (c : Nat) (w : World) (hl : SlRep Rep.str w (· < w.heap.size) l A c) (hn : l.length ≤ 140737488351232) (hs : ∀ s ∈ l, s.size ≤ 140737488351232) :
    Calls Try.prog 49 #[.slice A l.length c, .func (.func 43) #[] #[]] w (pa.NIdx ((pa.lists l).all pa.name) w) := by
  have HL := Lib.hid hl
  have HSZ := Lib.hid hs
  clear hl hs
  go_enter Try.func49, Try.ntmps49
  go_wp2
  go_loopw [5, 8] (fun _ i wr => ∃ k : Nat, k ≤ l.length ∧ i = .int .i64 k ∧ Hid (∀ j, j < k → pa.name ((pa.lists l).getD j []) = true) ∧ Below w.heap.size w wr) (fun _ i _ => l.length - (intOf i).toNat)
  case atStart => exact ⟨0, by omega, rfl, Lib.hid (fun j hj => by omega), Below.refl _ _⟩
  case round =>
    obtain ⟨k, hk, rfl, HA, hB⟩ := hrel
    rename World => wr
    by_cases hlt : k < l.length
    · obtain ⟨b, o, rfl, hb, hc1⟩ := str_at (HL.out.below hB) hlt
      have hbw : b < wr.heap.size := Nat.lt_of_lt_of_le hb hB.size
      obtain ⟨s, hs1, hs2⟩ := pa.of_strs hlt
      have hsz := HSZ.out (l.getD k .empty) (by rw [List.getD_eq_getElem?_getD, List.getElem?_eq_getElem hlt]; exact List.getElem_mem hlt)
      rw [hs2] at hc1 hsz
      rw [strOf_size] at hsz
      have HS : Hid ((pa.lists l).getD k [] = s) := Lib.hid (by rw [pa.lists_at hlt, hs1])
      clear hs1 hs2
      cases hnm : pa.name s with
      | true =>
        have HN : Hid (∀ j, j < k + 1 → pa.name ((pa.lists l).getD j []) = true) := Lib.hid (fun j hj => by
          rcases Nat.lt_or_ge j k with h' | h'
          · exact HA.out j h'
          · obtain rfl : j = k := by omega
            rw [HS.out]; exact hnm)
        go_wp2_with (go_at_call 43; ((with_reducible refine (msg_fault1 s _ hsz).mono ?_); rw [hnm]; rintro e w2 ⟨rfl, hb2⟩))
        go_roundw
        case rel => exact ⟨k + 1, by omega, by go_num, HN, bnext hB hb2⟩
        case measure => simp [intOf]; omega
      | false =>
        have HF := Lib.hid (pa.all_no (l := pa.lists l) (k := k) (by rw [pa.lists_len]; exact hlt) (by rw [HS.out]; exact hnm))
        go_wp2_with (go_at_call 43; ((with_reducible refine (msg_fault1 s _ hsz).mono ?_); rw [hnm]; rintro e w2 ⟨rfl, hb2⟩))
        go_ret
        exact pa.NIdx.mk k rfl (by omega) ⟨fun _ => HF.out, fun _ => by omega⟩ (bnext hB hb2)
    · obtain rfl : k = l.length := by omega
      have HT : Hid ((pa.lists l).all pa.name = true) := Lib.hid (pa.all_at (by rw [pa.lists_len]; exact HA.out))
      clear HA HL
      go_wp2
      go_ret
      exact pa.NIdx.mk (-1) rfl (by omega) ⟨fun h => by omega, fun h => by rw [HT.out] at h; cases h⟩ hB
set_option maxHeartbeats 400000 in
theorem msg_ContainsFunc (l : List ByteArray) (A : Option Addr) (c : Nat) (w : World) (hl : SlRep Rep.str w (· < w.heap.size) l A c) (hn : l.length ≤ 140737488351232) (hs : ∀ s ∈ l, s.size ≤ 140737488351232) :
    Calls Try.prog 42 #[.slice A l.length c, .func (.func 43) #[] #[]] w fun e w' => e = .returned (.bool (! (pa.lists l).all pa.name)) ∧ Below w.heap.size w w' := by
  have HI := Lib.hid (msg_IndexFunc l A c w hl hn hs)
  clear hl hs
  generalize (pa.lists l).all pa.name = b at *
  go_enter Try.func42, Try.ntmps42
  go_wp2_with (go_at_call 49; refine HI.out.mono ?_; rintro e w2 ⟨⟨n, rfl, h1, h2, h3⟩, hb2⟩)
  go_ret
  refine ⟨?_, hb2⟩
  cases b <;> rfl

/-- the part of a reply in block B, its code in C, its count in D -/
def mr.cells (B C D : Nat) : mr.Sel → List Value
  | .mark => [.int .i64 4, .pointer (some ⟨B, 0, none⟩), .pointer none, .pointer none]
  | .code => [.int .i64 1, .pointer (some ⟨C, 0, none⟩), .pointer none, .pointer none]
  | .handle => [.int .i64 4, .pointer (some ⟨B, 2, none⟩), .pointer none, .pointer none]
  | .kind => [.int .i64 1, .pointer (some ⟨B, 3, none⟩), .pointer none, .pointer none]
  | .size => [.int .i64 4, .pointer (some ⟨B, 4, none⟩), .pointer none, .pointer none]
  | .data => [.int .i64 0, .pointer none, .pointer none, .pointer (some ⟨B, 5, none⟩)]
  | .count => [.int .i64 1, .pointer (some ⟨D, 0, none⟩), .pointer none, .pointer none]
theorem mr.cells_four (B C D : Nat) (s : mr.Sel) : ∃ x p q t, mr.cells B C D s = [.int .i64 x, .pointer p, .pointer q, .pointer t] := by
  cases s <;> exact ⟨_, _, _, _, rfl⟩
set_option maxHeartbeats 2000000 in
theorem msg_replied (B C D : Nat) (w : World) : Calls Try.prog 31 #[.pointer (some ⟨B, 0, none⟩), .pointer (some ⟨C, 0, none⟩), .pointer (some ⟨D, 0, none⟩)] w fun e w' => ∃ A c, e = .returned (.slice A 7 c) ∧ Own w' w.heap.size 50 4 A 7 c (mr.all7.flatMap (mr.cells B C D)) ∧ Below w.heap.size w w' := by
  go_enter Try.func31, Try.ntmps31
  go_wp2
  go_region_with (first
    | (go_at_call 36; refine (msg_number _ _ _).mono ?_; rintro e w2 ⟨rfl, hb2⟩; have hz2 := hb2.size; (try simp only [World.size_drew] at hz2))
    | (go_at_call 37; refine (msg_data _ _).mono ?_; rintro e w2 ⟨rfl, hb2⟩; have hz2 := hb2.size; (try simp only [World.size_drew] at hz2))
    | fail)
  all_goals
    go_wp2
    go_ret
    exact ⟨_, _, rfl, Own.lit _ w.heap.size 50 4 7 _ (by first | omega | (simp; omega)) rfl (by decide), (by repeat (first | (with_reducible exact Below.refl _ _) | (with_reducible assumption) | (with_reducible refine bset ?_ ?_ _) | (with_reducible refine balloc ?_ _) | (with_reducible refine Below.drew ?_) | (with_reducible refine bdrewN ?_ _) | (with_reducible refine bnext ?_ (by with_reducible assumption)) | exact Nat.le_refl _ | (simp; done) | omega | (simp; omega)))⟩

theorem mr.row_at_g {α : Type} (z : α) {f : α → List Value} (hlen : ∀ a, (f a).length = 4) {w : World} {base : Nat} {A : Option Addr} {n c : Nat} {l : List α} (h : Own w base 50 4 A n c (l.flatMap f)) {k : Nat} (hk : k < l.length) :
    ∃ g, A = some ⟨g, 0, none⟩ ∧ base ≤ g ∧ g < w.heap.size ∧ ∀ j, j < 4 → w.cell? ⟨g, k * 4 + j, none⟩ = (f (l.getD k z))[j]? := by
  have hcell : ∀ j, j < 4 → ∃ u, (l.flatMap f)[k * 4 + j]? = some u ∧ (f (l.getD k z))[j]? = some u := fun j hj => by
    have h1 := flatMap_at f 4 hlen l k (l.getD k z) (by rw [List.getD_eq_getElem?_getD, List.getElem?_eq_getElem hk]; rfl) j hj
    have h2 : j < (f (l.getD k z)).length := by rw [hlen]; exact hj
    refine ⟨(f (l.getD k z))[j], ?_, List.getElem?_eq_getElem h2⟩
    rw [h1, List.getElem?_eq_getElem h2]
  obtain ⟨u, hu, _⟩ := hcell 0 (by omega)
  obtain ⟨g, e1, h1, h2, h3⟩ := h.cell hu
  refine ⟨g, e1, h1, h2, fun j hj => ?_⟩
  obtain ⟨u', hu', e'⟩ := hcell j hj
  obtain ⟨g', e2, _, _, h4⟩ := h.cell hu'
  rw [e1] at e2
  cases e2
  rw [h4, e']

set_option maxRecDepth 100000 in
set_option maxHeartbeats 4000000 in
theorem msg_all_g {α : Type} (z : α) (f : α → List Value) (hf4 : ∀ a, ∃ x p q t, f a = [.int .i64 x, .pointer p, .pointer q, .pointer t]) (fit : α → Int) (hfc : ∀ a, fit a = 0 ∨ fit a = 1 ∨ fit a = 2) (l : List α) (Al : Option Addr) (cl base : Nat) (w : World)
    (hfit : ∀ a w', Below w.heap.size w w' → Calls Try.prog 38 #[.agg (f a).toArray] w' fun e w2 => e = .returned (.int .i64 (fit a)) ∧ Below w'.heap.size w' w2) (ho : Own w base 50 4 Al l.length cl (l.flatMap f)) (hl : l.length ≤ 100) :
    Calls Try.prog 21 #[.slice Al l.length cl] w fun e w' => e = .returned (.int .i64 (mr.allG fit 0 l)) ∧ Below w.heap.size w w' := by
  have HO := Lib.hid ho
  have HFF := Lib.hid hfit
  have HF4 := Lib.hid hf4
  have HFC := Lib.hid hfc
  clear ho hfit hf4 hfc
  go_enter Try.func21, Try.ntmps21
  go_wp2
  go_loopw [3, 5, 6, 9] (fun s3 _ _ s9 wr => ∃ (k : Nat) (out : Int), s3 = .int .i64 out ∧ s9 = .int .i64 k ∧ k ≤ l.length ∧ Hid (mr.allG fit out (l.drop k) = mr.allG fit 0 l) ∧ Hid (Below w.heap.size w wr)) (fun _ _ _ s9 _ => l.length - (intOf s9).toNat)
  case atStart => exact ⟨0, 0, rfl, rfl, by omega, Lib.hid rfl, Lib.hid (Below.refl _ _)⟩
  case round =>
    obtain ⟨k, out, rfl, rfl, hk, HT, HW⟩ := hrel
    rename World => wr
    by_cases hlt : k < l.length
    · obtain ⟨g, rfl, hg1, hg2, hgc⟩ := mr.row_at_g z (fun a => by obtain ⟨_, _, _, _, e⟩ := HF4.out a; rw [e]; rfl) (HO.out.next HW.out) hlt
      have HTD := Lib.hid (drop_getD l z hlt)
      generalize hsl : l.getD k z = s at *
      clear hsl
      obtain ⟨a, b, cc, d, hcs⟩ := HF4.out s
      have x0 := hgc 0 (by omega)
      have x1 := hgc 1 (by omega)
      have x2 := hgc 2 (by omega)
      have x3 := hgc 3 (by omega)
      simp only [hcs, List.getElem?_cons_zero, List.getElem?_cons_succ, Nat.add_zero] at x0 x1 x2 x3
      clear hgc
      have HF : Hid (∀ o, Calls Try.prog 38 #[.agg #[.int .i64 a, .pointer b, .pointer cc, .pointer d]] (wr.alloc o) fun e w' => e = .returned (.int .i64 (fit s)) ∧ Below (wr.alloc o).heap.size (wr.alloc o) w') := Lib.hid (fun o => by
        have := HFF.out s (wr.alloc o) (balloc HW.out o)
        rwa [hcs] at this)
      have HS : Hid (mr.allG fit out (l.drop k) = if fit s = 2 then 2 else mr.allG fit (if out = 0 then fit s else out) (l.drop (k + 1))) := Lib.hid (by rw [HTD.out]; rfl)
      clear HTD hcs
      rcases HFC.out s with hf | hf | hf
      · rw [hf] at HF HS
        by_cases h0 : out = 0
        · subst h0
          go_wp2_with (go_at_call 38; refine (HF.out _).mono ?_; rintro e w2 ⟨rfl, hb2⟩)
          go_roundw
          case rel => exact ⟨k + 1, 0, rfl, by go_num, by omega, Lib.hid (HS.out.symm.trans HT.out), Lib.hid (bnext HW.out ((balloc (bself wr) _).trans (hb2.mono (by simp))))⟩
          case measure => simp [intOf]; omega
        · have q0 : (out == 0) = false := beq_eq_false_iff_ne.2 h0
          have HS2 : Hid (mr.allG fit out (l.drop (k + 1)) = mr.allG fit 0 l) := Lib.hid (by rw [← HT.out, HS.out, if_neg (by decide), if_neg h0])
          clear h0
          go_wp2_with (go_at_call 38; refine (HF.out _).mono ?_; rintro e w2 ⟨rfl, hb2⟩)
          go_roundw
          case rel => exact ⟨k + 1, out, rfl, by go_num, by omega, HS2, Lib.hid (bnext HW.out ((balloc (bself wr) _).trans (hb2.mono (by simp))))⟩
          case measure => simp [intOf]; omega
      · rw [hf] at HF HS
        by_cases h0 : out = 0
        · subst h0
          go_wp2_with (go_at_call 38; refine (HF.out _).mono ?_; rintro e w2 ⟨rfl, hb2⟩)
          go_roundw
          case rel => exact ⟨k + 1, 1, rfl, by go_num, by omega, Lib.hid (HS.out.symm.trans HT.out), Lib.hid (bnext HW.out ((balloc (bself wr) _).trans (hb2.mono (by simp))))⟩
          case measure => simp [intOf]; omega
        · have q0 : (out == 0) = false := beq_eq_false_iff_ne.2 h0
          have HS2 : Hid (mr.allG fit out (l.drop (k + 1)) = mr.allG fit 0 l) := Lib.hid (by rw [← HT.out, HS.out, if_neg (by decide), if_neg h0])
          clear h0
          go_wp2_with (go_at_call 38; refine (HF.out _).mono ?_; rintro e w2 ⟨rfl, hb2⟩)
          go_roundw
          case rel => exact ⟨k + 1, out, rfl, by go_num, by omega, HS2, Lib.hid (bnext HW.out ((balloc (bself wr) _).trans (hb2.mono (by simp))))⟩
          case measure => simp [intOf]; omega
      · rw [hf] at HF HS
        have HE : Hid (mr.allG fit 0 l = 2) := Lib.hid (by rw [← HT.out, HS.out, if_pos rfl])
        go_wp2_with (go_at_call 38; refine (HF.out _).mono ?_; rintro e w2 ⟨rfl, hb2⟩)
        go_ret
        exact ⟨by rw [HE.out]; rfl, bnext HW.out ((balloc (bself wr) _).trans (hb2.mono (by simp)))⟩
    · obtain rfl : k = l.length := by omega
      have HE : Hid (mr.allG fit 0 l = out) := Lib.hid (by have := HT.out; rw [List.drop_length] at this; exact this.symm)
      go_wp2
      go_ret
      exact ⟨by rw [HE.out]; rfl, HW.out⟩

/-- a reply in memory -/
def mr.vals (r : Reply) (Ad : Option Addr) (cd : Nat) (An : Option Addr) (cn : Nat) : List Value := [.int .i64 r.mark, .int .i64 r.code, .int .i64 r.handle, .int .i64 r.kind, .int .i64 r.size, .slice Ad r.data.length cd, .slice An r.names.length cn]
structure mr.At (w : World) (B : Nat) (r : Reply) (Ad : Option Addr) (cd : Nat) (An : Option Addr) (cn : Nat) : Prop where
  cell : ∀ j, w.cell? ⟨B, j, none⟩ = (mr.vals r Ad cd An cn)[j]?
  free : ∀ j, w.frozen? ⟨B, j, none⟩ = false
section
variable {w w' : World} {B : Nat} {r : Reply} {Ad : Option Addr} {cd : Nat} {An : Option Addr} {cn : Nat}
theorem mr.At.lt (h : mr.At w B r Ad cd An cn) : B < w.heap.size := World.block_lt_of_cell? w _ (h.cell 0)
theorem mr.At.next (h : mr.At w B r Ad cd An cn) (hb : Below w.heap.size w w') : mr.At w' B r Ad cd An cn :=
  ⟨fun j => (hb.cell (p := ⟨B, j, none⟩) h.lt).trans (h.cell j), fun j => (hb.frozen (p := ⟨B, j, none⟩) h.lt).trans (h.free j)⟩
theorem mr.At.block (h : mr.At w B r Ad cd An cn) (hB : w'.heap[B]? = w.heap[B]?) : mr.At w' B r Ad cd An cn :=
  ⟨fun j => (World.cell?_of_block (a := ⟨B, j, none⟩) hB).trans (h.cell j), fun j => (World.frozen?_of_block (a := ⟨B, j, none⟩) hB).trans (h.free j)⟩
end
theorem mr.At.new (w : World) (r : Reply) (Ad : Option Addr) (cd : Nat) (An : Option Addr) (cn : Nat) : mr.At (w.alloc (.cells (mr.vals r Ad cd An cn).toArray 36)) w.heap.size r Ad cd An cn :=
  ⟨fun j => by rw [World.cell?_alloc_new]; simp, fun j => by simp [go_sem]⟩
/-- an int in a box of its own -/
structure mr.Box (w : World) (C : Nat) (n : Int) : Prop where
  cell : w.cell? ⟨C, 0, none⟩ = some (.int .i64 n)
  free : w.frozen? ⟨C, 0, none⟩ = false
theorem mr.Box.lt {w : World} {C : Nat} {n : Int} (h : mr.Box w C n) : C < w.heap.size := World.block_lt_of_cell? w _ h.cell
theorem mr.Box.next {w w' : World} {C : Nat} {n : Int} (h : mr.Box w C n) (hb : Below w.heap.size w w') : mr.Box w' C n := ⟨(hb.cell (p := ⟨C, 0, none⟩) h.lt).trans h.cell, (hb.frozen (p := ⟨C, 0, none⟩) h.lt).trans h.free⟩
/-- the numbers of a reply are such -/
def mr.Ok (r : Reply) : Prop := IntOk r.mark ∧ IntOk r.code ∧ IntOk r.handle ∧ IntOk r.kind ∧ IntOk r.size
theorem mr_fits (B C D : Nat) (r : Reply) (n : Int) (Ad : Option Addr) (cd : Nat) (An : Option Addr) (cn : Nat) (s : mr.Sel) (w : World) (hr : mr.Ok r) (hn : IntOk n) (h : mr.At w B r Ad cd An cn) (hC : mr.Box w C r.code) (hD : mr.Box w D n) :
    Calls Try.prog 38 #[.agg (mr.cells B C D s).toArray] w fun e w' => e = .returned (.int .i64 (mr.fit r n s)) ∧ Below w.heap.size w w' := by
  match s with
  | .mark => exact fits_num B 0 4 (.inr (.inr rfl)) r.mark w hr.1 (h.cell 0)
  | .code => exact fits_num C 0 1 (.inl rfl) r.code w hr.2.1 hC.cell
  | .handle => exact fits_num B 2 4 (.inr (.inr rfl)) r.handle w hr.2.2.1 (h.cell 2)
  | .kind => exact fits_num B 3 1 (.inl rfl) r.kind w hr.2.2.2.1 (h.cell 3)
  | .size => exact fits_num B 4 4 (.inr (.inr rfl)) r.size w hr.2.2.2.2 (h.cell 4)
  | .data => exact fits_data B 5 r.data.length cd Ad w (h.cell 5)
  | .count => exact fits_num D 0 1 (.inl rfl) n w hn hD.cell
theorem msg_all_replied (B C D : Nat) (r : Reply) (n : Int) (Ad : Option Addr) (cd : Nat) (An : Option Addr) (cn : Nat) (Al : Option Addr) (cl base : Nat) (w : World) (hr : mr.Ok r) (hn : IntOk n) (h : mr.At w B r Ad cd An cn) (hC : mr.Box w C r.code) (hD : mr.Box w D n)
    (ho : Own w base 50 4 Al 7 cl (mr.all7.flatMap (mr.cells B C D))) :
    Calls Try.prog 21 #[.slice Al 7 cl] w fun e w' => e = .returned (.int .i64 (mr.allG (mr.fit r n) 0 mr.all7)) ∧ Below w.heap.size w w' :=
  msg_all_g mr.Sel.mark (mr.cells B C D) (mr.cells_four B C D) (mr.fit r n) (mr.fit_cases r n) mr.all7 Al cl base w (fun s w' hb => mr_fits B C D r n Ad cd An cn s w' hr hn (h.next hb) (hC.next hb) (hD.next hb)) ho (by decide)
end Go.Proofs.Ytcpbgiikfabaaaa
