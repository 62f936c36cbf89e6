/- Package seg: what is refused of a segment, and its reference. No condition. -/
import Derived.Test.YtedbidblnjajdaaSegP
import Derived.Test.YtedbidblnjajdaaSl
namespace Go.Proofs.Ytedbidblnjajdaa
open Go.RowKit

def Segment.val (s : Segment) (A0 : Option Addr) (c0 : Nat) (A1 : Option Addr) (c1 : Nat) : Value :=
  .agg #[.int .i64 s.seq, .int .i64 s.ack, .int .i64 s.window, .bool s.syn, .bool s.fin, .bool s.rst, .bool s.acks, .slice A0 s.sacks.length c0, .slice A1 s.data.length c1]

theorem seg_serial_yes (n : Int) (h : 0 ≤ n ∧ n < 65536) (w : World) : Calls Try.prog 85 #[.int .i64 n] w fun e w' => e = .returned (.bool true) ∧ w = w' := by
  obtain ⟨h1, h2⟩ := h
  go_enter Try.func85, Try.ntmps85
  go_wp2
  go_ret
  exact ⟨rfl, rfl⟩
theorem seg_serial_no (n : Int) (h : ¬ (0 ≤ n ∧ n < 65536)) (w : World) : Calls Try.prog 85 #[.int .i64 n] w fun e w' => e = .returned (.bool false) ∧ w = w' := by
  by_cases h1 : 0 ≤ n
  · have h2 : 65536 ≤ n := by omega
    clear h
    go_enter Try.func85, Try.ntmps85
    go_wp2
    go_ret
    exact ⟨ret_bool (decide_eq_false (by omega)), rfl⟩
  · have h2 : n < 0 := by omega
    clear h
    go_enter Try.func85, Try.ntmps85
    go_wp2
    go_ret
    exact ⟨rfl, rfl⟩
theorem ref_serial_yes (n : Int) (h : 0 ≤ n ∧ n < 65536) (w : World) : Calls Try.prog 87 #[.int .i64 n] w fun e w' => e = .returned (.bool true) ∧ w = w' := by
  obtain ⟨h1, h2⟩ := h
  have h3 : n ≤ 65535 := by omega
  go_enter Try.func87, Try.ntmps87
  go_wp2
  go_ret
  exact ⟨rfl, rfl⟩
theorem ref_serial_no (n : Int) (h : ¬ (0 ≤ n ∧ n < 65536)) (w : World) : Calls Try.prog 87 #[.int .i64 n] w fun e w' => e = .returned (.bool false) ∧ w = w' := by
  by_cases h1 : 0 ≤ n
  · have h2 : 65535 < n := by omega
    clear h
    go_enter Try.func87, Try.ntmps87
    go_wp2
    go_ret
    exact ⟨ret_bool (decide_eq_false (by omega)), rfl⟩
  · have h2 : n < 0 := by omega
    clear h
    go_enter Try.func87, Try.ntmps87
    go_wp2
    go_ret
    exact ⟨rfl, rfl⟩

set_option maxHeartbeats 400000 in
theorem seg_odd_no (x y : Int) (hx : 0 ≤ x ∧ x < 65536) (hy : 0 ≤ y ∧ y < 65536) (w : World) : Calls Try.prog 84 #[.agg #[.int .i64 x, .int .i64 y]] w fun e w' => e = .returned (.bool false) ∧ Below w.heap.size w w' := by
  have HX := Lib.hid hx
  have HY := Lib.hid hy
  clear hx hy
  go_enter Try.func84, Try.ntmps84
  go_wp2_with (first
    | (go_at_call 85; ((with_reducible refine (seg_serial_yes x HX.out _).mono ?_); rintro e w' ⟨rfl, rfl⟩))
    | (go_at_call 85; ((with_reducible refine (seg_serial_yes y HY.out _).mono ?_); rintro e w' ⟨rfl, rfl⟩)))
  go_ret
  exact ⟨rfl, (by repeat (first | (with_reducible exact Below.refl _ _) | (with_reducible assumption) | (with_reducible refine bset ?_ ?_ _) | (with_reducible refine balloc ?_ _) | (with_reducible refine Below.drew ?_) | (with_reducible refine bdrewN ?_ _) | (with_reducible refine bnext ?_ (by with_reducible assumption)) | exact Nat.le_refl _ | (simp; done) | omega | (simp; omega)))⟩
set_option maxHeartbeats 400000 in
theorem seg_odd_yes (x y : Int) (h : ¬ (0 ≤ x ∧ x < 65536) ∨ ¬ (0 ≤ y ∧ y < 65536)) (w : World) : Calls Try.prog 84 #[.agg #[.int .i64 x, .int .i64 y]] w fun e w' => e = .returned (.bool true) ∧ Below w.heap.size w w' := by
  by_cases hx : 0 ≤ x ∧ x < 65536
  · have hy : ¬ (0 ≤ y ∧ y < 65536) := by omega
    have HX := Lib.hid hx
    have HY := Lib.hid hy
    clear hx hy h
    go_enter Try.func84, Try.ntmps84
    go_wp2_with (first
      | (go_at_call 85; ((with_reducible refine (seg_serial_yes x HX.out _).mono ?_); rintro e w' ⟨rfl, rfl⟩))
      | (go_at_call 85; ((with_reducible refine (seg_serial_no y HY.out _).mono ?_); rintro e w' ⟨rfl, rfl⟩)))
    go_ret
    exact ⟨rfl, (by repeat (first | (with_reducible exact Below.refl _ _) | (with_reducible assumption) | (with_reducible refine bset ?_ ?_ _) | (with_reducible refine balloc ?_ _) | (with_reducible refine Below.drew ?_) | (with_reducible refine bdrewN ?_ _) | (with_reducible refine bnext ?_ (by with_reducible assumption)) | exact Nat.le_refl _ | (simp; done) | omega | (simp; omega)))⟩
  · have HX := Lib.hid hx
    clear hx h
    go_enter Try.func84, Try.ntmps84
    go_wp2_with (go_at_call 85; ((with_reducible refine (seg_serial_no x HX.out _).mono ?_); rintro e w' ⟨rfl, rfl⟩))
    go_ret
    exact ⟨rfl, (by repeat (first | (with_reducible exact Below.refl _ _) | (with_reducible assumption) | (with_reducible refine bset ?_ ?_ _) | (with_reducible refine balloc ?_ _) | (with_reducible refine Below.drew ?_) | (with_reducible refine bdrewN ?_ _) | (with_reducible refine bnext ?_ (by with_reducible assumption)) | exact Nat.le_refl _ | (simp; done) | omega | (simp; omega)))⟩

def IdxPost (b : Bool) (w : World) (e : Ending) (w' : World) : Prop := (∃ n : Int, e = .returned (.int .i64 n) ∧ -1 ≤ n ∧ n ≤ 3 ∧ (0 ≤ n ↔ b = false)) ∧ Below w.heap.size w w'
theorem IdxPost.mk {b : Bool} {w w' : World} {e : Ending} (n : Int) (h : e = .returned (.int .i64 n)) (h1 : -1 ≤ n) (h2 : n ≤ 3) (h3 : 0 ≤ n ↔ b = false) (hb : Below w.heap.size w w') : IdxPost b w e w' := ⟨⟨n, h, h1, h2, h3⟩, hb⟩
set_option maxHeartbeats 1000000 in
theorem seg_index (l : List Rng) (A : Option Addr) (c : Nat) (w : World) (hl : SlRep Rng.rep w (· < w.heap.size) l A c) (hn : l.length ≤ 3) :
    Calls Try.prog 96 #[.slice A l.length c, .func (.func 84) #[] #[]] w (IdxPost (l.all sg.rngOk) w) := by
  have HL := Lib.hid hl
  clear hl
  go_enter Try.func96, Try.ntmps96
  go_wp2
  go_loopw [5, 8] (fun _ i wr => ∃ k : Nat, k ≤ l.length ∧ i = .int .i64 k ∧ Hid (∀ j, j < k → sg.rngOk (l.getD j ⟨0, 0⟩) = true) ∧ Below w.heap.size w wr) (fun _ i _ => l.length - (intOf i).toNat)
  case atStart => exact ⟨0, by omega, rfl, Lib.hid (fun j hj => by omega), Below.refl _ _⟩
  case round =>
    obtain ⟨k, hk, rfl, HA, hB⟩ := hrel
    rename World => wr
    by_cases hlt : k < l.length
    · obtain ⟨b, o, rfl, hb, hc1, hc2⟩ := Rng.cells_at ⟨0, 0⟩ (HL.out.below hB) hlt
      have hbw : b < wr.heap.size := Nat.lt_of_lt_of_le hb hB.size
      have HI := Lib.hid (@sg.rngOk_iff (l.getD k ⟨0, 0⟩))
      have HN : Hid (sg.rngOk (l.getD k ⟨0, 0⟩) = true → ∀ j, j < k + 1 → sg.rngOk (l.getD j ⟨0, 0⟩) = true) := Lib.hid (fun h j hj => by
        rcases Nat.lt_or_ge j k with h' | h'
        · exact HA.out j h'
        · obtain rfl : j = k := by omega
          exact h)
      have HF : Hid (sg.rngOk (l.getD k ⟨0, 0⟩) = false → l.all sg.rngOk = false) := Lib.hid (fun h => sg.all_false hlt ⟨0, 0⟩ h)
      clear HL HA
      generalize l.getD k ⟨0, 0⟩ = r at *
      by_cases hr : (0 ≤ r.lo ∧ r.lo < 65536) ∧ (0 ≤ r.hi ∧ r.hi < 65536)
      · have HR := Lib.hid hr
        clear hr
        go_wp2_with (go_at_call 84; ((with_reducible refine (seg_odd_no r.lo r.hi HR.out.1 HR.out.2 _).mono ?_); rintro e w2 ⟨rfl, hb2⟩))
        go_roundw
        case rel => exact ⟨k + 1, by omega, by go_num, Lib.hid (HN.out (HI.out.2 HR.out)), bnext hB hb2⟩
        case measure => simp [intOf]; omega
      · have HR : Hid (¬ (0 ≤ r.lo ∧ r.lo < 65536) ∨ ¬ (0 ≤ r.hi ∧ r.hi < 65536)) := Lib.hid (by omega)
        have HR2 : Hid (sg.rngOk r = false) := Lib.hid (by cases e : sg.rngOk r with | false => rfl | true => exact absurd (HI.out.1 e) hr)
        clear hr
        go_wp2_with (go_at_call 84; ((with_reducible refine (seg_odd_yes r.lo r.hi HR.out _).mono ?_); rintro e w2 ⟨rfl, hb2⟩))
        go_ret
        exact IdxPost.mk k rfl (by omega) (by omega) ⟨fun _ => HF.out HR2.out, fun _ => by omega⟩ (bnext hB hb2)
    · obtain rfl : k = l.length := by omega
      have HT : Hid (l.all sg.rngOk = true) := Lib.hid (sg.all_of ⟨0, 0⟩ HA.out)
      clear HA HL
      go_wp2
      go_ret
      exact IdxPost.mk (-1) rfl (by omega) (by omega) ⟨fun h => by omega, fun h => by rw [HT.out] at h; cases h⟩ hB

set_option maxHeartbeats 400000 in
theorem seg_contains_yes (l : List Rng) (A : Option Addr) (c : Nat) (w : World) (hl : SlRep Rng.rep w (· < w.heap.size) l A c) (hn : l.length ≤ 3) (h : l.all sg.rngOk = false) :
    Calls Try.prog 86 #[.slice A l.length c, .func (.func 84) #[] #[]] w fun e w' => e = .returned (.bool true) ∧ Below w.heap.size w w' := by
  have HI := Lib.hid (seg_index l A c w hl hn)
  have HH := Lib.hid h
  clear hl h
  go_enter Try.func86, Try.ntmps86
  go_wp2_with (go_at_call 96; refine HI.out.mono ?_; rintro e w2 ⟨⟨n, rfl, h1, h2, h3⟩, hb2⟩; have h4 : 0 ≤ n := h3.2 HH.out; clear h3)
  go_ret
  exact ⟨rfl, hb2⟩
set_option maxHeartbeats 400000 in
theorem seg_contains_no (l : List Rng) (A : Option Addr) (c : Nat) (w : World) (hl : SlRep Rng.rep w (· < w.heap.size) l A c) (hn : l.length ≤ 3) (h : l.all sg.rngOk = true) :
    Calls Try.prog 86 #[.slice A l.length c, .func (.func 84) #[] #[]] w fun e w' => e = .returned (.bool false) ∧ Below w.heap.size w w' := by
  have HI := Lib.hid (seg_index l A c w hl hn)
  have HH := Lib.hid h
  clear hl h
  go_enter Try.func86, Try.ntmps86
  go_wp2_with (go_at_call 96; refine HI.out.mono ?_; rintro e w2 ⟨⟨n, rfl, h1, h2, h3⟩, hb2⟩; have h4 : n < 0 := Int.not_le.1 (fun h => by rw [HH.out] at h3; exact absurd (h3.1 h) (by simp)); clear h3)
  go_ret
  exact ⟨ret_bool (decide_eq_false (by omega)), hb2⟩

set_option maxRecDepth 100000 in
set_option maxHeartbeats 2000000 in
theorem seg_fault (s : Segment) (A0 A1 : Option Addr) (c0 c1 : Nat) (w : World) (h0 : SlRep Rng.rep w (· < w.heap.size) s.sacks A0 c0) (hn0 : s.sacks.length ≤ 140737488351232) (hn1 : s.data.length ≤ 140737488351232) :
    Calls Try.prog 57 #[s.val A0 c0 A1 c1] w fun e w' => e = .returned (.int .i64 (sg.fault s)) ∧ Below w.heap.size w w' := by
  have H0 := Lib.hid h0
  clear h0
  have HFT : Hid (sg.fault s = if sg.bad1 s then 2 else if 3 < s.sacks.length ∨ 64 < s.data.length then 1 else if s.sacks.all sg.rngOk = false then 2 else if sg.bad4 s then 4 else 0) := Lib.hid rfl
  have HB1 : Hid (sg.bad1 s ↔ ¬ (0 ≤ s.seq ∧ s.seq < 65536) ∨ ¬ (0 ≤ s.ack ∧ s.ack < 65536) ∨ s.window < 0 ∨ 65535 < s.window) := Lib.hid Iff.rfl
  have HB4 : Hid (sg.bad4 s ↔ s.acks = false ∧ (s.ack ≠ 0 ∨ s.window ≠ 0 ∨ s.sacks.length ≠ 0)) := Lib.hid Iff.rfl
  unfold Segment.val
  have HE := Lib.hid (fun (x : Int) (h : sg.fault s = x) => h)
  obtain ⟨seq, ack, window, syn, fin, rst, acks, sacks, data⟩ := s
  dsimp only at *
  by_cases hq : 0 ≤ seq ∧ seq < 65536
  · have HQ := Lib.hid hq
    by_cases ha : 0 ≤ ack ∧ ack < 65536
    · have HA := Lib.hid ha
      by_cases hw : window < 0
      · have HR : Hid (sg.fault ⟨seq, ack, window, syn, fin, rst, acks, sacks, data⟩ = 2) := Lib.hid (by rw [HFT.out, if_pos (HB1.out.2 (.inr (.inr (.inl hw))))])
        clear H0 HFT HB1 HB4 HE
        have HG := Lib.hid (ret_int (k := .i64) HR.out)
        clear hq ha
        go_enter Try.func57, Try.ntmps57
        go_wp2_with (first | (go_at_call 85; ((with_reducible refine (seg_serial_yes seq HQ.out _).mono ?_); rintro e w' ⟨rfl, rfl⟩)) | (go_at_call 85; ((with_reducible refine (seg_serial_yes ack HA.out _).mono ?_); rintro e w' ⟨rfl, rfl⟩)))
        go_ret
        exact ⟨HG.out.symm, (by repeat (first | (with_reducible exact Below.refl _ _) | (with_reducible assumption) | (with_reducible refine bset ?_ ?_ _) | (with_reducible refine balloc ?_ _) | (with_reducible refine Below.drew ?_) | (with_reducible refine bdrewN ?_ _) | (with_reducible refine bnext ?_ (by with_reducible assumption)) | exact Nat.le_refl _ | (simp; done) | omega | (simp; omega)))⟩
      · by_cases hw2 : 65535 < window
        · have HR : Hid (sg.fault ⟨seq, ack, window, syn, fin, rst, acks, sacks, data⟩ = 2) := Lib.hid (by rw [HFT.out, if_pos (HB1.out.2 (.inr (.inr (.inr hw2))))])
          clear H0 HFT HB1 HB4 HE
          have HG := Lib.hid (ret_int (k := .i64) HR.out)
          clear hq ha
          go_enter Try.func57, Try.ntmps57
          go_wp2_with (first | (go_at_call 85; ((with_reducible refine (seg_serial_yes seq HQ.out _).mono ?_); rintro e w' ⟨rfl, rfl⟩)) | (go_at_call 85; ((with_reducible refine (seg_serial_yes ack HA.out _).mono ?_); rintro e w' ⟨rfl, rfl⟩)))
          go_ret
          exact ⟨HG.out.symm, (by repeat (first | (with_reducible exact Below.refl _ _) | (with_reducible assumption) | (with_reducible refine bset ?_ ?_ _) | (with_reducible refine balloc ?_ _) | (with_reducible refine Below.drew ?_) | (with_reducible refine bdrewN ?_ _) | (with_reducible refine bnext ?_ (by with_reducible assumption)) | exact Nat.le_refl _ | (simp; done) | omega | (simp; omega)))⟩
        · have hw' : 0 ≤ window := by omega
          have hw2' : window ≤ 65535 := by omega
          have HN1 : Hid (¬ sg.bad1 ⟨seq, ack, window, syn, fin, rst, acks, sacks, data⟩) := Lib.hid (fun h => by rcases HB1.out.1 h with h | h | h | h; exact h hq; exact h ha; exact hw h; exact hw2 h)
          clear hq ha hw hw2
          by_cases hs : 3 < sacks.length
          · have HR : Hid (sg.fault ⟨seq, ack, window, syn, fin, rst, acks, sacks, data⟩ = 1) := Lib.hid (by rw [HFT.out, if_neg HN1.out, if_pos (.inl hs)])
            clear H0 HFT HB1 HB4 HE HN1
            have HG := Lib.hid (ret_int (k := .i64) HR.out)
            go_enter Try.func57, Try.ntmps57
            go_wp2_with (first | (go_at_call 85; ((with_reducible refine (seg_serial_yes seq HQ.out _).mono ?_); rintro e w' ⟨rfl, rfl⟩)) | (go_at_call 85; ((with_reducible refine (seg_serial_yes ack HA.out _).mono ?_); rintro e w' ⟨rfl, rfl⟩)))
            go_ret
            exact ⟨HG.out.symm, (by repeat (first | (with_reducible exact Below.refl _ _) | (with_reducible assumption) | (with_reducible refine bset ?_ ?_ _) | (with_reducible refine balloc ?_ _) | (with_reducible refine Below.drew ?_) | (with_reducible refine bdrewN ?_ _) | (with_reducible refine bnext ?_ (by with_reducible assumption)) | exact Nat.le_refl _ | (simp; done) | omega | (simp; omega)))⟩
          · by_cases hd : 64 < data.length
            · have HR : Hid (sg.fault ⟨seq, ack, window, syn, fin, rst, acks, sacks, data⟩ = 1) := Lib.hid (by rw [HFT.out, if_neg HN1.out, if_pos (.inr hd)])
              clear HFT HB1 HB4 HE HN1
              have HG := Lib.hid (ret_int (k := .i64) HR.out)
              have hs' : sacks.length ≤ 3 := by omega
              go_enter Try.func57, Try.ntmps57
              go_wp2_with (first | (go_at_call 85; ((with_reducible refine (seg_serial_yes seq HQ.out _).mono ?_); rintro e w' ⟨rfl, rfl⟩)) | (go_at_call 85; ((with_reducible refine (seg_serial_yes ack HA.out _).mono ?_); rintro e w' ⟨rfl, rfl⟩)))
              go_ret
              exact ⟨HG.out.symm, (by repeat (first | (with_reducible exact Below.refl _ _) | (with_reducible assumption) | (with_reducible refine bset ?_ ?_ _) | (with_reducible refine balloc ?_ _) | (with_reducible refine Below.drew ?_) | (with_reducible refine bdrewN ?_ _) | (with_reducible refine bnext ?_ (by with_reducible assumption)) | exact Nat.le_refl _ | (simp; done) | omega | (simp; omega)))⟩
            · have hs' : sacks.length ≤ 3 := by omega
              have hd' : data.length ≤ 64 := by omega
              have HN2 : Hid (¬ (3 < sacks.length ∨ 64 < data.length)) := Lib.hid (by omega)
              clear hs hd
              cases hall : sacks.all sg.rngOk with
              | false =>
                have HALL := Lib.hid hall
                have HR : Hid (sg.fault ⟨seq, ack, window, syn, fin, rst, acks, sacks, data⟩ = 2) := Lib.hid (by rw [HFT.out, if_neg HN1.out, if_neg HN2.out, if_pos HALL.out])
                clear HFT HB1 HB4 HE HN1 HN2
                have HG := Lib.hid (ret_int (k := .i64) HR.out)
                clear hall
                go_enter Try.func57, Try.ntmps57
                go_wp2_with (first | (go_at_call 85; ((with_reducible refine (seg_serial_yes seq HQ.out _).mono ?_); rintro e w' ⟨rfl, rfl⟩)) | (go_at_call 85; ((with_reducible refine (seg_serial_yes ack HA.out _).mono ?_); rintro e w' ⟨rfl, rfl⟩)) | (go_at_call 86; refine (seg_contains_yes sacks A0 c0 _ (H0.out.next (by repeat (first | (with_reducible exact Below.refl _ _) | (with_reducible assumption) | (with_reducible refine bset ?_ ?_ _) | (with_reducible refine balloc ?_ _) | (with_reducible refine Below.drew ?_) | (with_reducible refine bdrewN ?_ _) | (with_reducible refine bnext ?_ (by with_reducible assumption)) | exact Nat.le_refl _ | (simp; done) | omega | (simp; omega)))) hs' HALL.out).mono ?_; rintro e w2 ⟨rfl, hb2⟩; have B2 : Below w.heap.size w w2 := (by repeat (first | (with_reducible exact Below.refl _ _) | (with_reducible assumption) | (with_reducible refine bset ?_ ?_ _) | (with_reducible refine balloc ?_ _) | (with_reducible refine Below.drew ?_) | (with_reducible refine bdrewN ?_ _) | (with_reducible refine bnext ?_ (by with_reducible assumption)) | exact Nat.le_refl _ | (simp; done) | omega | (simp; omega))); have ha2 : ∀ b o, b < w.heap.size → w2.cell? ⟨b, o, none⟩ = w.cell? ⟨b, o, none⟩ := fun b o h => B2.cell (p := ⟨b, o, none⟩) h; have hk2 : ∀ k, k < w.heap.size → k < w2.heap.size := fun _ h => Nat.lt_of_lt_of_le h B2.size; have hz2 := hb2.size; (try simp at hz2); have hl2_w0 : w.heap.size < w2.heap.size := Nat.lt_of_lt_of_le (by first | (simp; done) | (simp; omega) | omega) hb2.size; have hc2_w0 := fun o => hb2.cell (p := ⟨w.heap.size, o, none⟩) (by first | (simp; done) | (simp; omega) | omega); have hf2_w0 := fun o => hb2.frozen (p := ⟨w.heap.size, o, none⟩) (by first | (simp; done) | (simp; omega) | omega); (try simp [go_sem, *] at hc2_w0); (try simp [go_sem, *] at hf2_w0); clear hb2))
                go_ret
                exact ⟨HG.out.symm, (by repeat (first | (with_reducible exact Below.refl _ _) | (with_reducible assumption) | (with_reducible refine bset ?_ ?_ _) | (with_reducible refine balloc ?_ _) | (with_reducible refine Below.drew ?_) | (with_reducible refine bdrewN ?_ _) | (with_reducible refine bnext ?_ (by with_reducible assumption)) | exact Nat.le_refl _ | (simp; done) | omega | (simp; omega)))⟩
              | true =>
                have HALL := Lib.hid hall
                have HN3 : Hid (¬ (sacks.all sg.rngOk = false)) := Lib.hid (by rw [hall]; simp)
                clear hall
                have HX4 : Hid (∀ x : Int, (if sg.bad4 ⟨seq, ack, window, syn, fin, rst, acks, sacks, data⟩ then (4 : Int) else 0) = x → sg.fault ⟨seq, ack, window, syn, fin, rst, acks, sacks, data⟩ = x) := Lib.hid (fun x hx => by rw [HFT.out, if_neg HN1.out, if_neg HN2.out, if_neg HN3.out, hx])
                cases acks with
                | true =>
                  have HR : Hid (sg.fault ⟨seq, ack, window, syn, fin, rst, true, sacks, data⟩ = 0) := Lib.hid (by exact HX4.out 0 (if_neg (fun h => by have := (HB4.out.1 h).1; cases this)))
                  clear HFT HB1 HB4 HE HN1 HN2 HN3 HX4
                  have HG := Lib.hid (ret_int (k := .i64) HR.out)
                  go_enter Try.func57, Try.ntmps57
                  go_wp2_with (first | (go_at_call 85; ((with_reducible refine (seg_serial_yes seq HQ.out _).mono ?_); rintro e w' ⟨rfl, rfl⟩)) | (go_at_call 85; ((with_reducible refine (seg_serial_yes ack HA.out _).mono ?_); rintro e w' ⟨rfl, rfl⟩)) | (go_at_call 86; refine (seg_contains_no sacks A0 c0 _ (H0.out.next (by repeat (first | (with_reducible exact Below.refl _ _) | (with_reducible assumption) | (with_reducible refine bset ?_ ?_ _) | (with_reducible refine balloc ?_ _) | (with_reducible refine Below.drew ?_) | (with_reducible refine bdrewN ?_ _) | (with_reducible refine bnext ?_ (by with_reducible assumption)) | exact Nat.le_refl _ | (simp; done) | omega | (simp; omega)))) hs' HALL.out).mono ?_; rintro e w2 ⟨rfl, hb2⟩; have B2 : Below w.heap.size w w2 := (by repeat (first | (with_reducible exact Below.refl _ _) | (with_reducible assumption) | (with_reducible refine bset ?_ ?_ _) | (with_reducible refine balloc ?_ _) | (with_reducible refine Below.drew ?_) | (with_reducible refine bdrewN ?_ _) | (with_reducible refine bnext ?_ (by with_reducible assumption)) | exact Nat.le_refl _ | (simp; done) | omega | (simp; omega))); have ha2 : ∀ b o, b < w.heap.size → w2.cell? ⟨b, o, none⟩ = w.cell? ⟨b, o, none⟩ := fun b o h => B2.cell (p := ⟨b, o, none⟩) h; have hk2 : ∀ k, k < w.heap.size → k < w2.heap.size := fun _ h => Nat.lt_of_lt_of_le h B2.size; have hz2 := hb2.size; (try simp at hz2); have hl2_w0 : w.heap.size < w2.heap.size := Nat.lt_of_lt_of_le (by first | (simp; done) | (simp; omega) | omega) hb2.size; have hc2_w0 := fun o => hb2.cell (p := ⟨w.heap.size, o, none⟩) (by first | (simp; done) | (simp; omega) | omega); have hf2_w0 := fun o => hb2.frozen (p := ⟨w.heap.size, o, none⟩) (by first | (simp; done) | (simp; omega) | omega); (try simp [go_sem, *] at hc2_w0); (try simp [go_sem, *] at hf2_w0); clear hb2))
                  go_ret
                  exact ⟨HG.out.symm, (by repeat (first | (with_reducible exact Below.refl _ _) | (with_reducible assumption) | (with_reducible refine bset ?_ ?_ _) | (with_reducible refine balloc ?_ _) | (with_reducible refine Below.drew ?_) | (with_reducible refine bdrewN ?_ _) | (with_reducible refine bnext ?_ (by with_reducible assumption)) | exact Nat.le_refl _ | (simp; done) | omega | (simp; omega)))⟩
                | false =>
                  by_cases z1 : ack = 0
                  · have Z1 := Lib.hid z1
                    clear z1
                    have hba1 : (ack == 0) = true := by rw [beq_iff_eq]; exact Z1.out
                    have hba2 : (ack != 0) = false := by rw [bne, hba1]; rfl
                    by_cases z2 : window = 0
                    · have Z2 := Lib.hid z2
                      clear z2
                      have hbw1 : (window == 0) = true := by rw [beq_iff_eq]; exact Z2.out
                      have hbw2 : (window != 0) = false := by rw [bne, hbw1]; rfl
                      by_cases z3 : 0 < sacks.length
                      · have HR : Hid (sg.fault ⟨seq, ack, window, syn, fin, rst, false, sacks, data⟩ = 4) := Lib.hid (by exact HX4.out 4 (if_pos (HB4.out.2 ⟨rfl, .inr (.inr (by omega))⟩)))
                        clear HFT HB1 HB4 HE HN1 HN2 HN3 HX4
                        have HG := Lib.hid (ret_int (k := .i64) HR.out)
                        go_enter Try.func57, Try.ntmps57
                        go_wp2_with (first | (go_at_call 85; ((with_reducible refine (seg_serial_yes seq HQ.out _).mono ?_); rintro e w' ⟨rfl, rfl⟩)) | (go_at_call 85; ((with_reducible refine (seg_serial_yes ack HA.out _).mono ?_); rintro e w' ⟨rfl, rfl⟩)) | (go_at_call 86; refine (seg_contains_no sacks A0 c0 _ (H0.out.next (by repeat (first | (with_reducible exact Below.refl _ _) | (with_reducible assumption) | (with_reducible refine bset ?_ ?_ _) | (with_reducible refine balloc ?_ _) | (with_reducible refine Below.drew ?_) | (with_reducible refine bdrewN ?_ _) | (with_reducible refine bnext ?_ (by with_reducible assumption)) | exact Nat.le_refl _ | (simp; done) | omega | (simp; omega)))) hs' HALL.out).mono ?_; rintro e w2 ⟨rfl, hb2⟩; have B2 : Below w.heap.size w w2 := (by repeat (first | (with_reducible exact Below.refl _ _) | (with_reducible assumption) | (with_reducible refine bset ?_ ?_ _) | (with_reducible refine balloc ?_ _) | (with_reducible refine Below.drew ?_) | (with_reducible refine bdrewN ?_ _) | (with_reducible refine bnext ?_ (by with_reducible assumption)) | exact Nat.le_refl _ | (simp; done) | omega | (simp; omega))); have ha2 : ∀ b o, b < w.heap.size → w2.cell? ⟨b, o, none⟩ = w.cell? ⟨b, o, none⟩ := fun b o h => B2.cell (p := ⟨b, o, none⟩) h; have hk2 : ∀ k, k < w.heap.size → k < w2.heap.size := fun _ h => Nat.lt_of_lt_of_le h B2.size; have hz2 := hb2.size; (try simp at hz2); have hl2_w0 : w.heap.size < w2.heap.size := Nat.lt_of_lt_of_le (by first | (simp; done) | (simp; omega) | omega) hb2.size; have hc2_w0 := fun o => hb2.cell (p := ⟨w.heap.size, o, none⟩) (by first | (simp; done) | (simp; omega) | omega); have hf2_w0 := fun o => hb2.frozen (p := ⟨w.heap.size, o, none⟩) (by first | (simp; done) | (simp; omega) | omega); (try simp [go_sem, *] at hc2_w0); (try simp [go_sem, *] at hf2_w0); clear hb2))
                        go_ret
                        exact ⟨HG.out.symm, (by repeat (first | (with_reducible exact Below.refl _ _) | (with_reducible assumption) | (with_reducible refine bset ?_ ?_ _) | (with_reducible refine balloc ?_ _) | (with_reducible refine Below.drew ?_) | (with_reducible refine bdrewN ?_ _) | (with_reducible refine bnext ?_ (by with_reducible assumption)) | exact Nat.le_refl _ | (simp; done) | omega | (simp; omega)))⟩
                      · have HR : Hid (sg.fault ⟨seq, ack, window, syn, fin, rst, false, sacks, data⟩ = 0) := Lib.hid (by exact HX4.out 0 (if_neg (fun h => by rcases (HB4.out.1 h).2 with h | h | h; exact h Z1.out; exact h Z2.out; exact h (by omega))))
                        clear HFT HB1 HB4 HE HN1 HN2 HN3 HX4
                        have HG := Lib.hid (ret_int (k := .i64) HR.out)
                        have z3' : sacks.length ≤ 0 := by omega
                        go_enter Try.func57, Try.ntmps57
                        go_wp2_with (first | (go_at_call 85; ((with_reducible refine (seg_serial_yes seq HQ.out _).mono ?_); rintro e w' ⟨rfl, rfl⟩)) | (go_at_call 85; ((with_reducible refine (seg_serial_yes ack HA.out _).mono ?_); rintro e w' ⟨rfl, rfl⟩)) | (go_at_call 86; refine (seg_contains_no sacks A0 c0 _ (H0.out.next (by repeat (first | (with_reducible exact Below.refl _ _) | (with_reducible assumption) | (with_reducible refine bset ?_ ?_ _) | (with_reducible refine balloc ?_ _) | (with_reducible refine Below.drew ?_) | (with_reducible refine bdrewN ?_ _) | (with_reducible refine bnext ?_ (by with_reducible assumption)) | exact Nat.le_refl _ | (simp; done) | omega | (simp; omega)))) hs' HALL.out).mono ?_; rintro e w2 ⟨rfl, hb2⟩; have B2 : Below w.heap.size w w2 := (by repeat (first | (with_reducible exact Below.refl _ _) | (with_reducible assumption) | (with_reducible refine bset ?_ ?_ _) | (with_reducible refine balloc ?_ _) | (with_reducible refine Below.drew ?_) | (with_reducible refine bdrewN ?_ _) | (with_reducible refine bnext ?_ (by with_reducible assumption)) | exact Nat.le_refl _ | (simp; done) | omega | (simp; omega))); have ha2 : ∀ b o, b < w.heap.size → w2.cell? ⟨b, o, none⟩ = w.cell? ⟨b, o, none⟩ := fun b o h => B2.cell (p := ⟨b, o, none⟩) h; have hk2 : ∀ k, k < w.heap.size → k < w2.heap.size := fun _ h => Nat.lt_of_lt_of_le h B2.size; have hz2 := hb2.size; (try simp at hz2); have hl2_w0 : w.heap.size < w2.heap.size := Nat.lt_of_lt_of_le (by first | (simp; done) | (simp; omega) | omega) hb2.size; have hc2_w0 := fun o => hb2.cell (p := ⟨w.heap.size, o, none⟩) (by first | (simp; done) | (simp; omega) | omega); have hf2_w0 := fun o => hb2.frozen (p := ⟨w.heap.size, o, none⟩) (by first | (simp; done) | (simp; omega) | omega); (try simp [go_sem, *] at hc2_w0); (try simp [go_sem, *] at hf2_w0); clear hb2))
                        go_ret
                        exact ⟨HG.out.symm, (by repeat (first | (with_reducible exact Below.refl _ _) | (with_reducible assumption) | (with_reducible refine bset ?_ ?_ _) | (with_reducible refine balloc ?_ _) | (with_reducible refine Below.drew ?_) | (with_reducible refine bdrewN ?_ _) | (with_reducible refine bnext ?_ (by with_reducible assumption)) | exact Nat.le_refl _ | (simp; done) | omega | (simp; omega)))⟩
                    · have Z2 := Lib.hid z2
                      clear z2
                      have hbw1 : (window == 0) = false := by rw [beq_eq_false_iff_ne]; exact Z2.out
                      have hbw2 : (window != 0) = true := by rw [bne, hbw1]; rfl
                      have HR : Hid (sg.fault ⟨seq, ack, window, syn, fin, rst, false, sacks, data⟩ = 4) := Lib.hid (by exact HX4.out 4 (if_pos (HB4.out.2 ⟨rfl, .inr (.inl Z2.out)⟩)))
                      clear HFT HB1 HB4 HE HN1 HN2 HN3 HX4
                      have HG := Lib.hid (ret_int (k := .i64) HR.out)
                      go_enter Try.func57, Try.ntmps57
                      go_wp2_with (first | (go_at_call 85; ((with_reducible refine (seg_serial_yes seq HQ.out _).mono ?_); rintro e w' ⟨rfl, rfl⟩)) | (go_at_call 85; ((with_reducible refine (seg_serial_yes ack HA.out _).mono ?_); rintro e w' ⟨rfl, rfl⟩)) | (go_at_call 86; refine (seg_contains_no sacks A0 c0 _ (H0.out.next (by repeat (first | (with_reducible exact Below.refl _ _) | (with_reducible assumption) | (with_reducible refine bset ?_ ?_ _) | (with_reducible refine balloc ?_ _) | (with_reducible refine Below.drew ?_) | (with_reducible refine bdrewN ?_ _) | (with_reducible refine bnext ?_ (by with_reducible assumption)) | exact Nat.le_refl _ | (simp; done) | omega | (simp; omega)))) hs' HALL.out).mono ?_; rintro e w2 ⟨rfl, hb2⟩; have B2 : Below w.heap.size w w2 := (by repeat (first | (with_reducible exact Below.refl _ _) | (with_reducible assumption) | (with_reducible refine bset ?_ ?_ _) | (with_reducible refine balloc ?_ _) | (with_reducible refine Below.drew ?_) | (with_reducible refine bdrewN ?_ _) | (with_reducible refine bnext ?_ (by with_reducible assumption)) | exact Nat.le_refl _ | (simp; done) | omega | (simp; omega))); have ha2 : ∀ b o, b < w.heap.size → w2.cell? ⟨b, o, none⟩ = w.cell? ⟨b, o, none⟩ := fun b o h => B2.cell (p := ⟨b, o, none⟩) h; have hk2 : ∀ k, k < w.heap.size → k < w2.heap.size := fun _ h => Nat.lt_of_lt_of_le h B2.size; have hz2 := hb2.size; (try simp at hz2); have hl2_w0 : w.heap.size < w2.heap.size := Nat.lt_of_lt_of_le (by first | (simp; done) | (simp; omega) | omega) hb2.size; have hc2_w0 := fun o => hb2.cell (p := ⟨w.heap.size, o, none⟩) (by first | (simp; done) | (simp; omega) | omega); have hf2_w0 := fun o => hb2.frozen (p := ⟨w.heap.size, o, none⟩) (by first | (simp; done) | (simp; omega) | omega); (try simp [go_sem, *] at hc2_w0); (try simp [go_sem, *] at hf2_w0); clear hb2))
                      go_ret
                      exact ⟨HG.out.symm, (by repeat (first | (with_reducible exact Below.refl _ _) | (with_reducible assumption) | (with_reducible refine bset ?_ ?_ _) | (with_reducible refine balloc ?_ _) | (with_reducible refine Below.drew ?_) | (with_reducible refine bdrewN ?_ _) | (with_reducible refine bnext ?_ (by with_reducible assumption)) | exact Nat.le_refl _ | (simp; done) | omega | (simp; omega)))⟩
                  · have Z1 := Lib.hid z1
                    clear z1
                    have hba1 : (ack == 0) = false := by rw [beq_eq_false_iff_ne]; exact Z1.out
                    have hba2 : (ack != 0) = true := by rw [bne, hba1]; rfl
                    have HR : Hid (sg.fault ⟨seq, ack, window, syn, fin, rst, false, sacks, data⟩ = 4) := Lib.hid (by exact HX4.out 4 (if_pos (HB4.out.2 ⟨rfl, .inl Z1.out⟩)))
                    clear HFT HB1 HB4 HE HN1 HN2 HN3 HX4
                    have HG := Lib.hid (ret_int (k := .i64) HR.out)
                    go_enter Try.func57, Try.ntmps57
                    go_wp2_with (first | (go_at_call 85; ((with_reducible refine (seg_serial_yes seq HQ.out _).mono ?_); rintro e w' ⟨rfl, rfl⟩)) | (go_at_call 85; ((with_reducible refine (seg_serial_yes ack HA.out _).mono ?_); rintro e w' ⟨rfl, rfl⟩)) | (go_at_call 86; refine (seg_contains_no sacks A0 c0 _ (H0.out.next (by repeat (first | (with_reducible exact Below.refl _ _) | (with_reducible assumption) | (with_reducible refine bset ?_ ?_ _) | (with_reducible refine balloc ?_ _) | (with_reducible refine Below.drew ?_) | (with_reducible refine bdrewN ?_ _) | (with_reducible refine bnext ?_ (by with_reducible assumption)) | exact Nat.le_refl _ | (simp; done) | omega | (simp; omega)))) hs' HALL.out).mono ?_; rintro e w2 ⟨rfl, hb2⟩; have B2 : Below w.heap.size w w2 := (by repeat (first | (with_reducible exact Below.refl _ _) | (with_reducible assumption) | (with_reducible refine bset ?_ ?_ _) | (with_reducible refine balloc ?_ _) | (with_reducible refine Below.drew ?_) | (with_reducible refine bdrewN ?_ _) | (with_reducible refine bnext ?_ (by with_reducible assumption)) | exact Nat.le_refl _ | (simp; done) | omega | (simp; omega))); have ha2 : ∀ b o, b < w.heap.size → w2.cell? ⟨b, o, none⟩ = w.cell? ⟨b, o, none⟩ := fun b o h => B2.cell (p := ⟨b, o, none⟩) h; have hk2 : ∀ k, k < w.heap.size → k < w2.heap.size := fun _ h => Nat.lt_of_lt_of_le h B2.size; have hz2 := hb2.size; (try simp at hz2); have hl2_w0 : w.heap.size < w2.heap.size := Nat.lt_of_lt_of_le (by first | (simp; done) | (simp; omega) | omega) hb2.size; have hc2_w0 := fun o => hb2.cell (p := ⟨w.heap.size, o, none⟩) (by first | (simp; done) | (simp; omega) | omega); have hf2_w0 := fun o => hb2.frozen (p := ⟨w.heap.size, o, none⟩) (by first | (simp; done) | (simp; omega) | omega); (try simp [go_sem, *] at hc2_w0); (try simp [go_sem, *] at hf2_w0); clear hb2))
                    go_ret
                    exact ⟨HG.out.symm, (by repeat (first | (with_reducible exact Below.refl _ _) | (with_reducible assumption) | (with_reducible refine bset ?_ ?_ _) | (with_reducible refine balloc ?_ _) | (with_reducible refine Below.drew ?_) | (with_reducible refine bdrewN ?_ _) | (with_reducible refine bnext ?_ (by with_reducible assumption)) | exact Nat.le_refl _ | (simp; done) | omega | (simp; omega)))⟩
    · have HA := Lib.hid ha
      have HR : Hid (sg.fault ⟨seq, ack, window, syn, fin, rst, acks, sacks, data⟩ = 2) := Lib.hid (by rw [HFT.out, if_pos (HB1.out.2 (.inr (.inl ha)))])
      clear H0 HFT HB1 HB4 HE
      have HG := Lib.hid (ret_int (k := .i64) HR.out)
      clear hq ha
      go_enter Try.func57, Try.ntmps57
      go_wp2_with (first | (go_at_call 85; ((with_reducible refine (seg_serial_yes seq HQ.out _).mono ?_); rintro e w' ⟨rfl, rfl⟩)) | (go_at_call 85; ((with_reducible refine (seg_serial_no ack HA.out _).mono ?_); rintro e w' ⟨rfl, rfl⟩)))
      go_ret
      exact ⟨HG.out.symm, (by repeat (first | (with_reducible exact Below.refl _ _) | (with_reducible assumption) | (with_reducible refine bset ?_ ?_ _) | (with_reducible refine balloc ?_ _) | (with_reducible refine Below.drew ?_) | (with_reducible refine bdrewN ?_ _) | (with_reducible refine bnext ?_ (by with_reducible assumption)) | exact Nat.le_refl _ | (simp; done) | omega | (simp; omega)))⟩
  · have HQ := Lib.hid hq
    have HR : Hid (sg.fault ⟨seq, ack, window, syn, fin, rst, acks, sacks, data⟩ = 2) := Lib.hid (by rw [HFT.out, if_pos (HB1.out.2 (.inl hq))])
    clear H0 HFT HB1 HB4 HE
    have HG := Lib.hid (ret_int (k := .i64) HR.out)
    clear hq
    go_enter Try.func57, Try.ntmps57
    go_wp2_with (first | (go_at_call 85; ((with_reducible refine (seg_serial_no seq HQ.out _).mono ?_); rintro e w' ⟨rfl, rfl⟩)))
    go_ret
    exact ⟨HG.out.symm, (by repeat (first | (with_reducible exact Below.refl _ _) | (with_reducible assumption) | (with_reducible refine bset ?_ ?_ _) | (with_reducible refine balloc ?_ _) | (with_reducible refine Below.drew ?_) | (with_reducible refine bdrewN ?_ _) | (with_reducible refine bnext ?_ (by with_reducible assumption)) | exact Nat.le_refl _ | (simp; done) | omega | (simp; omega)))⟩
set_option maxRecDepth 100000 in
set_option maxHeartbeats 2000000 in
theorem ref_segFault (s : Segment) (A0 A1 : Option Addr) (c0 c1 : Nat) (w : World) (h0 : SlRep Rng.rep w (· < w.heap.size) s.sacks A0 c0) (hn0 : s.sacks.length ≤ 140737488351232) (hn1 : s.data.length ≤ 140737488351232) :
    Calls Try.prog 61 #[s.val A0 c0 A1 c1] w fun e w' => e = .returned (.int .i64 (sg.fault s)) ∧ Below w.heap.size w w' := by
  have H0 := Lib.hid h0
  clear h0
  have HFT : Hid (sg.fault s = if sg.bad1 s then 2 else if 3 < s.sacks.length ∨ 64 < s.data.length then 1 else if s.sacks.all sg.rngOk = false then 2 else if sg.bad4 s then 4 else 0) := Lib.hid rfl
  have HB1 : Hid (sg.bad1 s ↔ ¬ (0 ≤ s.seq ∧ s.seq < 65536) ∨ ¬ (0 ≤ s.ack ∧ s.ack < 65536) ∨ s.window < 0 ∨ 65535 < s.window) := Lib.hid Iff.rfl
  have HB4 : Hid (sg.bad4 s ↔ s.acks = false ∧ (s.ack ≠ 0 ∨ s.window ≠ 0 ∨ s.sacks.length ≠ 0)) := Lib.hid Iff.rfl
  unfold Segment.val
  have HE := Lib.hid (fun (x : Int) (h : sg.fault s = x) => h)
  obtain ⟨seq, ack, window, syn, fin, rst, acks, sacks, data⟩ := s
  dsimp only at *
  by_cases hq : 0 ≤ seq ∧ seq < 65536
  · have HQ := Lib.hid hq
    by_cases ha : 0 ≤ ack ∧ ack < 65536
    · have HA := Lib.hid ha
      by_cases hw : window < 0
      · have HR : Hid (sg.fault ⟨seq, ack, window, syn, fin, rst, acks, sacks, data⟩ = 2) := Lib.hid (by rw [HFT.out, if_pos (HB1.out.2 (.inr (.inr (.inl hw))))])
        clear H0 HFT HB1 HB4 HE
        have HG := Lib.hid (ret_int (k := .i64) HR.out)
        clear hq ha
        go_enter Try.func61, Try.ntmps61
        go_wp2_with (first | (go_at_call 87; ((with_reducible refine (ref_serial_yes seq HQ.out _).mono ?_); rintro e w' ⟨rfl, rfl⟩)) | (go_at_call 87; ((with_reducible refine (ref_serial_yes ack HA.out _).mono ?_); rintro e w' ⟨rfl, rfl⟩)))
        go_ret
        exact ⟨HG.out.symm, (by repeat (first | (with_reducible exact Below.refl _ _) | (with_reducible assumption) | (with_reducible refine bset ?_ ?_ _) | (with_reducible refine balloc ?_ _) | (with_reducible refine Below.drew ?_) | (with_reducible refine bdrewN ?_ _) | (with_reducible refine bnext ?_ (by with_reducible assumption)) | exact Nat.le_refl _ | (simp; done) | omega | (simp; omega)))⟩
      · by_cases hw2 : 65535 < window
        · have HR : Hid (sg.fault ⟨seq, ack, window, syn, fin, rst, acks, sacks, data⟩ = 2) := Lib.hid (by rw [HFT.out, if_pos (HB1.out.2 (.inr (.inr (.inr hw2))))])
          clear H0 HFT HB1 HB4 HE
          have HG := Lib.hid (ret_int (k := .i64) HR.out)
          clear hq ha
          go_enter Try.func61, Try.ntmps61
          go_wp2_with (first | (go_at_call 87; ((with_reducible refine (ref_serial_yes seq HQ.out _).mono ?_); rintro e w' ⟨rfl, rfl⟩)) | (go_at_call 87; ((with_reducible refine (ref_serial_yes ack HA.out _).mono ?_); rintro e w' ⟨rfl, rfl⟩)))
          go_ret
          exact ⟨HG.out.symm, (by repeat (first | (with_reducible exact Below.refl _ _) | (with_reducible assumption) | (with_reducible refine bset ?_ ?_ _) | (with_reducible refine balloc ?_ _) | (with_reducible refine Below.drew ?_) | (with_reducible refine bdrewN ?_ _) | (with_reducible refine bnext ?_ (by with_reducible assumption)) | exact Nat.le_refl _ | (simp; done) | omega | (simp; omega)))⟩
        · have hw' : 0 ≤ window := by omega
          have hw2' : window ≤ 65535 := by omega
          have HN1 : Hid (¬ sg.bad1 ⟨seq, ack, window, syn, fin, rst, acks, sacks, data⟩) := Lib.hid (fun h => by rcases HB1.out.1 h with h | h | h | h; exact h hq; exact h ha; exact hw h; exact hw2 h)
          clear hq ha hw hw2
          by_cases hs : 3 < sacks.length
          · have HR : Hid (sg.fault ⟨seq, ack, window, syn, fin, rst, acks, sacks, data⟩ = 1) := Lib.hid (by rw [HFT.out, if_neg HN1.out, if_pos (.inl hs)])
            clear H0 HFT HB1 HB4 HE HN1
            have HG := Lib.hid (ret_int (k := .i64) HR.out)
            go_enter Try.func61, Try.ntmps61
            go_wp2_with (first | (go_at_call 87; ((with_reducible refine (ref_serial_yes seq HQ.out _).mono ?_); rintro e w' ⟨rfl, rfl⟩)) | (go_at_call 87; ((with_reducible refine (ref_serial_yes ack HA.out _).mono ?_); rintro e w' ⟨rfl, rfl⟩)))
            go_ret
            exact ⟨HG.out.symm, (by repeat (first | (with_reducible exact Below.refl _ _) | (with_reducible assumption) | (with_reducible refine bset ?_ ?_ _) | (with_reducible refine balloc ?_ _) | (with_reducible refine Below.drew ?_) | (with_reducible refine bdrewN ?_ _) | (with_reducible refine bnext ?_ (by with_reducible assumption)) | exact Nat.le_refl _ | (simp; done) | omega | (simp; omega)))⟩
          · by_cases hd : 64 < data.length
            · have HR : Hid (sg.fault ⟨seq, ack, window, syn, fin, rst, acks, sacks, data⟩ = 1) := Lib.hid (by rw [HFT.out, if_neg HN1.out, if_pos (.inr hd)])
              clear HFT HB1 HB4 HE HN1
              have HG := Lib.hid (ret_int (k := .i64) HR.out)
              have hs' : sacks.length ≤ 3 := by omega
              go_enter Try.func61, Try.ntmps61
              go_wp2_with (first | (go_at_call 87; ((with_reducible refine (ref_serial_yes seq HQ.out _).mono ?_); rintro e w' ⟨rfl, rfl⟩)) | (go_at_call 87; ((with_reducible refine (ref_serial_yes ack HA.out _).mono ?_); rintro e w' ⟨rfl, rfl⟩)))
              go_ret
              exact ⟨HG.out.symm, (by repeat (first | (with_reducible exact Below.refl _ _) | (with_reducible assumption) | (with_reducible refine bset ?_ ?_ _) | (with_reducible refine balloc ?_ _) | (with_reducible refine Below.drew ?_) | (with_reducible refine bdrewN ?_ _) | (with_reducible refine bnext ?_ (by with_reducible assumption)) | exact Nat.le_refl _ | (simp; done) | omega | (simp; omega)))⟩
            · have hs' : sacks.length ≤ 3 := by omega
              have hd' : data.length ≤ 64 := by omega
              have HN2 : Hid (¬ (3 < sacks.length ∨ 64 < data.length)) := Lib.hid (by omega)
              clear hs hd
              cases hall : sacks.all sg.rngOk with
              | false =>
                have HALL := Lib.hid hall
                have HR : Hid (sg.fault ⟨seq, ack, window, syn, fin, rst, acks, sacks, data⟩ = 2) := Lib.hid (by rw [HFT.out, if_neg HN1.out, if_neg HN2.out, if_pos HALL.out])
                clear HFT HB1 HB4 HE HN1 HN2
                have HG := Lib.hid (ret_int (k := .i64) HR.out)
                clear hall
                go_enter Try.func61, Try.ntmps61
                go_wp2_with (first | (go_at_call 87; ((with_reducible refine (ref_serial_yes seq HQ.out _).mono ?_); rintro e w' ⟨rfl, rfl⟩)) | (go_at_call 87; ((with_reducible refine (ref_serial_yes ack HA.out _).mono ?_); rintro e w' ⟨rfl, rfl⟩)))
                obtain ⟨w1, hw1⟩ : ∃ w1, w1 = w.alloc (.cells #[.int .i64 seq, .int .i64 ack, .int .i64 window, .bool syn, .bool fin, .bool rst, .bool acks, .slice A0 sacks.length c0, .slice A1 data.length c1] 50) := ⟨_, rfl⟩
                have hx1 : w1.cell? ⟨w.heap.size, 1, none⟩ = some (.int .i64 ack) := by rw [hw1]; simp [go_sem]
                have hx2 : w1.cell? ⟨w.heap.size, 2, none⟩ = some (.int .i64 window) := by rw [hw1]; simp [go_sem]
                have hx6 : w1.cell? ⟨w.heap.size, 6, none⟩ = some (.bool acks) := by rw [hw1]; simp [go_sem]
                have hx7 : w1.cell? ⟨w.heap.size, 7, none⟩ = some (.slice A0 sacks.length c0) := by rw [hw1]; simp [go_sem]
                have hs1 : w.heap.size < w1.heap.size := by rw [hw1]; simp
                have hb1 : Below w.heap.size w w1 := by rw [hw1]; exact balloc (bself w) _
                rw [← hw1]
                clear hw1
                have HX1 := Lib.hid hx1
                have HX2 := Lib.hid hx2
                have HX6 := Lib.hid hx6
                have HX7 := Lib.hid hx7
                clear hx1 hx2 hx6 hx7
                go_loopw [38] (fun i wr => ∃ k : Nat, k ≤ sacks.length ∧ i = .int .i64 k ∧ Hid (∀ j, j < k → sg.rngOk (sacks.getD j ⟨0, 0⟩) = true) ∧ Below w.heap.size w wr ∧ Below (w.heap.size + 1) w1 wr) (fun i _ => sacks.length - (intOf i).toNat)
                case atStart => exact ⟨0, by omega, rfl, Lib.hid (fun j hj => by omega), hb1, Below.refl _ _⟩
                case round =>
                  obtain ⟨k, hk, rfl, HAK, hB, hB1⟩ := hrel
                  rename World => wr
                  by_cases hlt : k < sacks.length
                  · obtain ⟨b, o, rfl, hb, hc1, hc2⟩ := Rng.cells_at ⟨0, 0⟩ (H0.out.below hB) hlt
                    have hbw : b < wr.heap.size := Nat.lt_of_lt_of_le hb hB.size
                    have HI := Lib.hid (@sg.rngOk_iff (sacks.getD k ⟨0, 0⟩))
                    have HN : Hid (sg.rngOk (sacks.getD k ⟨0, 0⟩) = true → ∀ j, j < k + 1 → sg.rngOk (sacks.getD j ⟨0, 0⟩) = true) := Lib.hid (fun h j hj => by
                      rcases Nat.lt_or_ge j k with h' | h'
                      · exact HAK.out j h'
                      · obtain rfl : j = k := by omega
                        exact h)
                    have HDUMMY : Hid True := Lib.hid trivial
                    clear H0 HAK
                    generalize sacks.getD k ⟨0, 0⟩ = r at *
                    by_cases hr : (0 ≤ r.lo ∧ r.lo < 65536) ∧ (0 ≤ r.hi ∧ r.hi < 65536)
                    · have HR1 := Lib.hid hr.1
                      have HR2 := Lib.hid hr.2
                      have HOK := Lib.hid (HI.out.2 hr)
                      clear hr
                      go_wp2_with (first | (go_at_call 87; ((with_reducible refine (ref_serial_yes r.lo HR1.out _).mono ?_); rintro e w' ⟨rfl, rfl⟩)) | (go_at_call 87; ((with_reducible refine (ref_serial_yes r.hi HR2.out _).mono ?_); rintro e w' ⟨rfl, rfl⟩)))
                      go_roundw
                      case rel => exact ⟨k + 1, by omega, by go_num, Lib.hid (HN.out HOK.out), (by repeat (first | (with_reducible exact Below.refl _ _) | (with_reducible assumption) | (with_reducible refine bset ?_ ?_ _) | (with_reducible refine balloc ?_ _) | (with_reducible refine Below.drew ?_) | (with_reducible refine bdrewN ?_ _) | (with_reducible refine bnext ?_ (by with_reducible assumption)) | exact Nat.le_refl _ | (simp; done) | omega | (simp; omega))), Below.alloc hB1 (by have := hB1.size; omega) _⟩
                      case measure => simp [intOf]; omega
                    · by_cases hlo : 0 ≤ r.lo ∧ r.lo < 65536
                      · have HR1 := Lib.hid hlo
                        have HR2 : Hid (¬ (0 ≤ r.hi ∧ r.hi < 65536)) := Lib.hid (fun h => hr ⟨hlo, h⟩)
                        clear hr hlo
                        go_wp2_with (first | (go_at_call 87; ((with_reducible refine (ref_serial_yes r.lo HR1.out _).mono ?_); rintro e w' ⟨rfl, rfl⟩)) | (go_at_call 87; ((with_reducible refine (ref_serial_no r.hi HR2.out _).mono ?_); rintro e w' ⟨rfl, rfl⟩)))
                        go_ret
                        exact ⟨HG.out.symm, (by repeat (first | (with_reducible exact Below.refl _ _) | (with_reducible assumption) | (with_reducible refine bset ?_ ?_ _) | (with_reducible refine balloc ?_ _) | (with_reducible refine Below.drew ?_) | (with_reducible refine bdrewN ?_ _) | (with_reducible refine bnext ?_ (by with_reducible assumption)) | exact Nat.le_refl _ | (simp; done) | omega | (simp; omega)))⟩
                      · have HR1 := Lib.hid hlo
                        clear hr hlo
                        go_wp2_with (go_at_call 87; ((with_reducible refine (ref_serial_no r.lo HR1.out _).mono ?_); rintro e w' ⟨rfl, rfl⟩))
                        go_ret
                        exact ⟨HG.out.symm, (by repeat (first | (with_reducible exact Below.refl _ _) | (with_reducible assumption) | (with_reducible refine bset ?_ ?_ _) | (with_reducible refine balloc ?_ _) | (with_reducible refine Below.drew ?_) | (with_reducible refine bdrewN ?_ _) | (with_reducible refine bnext ?_ (by with_reducible assumption)) | exact Nat.le_refl _ | (simp; done) | omega | (simp; omega)))⟩
                  · obtain rfl : k = sacks.length := by omega
                    exact absurd (sg.all_of ⟨0, 0⟩ HAK.out) (by rw [HALL.out]; simp)
              | true =>
                have HALL := Lib.hid hall
                have HN3 : Hid (¬ (sacks.all sg.rngOk = false)) := Lib.hid (by rw [hall]; simp)
                clear hall
                have HX4 : Hid (∀ x : Int, (if sg.bad4 ⟨seq, ack, window, syn, fin, rst, acks, sacks, data⟩ then (4 : Int) else 0) = x → sg.fault ⟨seq, ack, window, syn, fin, rst, acks, sacks, data⟩ = x) := Lib.hid (fun x hx => by rw [HFT.out, if_neg HN1.out, if_neg HN2.out, if_neg HN3.out, hx])
                cases acks with
                | true =>
                  have HR : Hid (sg.fault ⟨seq, ack, window, syn, fin, rst, true, sacks, data⟩ = 0) := Lib.hid (by exact HX4.out 0 (if_neg (fun h => by have := (HB4.out.1 h).1; cases this)))
                  clear HFT HB1 HB4 HE HN1 HN2 HN3 HX4
                  have HG := Lib.hid (ret_int (k := .i64) HR.out)
                  go_enter Try.func61, Try.ntmps61
                  go_wp2_with (first | (go_at_call 87; ((with_reducible refine (ref_serial_yes seq HQ.out _).mono ?_); rintro e w' ⟨rfl, rfl⟩)) | (go_at_call 87; ((with_reducible refine (ref_serial_yes ack HA.out _).mono ?_); rintro e w' ⟨rfl, rfl⟩)))
                  obtain ⟨w1, hw1⟩ : ∃ w1, w1 = w.alloc (.cells #[.int .i64 seq, .int .i64 ack, .int .i64 window, .bool syn, .bool fin, .bool rst, .bool true, .slice A0 sacks.length c0, .slice A1 data.length c1] 50) := ⟨_, rfl⟩
                  have hx1 : w1.cell? ⟨w.heap.size, 1, none⟩ = some (.int .i64 ack) := by rw [hw1]; simp [go_sem]
                  have hx2 : w1.cell? ⟨w.heap.size, 2, none⟩ = some (.int .i64 window) := by rw [hw1]; simp [go_sem]
                  have hx6 : w1.cell? ⟨w.heap.size, 6, none⟩ = some (.bool true) := by rw [hw1]; simp [go_sem]
                  have hx7 : w1.cell? ⟨w.heap.size, 7, none⟩ = some (.slice A0 sacks.length c0) := by rw [hw1]; simp [go_sem]
                  have hs1 : w.heap.size < w1.heap.size := by rw [hw1]; simp
                  have hb1 : Below w.heap.size w w1 := by rw [hw1]; exact balloc (bself w) _
                  rw [← hw1]
                  clear hw1
                  have HX1 := Lib.hid hx1
                  have HX2 := Lib.hid hx2
                  have HX6 := Lib.hid hx6
                  have HX7 := Lib.hid hx7
                  clear hx1 hx2 hx6 hx7
                  go_loopw [38] (fun i wr => ∃ k : Nat, k ≤ sacks.length ∧ i = .int .i64 k ∧ Hid (∀ j, j < k → sg.rngOk (sacks.getD j ⟨0, 0⟩) = true) ∧ Below w.heap.size w wr ∧ Below (w.heap.size + 1) w1 wr) (fun i _ => sacks.length - (intOf i).toNat)
                  case atStart => exact ⟨0, by omega, rfl, Lib.hid (fun j hj => by omega), hb1, Below.refl _ _⟩
                  case round =>
                    obtain ⟨k, hk, rfl, HAK, hB, hB1⟩ := hrel
                    rename World => wr
                    by_cases hlt : k < sacks.length
                    · obtain ⟨b, o, rfl, hb, hc1, hc2⟩ := Rng.cells_at ⟨0, 0⟩ (H0.out.below hB) hlt
                      have hbw : b < wr.heap.size := Nat.lt_of_lt_of_le hb hB.size
                      have HI := Lib.hid (@sg.rngOk_iff (sacks.getD k ⟨0, 0⟩))
                      have HN : Hid (sg.rngOk (sacks.getD k ⟨0, 0⟩) = true → ∀ j, j < k + 1 → sg.rngOk (sacks.getD j ⟨0, 0⟩) = true) := Lib.hid (fun h j hj => by
                        rcases Nat.lt_or_ge j k with h' | h'
                        · exact HAK.out j h'
                        · obtain rfl : j = k := by omega
                          exact h)
                      have hrok : sg.rngOk (sacks.getD k ⟨0, 0⟩) = true := sg.all_true HALL.out hlt ⟨0, 0⟩
                      clear H0 HAK
                      generalize sacks.getD k ⟨0, 0⟩ = r at *
                      have HR1 := Lib.hid (HI.out.1 hrok).1
                      have HR2 := Lib.hid (HI.out.1 hrok).2
                      have HOK := Lib.hid hrok
                      clear hrok
                      go_wp2_with (first | (go_at_call 87; ((with_reducible refine (ref_serial_yes r.lo HR1.out _).mono ?_); rintro e w' ⟨rfl, rfl⟩)) | (go_at_call 87; ((with_reducible refine (ref_serial_yes r.hi HR2.out _).mono ?_); rintro e w' ⟨rfl, rfl⟩)))
                      go_roundw
                      case rel => exact ⟨k + 1, by omega, by go_num, Lib.hid (HN.out HOK.out), (by repeat (first | (with_reducible exact Below.refl _ _) | (with_reducible assumption) | (with_reducible refine bset ?_ ?_ _) | (with_reducible refine balloc ?_ _) | (with_reducible refine Below.drew ?_) | (with_reducible refine bdrewN ?_ _) | (with_reducible refine bnext ?_ (by with_reducible assumption)) | exact Nat.le_refl _ | (simp; done) | omega | (simp; omega))), Below.alloc hB1 (by have := hB1.size; omega) _⟩
                      case measure => simp [intOf]; omega
                    · obtain rfl : k = sacks.length := by omega
                      have hd1 := (hB1.cell (p := ⟨w.heap.size, 1, none⟩) (Nat.lt_succ_self _)).trans HX1.out
                      have hd2 := (hB1.cell (p := ⟨w.heap.size, 2, none⟩) (Nat.lt_succ_self _)).trans HX2.out
                      have hd6 := (hB1.cell (p := ⟨w.heap.size, 6, none⟩) (Nat.lt_succ_self _)).trans HX6.out
                      have hd7 := (hB1.cell (p := ⟨w.heap.size, 7, none⟩) (Nat.lt_succ_self _)).trans HX7.out
                      have hwr : w.heap.size < wr.heap.size := by have := hB1.size; omega
                      clear H0 HAK
                      go_wp2
                      go_ret
                      exact ⟨HG.out.symm, hB⟩
                | false =>
                  by_cases z1 : ack = 0
                  · have Z1 := Lib.hid z1
                    clear z1
                    have hba1 : (ack == 0) = true := by rw [beq_iff_eq]; exact Z1.out
                    have hba2 : (ack != 0) = false := by rw [bne, hba1]; rfl
                    by_cases z2 : window = 0
                    · have Z2 := Lib.hid z2
                      clear z2
                      have hbw1 : (window == 0) = true := by rw [beq_iff_eq]; exact Z2.out
                      have hbw2 : (window != 0) = false := by rw [bne, hbw1]; rfl
                      by_cases z3 : 0 < sacks.length
                      · have HR : Hid (sg.fault ⟨seq, ack, window, syn, fin, rst, false, sacks, data⟩ = 4) := Lib.hid (by exact HX4.out 4 (if_pos (HB4.out.2 ⟨rfl, .inr (.inr (by omega))⟩)))
                        clear HFT HB1 HB4 HE HN1 HN2 HN3 HX4
                        have HG := Lib.hid (ret_int (k := .i64) HR.out)
                        go_enter Try.func61, Try.ntmps61
                        go_wp2_with (first | (go_at_call 87; ((with_reducible refine (ref_serial_yes seq HQ.out _).mono ?_); rintro e w' ⟨rfl, rfl⟩)) | (go_at_call 87; ((with_reducible refine (ref_serial_yes ack HA.out _).mono ?_); rintro e w' ⟨rfl, rfl⟩)))
                        obtain ⟨w1, hw1⟩ : ∃ w1, w1 = w.alloc (.cells #[.int .i64 seq, .int .i64 ack, .int .i64 window, .bool syn, .bool fin, .bool rst, .bool false, .slice A0 sacks.length c0, .slice A1 data.length c1] 50) := ⟨_, rfl⟩
                        have hx1 : w1.cell? ⟨w.heap.size, 1, none⟩ = some (.int .i64 ack) := by rw [hw1]; simp [go_sem]
                        have hx2 : w1.cell? ⟨w.heap.size, 2, none⟩ = some (.int .i64 window) := by rw [hw1]; simp [go_sem]
                        have hx6 : w1.cell? ⟨w.heap.size, 6, none⟩ = some (.bool false) := by rw [hw1]; simp [go_sem]
                        have hx7 : w1.cell? ⟨w.heap.size, 7, none⟩ = some (.slice A0 sacks.length c0) := by rw [hw1]; simp [go_sem]
                        have hs1 : w.heap.size < w1.heap.size := by rw [hw1]; simp
                        have hb1 : Below w.heap.size w w1 := by rw [hw1]; exact balloc (bself w) _
                        rw [← hw1]
                        clear hw1
                        have HX1 := Lib.hid hx1
                        have HX2 := Lib.hid hx2
                        have HX6 := Lib.hid hx6
                        have HX7 := Lib.hid hx7
                        clear hx1 hx2 hx6 hx7
                        go_loopw [38] (fun i wr => ∃ k : Nat, k ≤ sacks.length ∧ i = .int .i64 k ∧ Hid (∀ j, j < k → sg.rngOk (sacks.getD j ⟨0, 0⟩) = true) ∧ Below w.heap.size w wr ∧ Below (w.heap.size + 1) w1 wr) (fun i _ => sacks.length - (intOf i).toNat)
                        case atStart => exact ⟨0, by omega, rfl, Lib.hid (fun j hj => by omega), hb1, Below.refl _ _⟩
                        case round =>
                          obtain ⟨k, hk, rfl, HAK, hB, hB1⟩ := hrel
                          rename World => wr
                          by_cases hlt : k < sacks.length
                          · obtain ⟨b, o, rfl, hb, hc1, hc2⟩ := Rng.cells_at ⟨0, 0⟩ (H0.out.below hB) hlt
                            have hbw : b < wr.heap.size := Nat.lt_of_lt_of_le hb hB.size
                            have HI := Lib.hid (@sg.rngOk_iff (sacks.getD k ⟨0, 0⟩))
                            have HN : Hid (sg.rngOk (sacks.getD k ⟨0, 0⟩) = true → ∀ j, j < k + 1 → sg.rngOk (sacks.getD j ⟨0, 0⟩) = true) := Lib.hid (fun h j hj => by
                              rcases Nat.lt_or_ge j k with h' | h'
                              · exact HAK.out j h'
                              · obtain rfl : j = k := by omega
                                exact h)
                            have hrok : sg.rngOk (sacks.getD k ⟨0, 0⟩) = true := sg.all_true HALL.out hlt ⟨0, 0⟩
                            clear H0 HAK
                            generalize sacks.getD k ⟨0, 0⟩ = r at *
                            have HR1 := Lib.hid (HI.out.1 hrok).1
                            have HR2 := Lib.hid (HI.out.1 hrok).2
                            have HOK := Lib.hid hrok
                            clear hrok
                            go_wp2_with (first | (go_at_call 87; ((with_reducible refine (ref_serial_yes r.lo HR1.out _).mono ?_); rintro e w' ⟨rfl, rfl⟩)) | (go_at_call 87; ((with_reducible refine (ref_serial_yes r.hi HR2.out _).mono ?_); rintro e w' ⟨rfl, rfl⟩)))
                            go_roundw
                            case rel => exact ⟨k + 1, by omega, by go_num, Lib.hid (HN.out HOK.out), (by repeat (first | (with_reducible exact Below.refl _ _) | (with_reducible assumption) | (with_reducible refine bset ?_ ?_ _) | (with_reducible refine balloc ?_ _) | (with_reducible refine Below.drew ?_) | (with_reducible refine bdrewN ?_ _) | (with_reducible refine bnext ?_ (by with_reducible assumption)) | exact Nat.le_refl _ | (simp; done) | omega | (simp; omega))), Below.alloc hB1 (by have := hB1.size; omega) _⟩
                            case measure => simp [intOf]; omega
                          · obtain rfl : k = sacks.length := by omega
                            have hd1 := (hB1.cell (p := ⟨w.heap.size, 1, none⟩) (Nat.lt_succ_self _)).trans HX1.out
                            have hd2 := (hB1.cell (p := ⟨w.heap.size, 2, none⟩) (Nat.lt_succ_self _)).trans HX2.out
                            have hd6 := (hB1.cell (p := ⟨w.heap.size, 6, none⟩) (Nat.lt_succ_self _)).trans HX6.out
                            have hd7 := (hB1.cell (p := ⟨w.heap.size, 7, none⟩) (Nat.lt_succ_self _)).trans HX7.out
                            have hwr : w.heap.size < wr.heap.size := by have := hB1.size; omega
                            clear H0 HAK
                            go_wp2
                            go_ret
                            exact ⟨HG.out.symm, hB⟩
                      · have HR : Hid (sg.fault ⟨seq, ack, window, syn, fin, rst, false, sacks, data⟩ = 0) := Lib.hid (by exact HX4.out 0 (if_neg (fun h => by rcases (HB4.out.1 h).2 with h | h | h; exact h Z1.out; exact h Z2.out; exact h (by omega))))
                        clear HFT HB1 HB4 HE HN1 HN2 HN3 HX4
                        have HG := Lib.hid (ret_int (k := .i64) HR.out)
                        have z3' : sacks.length ≤ 0 := by omega
                        go_enter Try.func61, Try.ntmps61
                        go_wp2_with (first | (go_at_call 87; ((with_reducible refine (ref_serial_yes seq HQ.out _).mono ?_); rintro e w' ⟨rfl, rfl⟩)) | (go_at_call 87; ((with_reducible refine (ref_serial_yes ack HA.out _).mono ?_); rintro e w' ⟨rfl, rfl⟩)))
                        obtain ⟨w1, hw1⟩ : ∃ w1, w1 = w.alloc (.cells #[.int .i64 seq, .int .i64 ack, .int .i64 window, .bool syn, .bool fin, .bool rst, .bool false, .slice A0 sacks.length c0, .slice A1 data.length c1] 50) := ⟨_, rfl⟩
                        have hx1 : w1.cell? ⟨w.heap.size, 1, none⟩ = some (.int .i64 ack) := by rw [hw1]; simp [go_sem]
                        have hx2 : w1.cell? ⟨w.heap.size, 2, none⟩ = some (.int .i64 window) := by rw [hw1]; simp [go_sem]
                        have hx6 : w1.cell? ⟨w.heap.size, 6, none⟩ = some (.bool false) := by rw [hw1]; simp [go_sem]
                        have hx7 : w1.cell? ⟨w.heap.size, 7, none⟩ = some (.slice A0 sacks.length c0) := by rw [hw1]; simp [go_sem]
                        have hs1 : w.heap.size < w1.heap.size := by rw [hw1]; simp
                        have hb1 : Below w.heap.size w w1 := by rw [hw1]; exact balloc (bself w) _
                        rw [← hw1]
                        clear hw1
                        have HX1 := Lib.hid hx1
                        have HX2 := Lib.hid hx2
                        have HX6 := Lib.hid hx6
                        have HX7 := Lib.hid hx7
                        clear hx1 hx2 hx6 hx7
                        go_loopw [38] (fun i wr => ∃ k : Nat, k ≤ sacks.length ∧ i = .int .i64 k ∧ Hid (∀ j, j < k → sg.rngOk (sacks.getD j ⟨0, 0⟩) = true) ∧ Below w.heap.size w wr ∧ Below (w.heap.size + 1) w1 wr) (fun i _ => sacks.length - (intOf i).toNat)
                        case atStart => exact ⟨0, by omega, rfl, Lib.hid (fun j hj => by omega), hb1, Below.refl _ _⟩
                        case round =>
                          obtain ⟨k, hk, rfl, HAK, hB, hB1⟩ := hrel
                          rename World => wr
                          by_cases hlt : k < sacks.length
                          · exact absurd hlt (by omega)
                          · obtain rfl : k = sacks.length := by omega
                            have hd1 := (hB1.cell (p := ⟨w.heap.size, 1, none⟩) (Nat.lt_succ_self _)).trans HX1.out
                            have hd2 := (hB1.cell (p := ⟨w.heap.size, 2, none⟩) (Nat.lt_succ_self _)).trans HX2.out
                            have hd6 := (hB1.cell (p := ⟨w.heap.size, 6, none⟩) (Nat.lt_succ_self _)).trans HX6.out
                            have hd7 := (hB1.cell (p := ⟨w.heap.size, 7, none⟩) (Nat.lt_succ_self _)).trans HX7.out
                            have hwr : w.heap.size < wr.heap.size := by have := hB1.size; omega
                            clear H0 HAK
                            go_wp2
                            go_ret
                            exact ⟨HG.out.symm, hB⟩
                    · have Z2 := Lib.hid z2
                      clear z2
                      have hbw1 : (window == 0) = false := by rw [beq_eq_false_iff_ne]; exact Z2.out
                      have hbw2 : (window != 0) = true := by rw [bne, hbw1]; rfl
                      have HR : Hid (sg.fault ⟨seq, ack, window, syn, fin, rst, false, sacks, data⟩ = 4) := Lib.hid (by exact HX4.out 4 (if_pos (HB4.out.2 ⟨rfl, .inr (.inl Z2.out)⟩)))
                      clear HFT HB1 HB4 HE HN1 HN2 HN3 HX4
                      have HG := Lib.hid (ret_int (k := .i64) HR.out)
                      go_enter Try.func61, Try.ntmps61
                      go_wp2_with (first | (go_at_call 87; ((with_reducible refine (ref_serial_yes seq HQ.out _).mono ?_); rintro e w' ⟨rfl, rfl⟩)) | (go_at_call 87; ((with_reducible refine (ref_serial_yes ack HA.out _).mono ?_); rintro e w' ⟨rfl, rfl⟩)))
                      obtain ⟨w1, hw1⟩ : ∃ w1, w1 = w.alloc (.cells #[.int .i64 seq, .int .i64 ack, .int .i64 window, .bool syn, .bool fin, .bool rst, .bool false, .slice A0 sacks.length c0, .slice A1 data.length c1] 50) := ⟨_, rfl⟩
                      have hx1 : w1.cell? ⟨w.heap.size, 1, none⟩ = some (.int .i64 ack) := by rw [hw1]; simp [go_sem]
                      have hx2 : w1.cell? ⟨w.heap.size, 2, none⟩ = some (.int .i64 window) := by rw [hw1]; simp [go_sem]
                      have hx6 : w1.cell? ⟨w.heap.size, 6, none⟩ = some (.bool false) := by rw [hw1]; simp [go_sem]
                      have hx7 : w1.cell? ⟨w.heap.size, 7, none⟩ = some (.slice A0 sacks.length c0) := by rw [hw1]; simp [go_sem]
                      have hs1 : w.heap.size < w1.heap.size := by rw [hw1]; simp
                      have hb1 : Below w.heap.size w w1 := by rw [hw1]; exact balloc (bself w) _
                      rw [← hw1]
                      clear hw1
                      have HX1 := Lib.hid hx1
                      have HX2 := Lib.hid hx2
                      have HX6 := Lib.hid hx6
                      have HX7 := Lib.hid hx7
                      clear hx1 hx2 hx6 hx7
                      go_loopw [38] (fun i wr => ∃ k : Nat, k ≤ sacks.length ∧ i = .int .i64 k ∧ Hid (∀ j, j < k → sg.rngOk (sacks.getD j ⟨0, 0⟩) = true) ∧ Below w.heap.size w wr ∧ Below (w.heap.size + 1) w1 wr) (fun i _ => sacks.length - (intOf i).toNat)
                      case atStart => exact ⟨0, by omega, rfl, Lib.hid (fun j hj => by omega), hb1, Below.refl _ _⟩
                      case round =>
                        obtain ⟨k, hk, rfl, HAK, hB, hB1⟩ := hrel
                        rename World => wr
                        by_cases hlt : k < sacks.length
                        · obtain ⟨b, o, rfl, hb, hc1, hc2⟩ := Rng.cells_at ⟨0, 0⟩ (H0.out.below hB) hlt
                          have hbw : b < wr.heap.size := Nat.lt_of_lt_of_le hb hB.size
                          have HI := Lib.hid (@sg.rngOk_iff (sacks.getD k ⟨0, 0⟩))
                          have HN : Hid (sg.rngOk (sacks.getD k ⟨0, 0⟩) = true → ∀ j, j < k + 1 → sg.rngOk (sacks.getD j ⟨0, 0⟩) = true) := Lib.hid (fun h j hj => by
                            rcases Nat.lt_or_ge j k with h' | h'
                            · exact HAK.out j h'
                            · obtain rfl : j = k := by omega
                              exact h)
                          have hrok : sg.rngOk (sacks.getD k ⟨0, 0⟩) = true := sg.all_true HALL.out hlt ⟨0, 0⟩
                          clear H0 HAK
                          generalize sacks.getD k ⟨0, 0⟩ = r at *
                          have HR1 := Lib.hid (HI.out.1 hrok).1
                          have HR2 := Lib.hid (HI.out.1 hrok).2
                          have HOK := Lib.hid hrok
                          clear hrok
                          go_wp2_with (first | (go_at_call 87; ((with_reducible refine (ref_serial_yes r.lo HR1.out _).mono ?_); rintro e w' ⟨rfl, rfl⟩)) | (go_at_call 87; ((with_reducible refine (ref_serial_yes r.hi HR2.out _).mono ?_); rintro e w' ⟨rfl, rfl⟩)))
                          go_roundw
                          case rel => exact ⟨k + 1, by omega, by go_num, Lib.hid (HN.out HOK.out), (by repeat (first | (with_reducible exact Below.refl _ _) | (with_reducible assumption) | (with_reducible refine bset ?_ ?_ _) | (with_reducible refine balloc ?_ _) | (with_reducible refine Below.drew ?_) | (with_reducible refine bdrewN ?_ _) | (with_reducible refine bnext ?_ (by with_reducible assumption)) | exact Nat.le_refl _ | (simp; done) | omega | (simp; omega))), Below.alloc hB1 (by have := hB1.size; omega) _⟩
                          case measure => simp [intOf]; omega
                        · obtain rfl : k = sacks.length := by omega
                          have hd1 := (hB1.cell (p := ⟨w.heap.size, 1, none⟩) (Nat.lt_succ_self _)).trans HX1.out
                          have hd2 := (hB1.cell (p := ⟨w.heap.size, 2, none⟩) (Nat.lt_succ_self _)).trans HX2.out
                          have hd6 := (hB1.cell (p := ⟨w.heap.size, 6, none⟩) (Nat.lt_succ_self _)).trans HX6.out
                          have hd7 := (hB1.cell (p := ⟨w.heap.size, 7, none⟩) (Nat.lt_succ_self _)).trans HX7.out
                          have hwr : w.heap.size < wr.heap.size := by have := hB1.size; omega
                          clear H0 HAK
                          go_wp2
                          go_ret
                          exact ⟨HG.out.symm, hB⟩
                  · have Z1 := Lib.hid z1
                    clear z1
                    have hba1 : (ack == 0) = false := by rw [beq_eq_false_iff_ne]; exact Z1.out
                    have hba2 : (ack != 0) = true := by rw [bne, hba1]; rfl
                    have HR : Hid (sg.fault ⟨seq, ack, window, syn, fin, rst, false, sacks, data⟩ = 4) := Lib.hid (by exact HX4.out 4 (if_pos (HB4.out.2 ⟨rfl, .inl Z1.out⟩)))
                    clear HFT HB1 HB4 HE HN1 HN2 HN3 HX4
                    have HG := Lib.hid (ret_int (k := .i64) HR.out)
                    go_enter Try.func61, Try.ntmps61
                    go_wp2_with (first | (go_at_call 87; ((with_reducible refine (ref_serial_yes seq HQ.out _).mono ?_); rintro e w' ⟨rfl, rfl⟩)) | (go_at_call 87; ((with_reducible refine (ref_serial_yes ack HA.out _).mono ?_); rintro e w' ⟨rfl, rfl⟩)))
                    obtain ⟨w1, hw1⟩ : ∃ w1, w1 = w.alloc (.cells #[.int .i64 seq, .int .i64 ack, .int .i64 window, .bool syn, .bool fin, .bool rst, .bool false, .slice A0 sacks.length c0, .slice A1 data.length c1] 50) := ⟨_, rfl⟩
                    have hx1 : w1.cell? ⟨w.heap.size, 1, none⟩ = some (.int .i64 ack) := by rw [hw1]; simp [go_sem]
                    have hx2 : w1.cell? ⟨w.heap.size, 2, none⟩ = some (.int .i64 window) := by rw [hw1]; simp [go_sem]
                    have hx6 : w1.cell? ⟨w.heap.size, 6, none⟩ = some (.bool false) := by rw [hw1]; simp [go_sem]
                    have hx7 : w1.cell? ⟨w.heap.size, 7, none⟩ = some (.slice A0 sacks.length c0) := by rw [hw1]; simp [go_sem]
                    have hs1 : w.heap.size < w1.heap.size := by rw [hw1]; simp
                    have hb1 : Below w.heap.size w w1 := by rw [hw1]; exact balloc (bself w) _
                    rw [← hw1]
                    clear hw1
                    have HX1 := Lib.hid hx1
                    have HX2 := Lib.hid hx2
                    have HX6 := Lib.hid hx6
                    have HX7 := Lib.hid hx7
                    clear hx1 hx2 hx6 hx7
                    go_loopw [38] (fun i wr => ∃ k : Nat, k ≤ sacks.length ∧ i = .int .i64 k ∧ Hid (∀ j, j < k → sg.rngOk (sacks.getD j ⟨0, 0⟩) = true) ∧ Below w.heap.size w wr ∧ Below (w.heap.size + 1) w1 wr) (fun i _ => sacks.length - (intOf i).toNat)
                    case atStart => exact ⟨0, by omega, rfl, Lib.hid (fun j hj => by omega), hb1, Below.refl _ _⟩
                    case round =>
                      obtain ⟨k, hk, rfl, HAK, hB, hB1⟩ := hrel
                      rename World => wr
                      by_cases hlt : k < sacks.length
                      · obtain ⟨b, o, rfl, hb, hc1, hc2⟩ := Rng.cells_at ⟨0, 0⟩ (H0.out.below hB) hlt
                        have hbw : b < wr.heap.size := Nat.lt_of_lt_of_le hb hB.size
                        have HI := Lib.hid (@sg.rngOk_iff (sacks.getD k ⟨0, 0⟩))
                        have HN : Hid (sg.rngOk (sacks.getD k ⟨0, 0⟩) = true → ∀ j, j < k + 1 → sg.rngOk (sacks.getD j ⟨0, 0⟩) = true) := Lib.hid (fun h j hj => by
                          rcases Nat.lt_or_ge j k with h' | h'
                          · exact HAK.out j h'
                          · obtain rfl : j = k := by omega
                            exact h)
                        have hrok : sg.rngOk (sacks.getD k ⟨0, 0⟩) = true := sg.all_true HALL.out hlt ⟨0, 0⟩
                        clear H0 HAK
                        generalize sacks.getD k ⟨0, 0⟩ = r at *
                        have HR1 := Lib.hid (HI.out.1 hrok).1
                        have HR2 := Lib.hid (HI.out.1 hrok).2
                        have HOK := Lib.hid hrok
                        clear hrok
                        go_wp2_with (first | (go_at_call 87; ((with_reducible refine (ref_serial_yes r.lo HR1.out _).mono ?_); rintro e w' ⟨rfl, rfl⟩)) | (go_at_call 87; ((with_reducible refine (ref_serial_yes r.hi HR2.out _).mono ?_); rintro e w' ⟨rfl, rfl⟩)))
                        go_roundw
                        case rel => exact ⟨k + 1, by omega, by go_num, Lib.hid (HN.out HOK.out), (by repeat (first | (with_reducible exact Below.refl _ _) | (with_reducible assumption) | (with_reducible refine bset ?_ ?_ _) | (with_reducible refine balloc ?_ _) | (with_reducible refine Below.drew ?_) | (with_reducible refine bdrewN ?_ _) | (with_reducible refine bnext ?_ (by with_reducible assumption)) | exact Nat.le_refl _ | (simp; done) | omega | (simp; omega))), Below.alloc hB1 (by have := hB1.size; omega) _⟩
                        case measure => simp [intOf]; omega
                      · obtain rfl : k = sacks.length := by omega
                        have hd1 := (hB1.cell (p := ⟨w.heap.size, 1, none⟩) (Nat.lt_succ_self _)).trans HX1.out
                        have hd2 := (hB1.cell (p := ⟨w.heap.size, 2, none⟩) (Nat.lt_succ_self _)).trans HX2.out
                        have hd6 := (hB1.cell (p := ⟨w.heap.size, 6, none⟩) (Nat.lt_succ_self _)).trans HX6.out
                        have hd7 := (hB1.cell (p := ⟨w.heap.size, 7, none⟩) (Nat.lt_succ_self _)).trans HX7.out
                        have hwr : w.heap.size < wr.heap.size := by have := hB1.size; omega
                        clear H0 HAK
                        go_wp2
                        go_ret
                        exact ⟨HG.out.symm, hB⟩
    · have HA := Lib.hid ha
      have HR : Hid (sg.fault ⟨seq, ack, window, syn, fin, rst, acks, sacks, data⟩ = 2) := Lib.hid (by rw [HFT.out, if_pos (HB1.out.2 (.inr (.inl ha)))])
      clear H0 HFT HB1 HB4 HE
      have HG := Lib.hid (ret_int (k := .i64) HR.out)
      clear hq ha
      go_enter Try.func61, Try.ntmps61
      go_wp2_with (first | (go_at_call 87; ((with_reducible refine (ref_serial_yes seq HQ.out _).mono ?_); rintro e w' ⟨rfl, rfl⟩)) | (go_at_call 87; ((with_reducible refine (ref_serial_no ack HA.out _).mono ?_); rintro e w' ⟨rfl, rfl⟩)))
      go_ret
      exact ⟨HG.out.symm, (by repeat (first | (with_reducible exact Below.refl _ _) | (with_reducible assumption) | (with_reducible refine bset ?_ ?_ _) | (with_reducible refine balloc ?_ _) | (with_reducible refine Below.drew ?_) | (with_reducible refine bdrewN ?_ _) | (with_reducible refine bnext ?_ (by with_reducible assumption)) | exact Nat.le_refl _ | (simp; done) | omega | (simp; omega)))⟩
  · have HQ := Lib.hid hq
    have HR : Hid (sg.fault ⟨seq, ack, window, syn, fin, rst, acks, sacks, data⟩ = 2) := Lib.hid (by rw [HFT.out, if_pos (HB1.out.2 (.inl hq))])
    clear H0 HFT HB1 HB4 HE
    have HG := Lib.hid (ret_int (k := .i64) HR.out)
    clear hq
    go_enter Try.func61, Try.ntmps61
    go_wp2_with (first | (go_at_call 87; ((with_reducible refine (ref_serial_no seq HQ.out _).mono ?_); rintro e w' ⟨rfl, rfl⟩)))
    go_ret
    exact ⟨HG.out.symm, (by repeat (first | (with_reducible exact Below.refl _ _) | (with_reducible assumption) | (with_reducible refine bset ?_ ?_ _) | (with_reducible refine balloc ?_ _) | (with_reducible refine Below.drew ?_) | (with_reducible refine bdrewN ?_ _) | (with_reducible refine bnext ?_ (by with_reducible assumption)) | exact Nat.le_refl _ | (simp; done) | omega | (simp; omega)))⟩
end Go.Proofs.Ytedbidblnjajdaa
