/- Package ref: MsgAnswered. No condition. -/
import Derived.Test.YtcpbgiikfabaaaaMsgR8
import Derived.Test.YtcpbgiikfabaaaaMsgR4
import Derived.Test.YtcpbgiikfabaaaaMsgZ
import Derived.Deep.RegionLaw
namespace Go.Proofs.Ytcpbgiikfabaaaa
open Go.RowKit
open mg (Rd rnum rtext)

/-- within the loop of MsgAnswered: the reader in R, the reply in B, its names from nb on -/
structure mr.Ra (w : World) (R B nb : Nat) (r1 : Reply) (st : Rd) (A : Option Addr) (c : Nat) (i : Nat) (l : List ByteArray) (An : Option Addr) (cn : Nat) (Ad : Option Addr) (cd : Nat) (wr : World) : Prop where
  rd : mg.RdAt wr R (· < w.heap.size) st A c
  at_ : mr.At wr B { r1 with names := l } Ad cd An cn
  own : Own wr nb 9 1 An i cn (l.map Value.string)
  len : l.length = i
  data : SlRep Rep.u8 wr (fun k => R < k ∧ k < B) r1.data Ad cd
  res : mr.At wr w.heap.size mr.zeroR none 0 none 0
  hb : Below w.heap.size w wr
  o1 : w.heap.size < R
  o2 : R < B
  o3 : B < nb
  o4 : nb ≤ wr.heap.size
section
variable {w : World} {R B nb : Nat} {r1 : Reply} {st : Rd} {A : Option Addr} {c : Nat} {i : Nat} {l : List ByteArray} {An : Option Addr} {cn : Nat} {Ad : Option Addr} {cd : Nat} {wr : World}
theorem mr.Ra.next (h : mr.Ra w R B nb r1 st A c i l An cn Ad cd wr) {w' : World} (hb : Below wr.heap.size wr w') : mr.Ra w R B nb r1 st A c i l An cn Ad cd w' := by
  have o1 := h.o1; have o2 := h.o2; have o3 := h.o3; have o4 := h.o4
  exact ⟨h.rd.block (hb.block R (by omega)) (fun k hk => hb.block k (by omega)), h.at_.next hb, h.own.next hb, h.len, h.data.keep fun k hk => ⟨hk, hb.block k (by omega)⟩, h.res.next hb, bnext h.hb hb, o1, o2, o3, Nat.le_trans o4 hb.size⟩
theorem mr.Ra.reads (h : mr.Ra w R B nb r1 st A c i l An cn Ad cd wr) {st' : Rd} {A' : Option Addr} {c' : Nat} {w' : World} (h1 : mg.RdAt w' R (· < w.heap.size) st' A' c') (hg : wr.grownBy w' (Option.some R)) : mr.Ra w R B nb r1 st' A' c' i l An cn Ad cd w' := by
  have o1 := h.o1; have o2 := h.o2; have o3 := h.o3; have o4 := h.o4
  have e : ∀ k, k < wr.heap.size → k ≠ R → w'.heap[k]? = wr.heap[k]? := fun k hk hne => hg.block k hk (fun e => hne (Option.some.inj e))
  exact ⟨h1, h.at_.block (e B (by omega) (by omega)), h.own.kept hg (.inr (fun e => by have := (h.own.lt _ e).1; omega)), h.len, h.data.keep fun k hk => ⟨hk, e k (by omega) (by omega)⟩, h.res.block (e _ (by omega) (by omega)), h.hb.grown hg (by omega) (fun k hk => by cases hk; omega), o1, o2, o3, Nat.le_trans o4 hg.size⟩
theorem mr.Ra.push (h : mr.Ra w R B nb r1 st A c i l An cn Ad cd wr) {w5 w7 : World} (hb : Below wr.heap.size wr w5) {s : ByteArray} {A7 : Option Addr} {n7 c7 : Nat} (hg : Grew w5 w7 An A7) (ho : Own w7 nb 9 1 A7 n7 c7 (l.map Value.string ++ [Value.string s])) :
    n7 = i + 1 ∧ mr.Ra w R B nb r1 st A c (i + 1) (l ++ [s]) A7 c7 Ad cd (w7.setCell ⟨B, 6, none⟩ (.slice A7 n7 c7)) := by
  have o1 := h.o1; have o2 := h.o2; have o3 := h.o3; have o4 := h.o4
  have hs5 := hb.size
  have hs7 := hg.grown.size
  have hn : n7 = i + 1 := by have h1 := ho.len; have h2 := h.len; simp at h1; omega
  subst hn
  have e : ∀ k, k < nb → w7.heap[k]? = wr.heap[k]? := fun k hk => (hg.grown.block k (by omega) (fun e => by have := (h.own.lt k e.symm).1; omega)).trans (hb.block k (by omega))
  have e2 : ∀ k, k < nb → k ≠ B → (w7.setCell ⟨B, 6, none⟩ (.slice A7 (i + 1) c7)).heap[k]? = wr.heap[k]? := fun k hk hne => (mg.heap_set hne).trans (e k hk)
  have h5 : Below w.heap.size w w5 := bnext h.hb hb
  refine ⟨rfl, ⟨h.rd.block (e2 R (by omega) (by omega)) (fun k hk => e2 k (by omega) (by omega)), ?_, ?_, by rw [List.length_append, h.len]; rfl, h.data.keep fun k hk => ⟨hk, e2 k (by omega) (by omega)⟩, h.res.block (e2 _ (by omega) (by omega)),
    bset (h5.trans (hg.below (by omega) (fun k hk => by have := (h.own.lt k hk).1; omega))) (by omega) _, o1, o2, o3, by rw [World.size_setCell]; omega⟩⟩
  · have h6 : mr.At w7 B { r1 with names := l } Ad cd An cn := h.at_.block (e B (by omega))
    exact h6.set (by omega) (by simp [mr.vals, h.len])
  · rw [List.map_append]
    exact ho.setCell (fun e => by have := (ho.lt _ e).1; exact absurd this (by show ¬ nb ≤ B; omega)) _
end
/-- the world that MsgAnswered begins with -/
def mr.X0 (w : World) (Ab : Option Addr) (n cb : Nat) : World := (w.alloc (.cells #[.int .i64 0, .int .i64 0, .int .i64 0, .int .i64 0, .int .i64 0, .slice none 0 0, .slice none 0 0] 36)).alloc (.cells #[.slice Ab n cb, .bool false] 60)
theorem mr.xstart {w : World} {b : List UInt8} {Ab : Option Addr} {cb : Nat} (hl : SlRep Rep.u8 w (· < w.heap.size) b Ab cb) :
    mg.RdAt (mr.X0 w Ab b.length cb) (w.heap.size + 1) (· < w.heap.size) ⟨b, false⟩ Ab cb ∧ mr.At (mr.X0 w Ab b.length cb) w.heap.size mr.zeroR none 0 none 0 ∧ Below w.heap.size w (mr.X0 w Ab b.length cb) ∧ (mr.X0 w Ab b.length cb).heap.size = w.heap.size + 2 := by
  have hb : Below w.heap.size w (mr.X0 w Ab b.length cb) := balloc (balloc (bself w) _) _
  have e : w.heap.size + 1 = (w.alloc (.cells #[.int .i64 0, .int .i64 0, .int .i64 0, .int .i64 0, .int .i64 0, .slice none 0 0, .slice none 0 0] 36)).heap.size := by simp
  refine ⟨⟨?_, ?_, fun j => ?_, hl.keep fun k hk => ⟨hk, hb.block k hk⟩⟩, (mr.At.new w mr.zeroR none 0 none 0).next (balloc (bself _) _), hb, by unfold mr.X0; simp⟩
  · rw [e]; unfold mr.X0; rw [World.cell?_alloc_new]; rfl
  · rw [e]; unfold mr.X0; rw [World.cell?_alloc_new]; rfl
  · rw [e]; unfold mr.X0; simp [go_sem]
/-- reader, result and all else, before there is a reply -/
structure mr.Rb (w : World) (st : Rd) (A : Option Addr) (c : Nat) (W : World) : Prop where
  rd : mg.RdAt W (w.heap.size + 1) (· < w.heap.size) st A c
  res : mr.At W w.heap.size mr.zeroR none 0 none 0
  hb : Below w.heap.size w W
  size : w.heap.size + 2 ≤ W.heap.size
theorem mr.Rb.step {w : World} {st st' : Rd} {A A' : Option Addr} {c c' : Nat} {W W' : World} (h : mr.Rb w st A c W) (h1 : mg.RdAt W' (w.heap.size + 1) (· < w.heap.size) st' A' c') (hg : W.grownBy W' (Option.some (w.heap.size + 1))) : mr.Rb w st' A' c' W' :=
  ⟨h1, h.res.block (hg.block _ (by have := h.size; omega) (fun e => by have := Option.some.inj e; omega)), h.hb.grown hg h.hb.size (fun k hk => by cases hk; omega), Nat.le_trans h.size hg.size⟩

theorem mr.rtexts_sizes : ∀ {n : Nat} {st st' : Rd} {l l' : List (List UInt8)}, mr.rtexts n st l = (st', l') → (∀ s ∈ l, s.length ≤ 1000000) → ∀ s ∈ l', s.length ≤ 1000000
  | 0, _, _, _, _, h, hl => by cases h; exact hl
  | n + 1, st, st', l, l', h, hl => by
    unfold mr.rtexts at h
    split at h
    · cases h; exact hl
    · refine mr.rtexts_sizes h (fun s hs => ?_)
      rcases List.mem_append.1 hs with h1 | h1
      · exact hl s h1
      · rw [List.mem_singleton.1 h1]
        exact mg.rtext_len st

set_option maxRecDepth 100000 in
set_option maxHeartbeats 16000000 in
theorem ref_MsgAnswered_res (b : List UInt8) (Ab : Option Addr) (cb : Nat) (w : World) (hl : SlRep Rep.u8 w (· < w.heap.size) b Ab cb) :
    Calls Try.prog 16 #[.slice Ab b.length cb] w (AnsweredRes (mr.refAnswered b) w) := by
  obtain ⟨hr0, hs0, hb0, hz0⟩ := mr.xstart hl
  clear hl
  obtain ⟨s1, n1, E1⟩ : ∃ st n, Hid (rnum 4 ⟨b, false⟩ = (st, n)) := ⟨_, _, Lib.hid rfl⟩
  obtain ⟨s2, n2, E2⟩ : ∃ st n, Hid (rnum 1 s1 = (st, n)) := ⟨_, _, Lib.hid rfl⟩
  obtain ⟨s3, n3, E3⟩ : ∃ st n, Hid (rnum 4 s2 = (st, n)) := ⟨_, _, Lib.hid rfl⟩
  obtain ⟨s4, n4, E4⟩ : ∃ st n, Hid (rnum 1 s3 = (st, n)) := ⟨_, _, Lib.hid rfl⟩
  obtain ⟨s5, n5, E5⟩ : ∃ st n, Hid (rnum 4 s4 = (st, n)) := ⟨_, _, Lib.hid rfl⟩
  obtain ⟨s6, d6, E6⟩ : ∃ st d, Hid (rtext s5 = (st, d)) := ⟨_, _, Lib.hid rfl⟩
  obtain ⟨s7, N, E7⟩ : ∃ st n, Hid (rnum 1 s6 = (st, n)) := ⟨_, _, Lib.hid rfl⟩
  have HEA : Hid (mr.refAnswered b = mr.refAnswered2 s7 ⟨⟨n1, 0, n3, n4, n5, d6, []⟩, n2, N⟩) := Lib.hid (by
    unfold mr.refAnswered
    simp only [mr.all7, mr.rtakeS, mr.rgetS, mr.Sel.isNum, mr.Sel.wide, if_true, if_false, Bool.false_eq_true, E1.out, E2.out, E3.out, E4.out, E5.out, E6.out, E7.out]
    rfl)
  have hd6 : d6.length ≤ 1000000 := by have := mg.rtext_len s5; rw [E6.out] at this; exact this
  have hN : N ≤ 255 := by
    have h := E7.out
    unfold rnum at h
    split at h
    · cases h; exact Nat.zero_le _
    · have := feed.be_lt s6.b 1
      cases h
      omega
  have C1 := Lib.hid (fun A c W h => ref_num4 (w.heap.size + 1) ⟨b, false⟩ A c (· < w.heap.size) W h (fun k hk => by omega))
  have C2 := Lib.hid (fun A c W h => ref_num1 (w.heap.size + 1) s1 A c (· < w.heap.size) W h (fun k hk => by omega))
  have C3 := Lib.hid (fun A c W h => ref_num4 (w.heap.size + 1) s2 A c (· < w.heap.size) W h (fun k hk => by omega))
  have C4 := Lib.hid (fun A c W h => ref_num1 (w.heap.size + 1) s3 A c (· < w.heap.size) W h (fun k hk => by omega))
  have C5 := Lib.hid (fun A c W h => ref_num4 (w.heap.size + 1) s4 A c (· < w.heap.size) W h (fun k hk => by omega))
  have C6 := Lib.hid (fun A c W h => ref_text (w.heap.size + 1) s5 A c (· < w.heap.size) W h (fun k hk => by omega))
  have C7 := Lib.hid (fun A c W h => ref_num1 (w.heap.size + 1) s6 A c (· < w.heap.size) W h (fun k hk => by omega))
  rw [E1.out] at C1
  rw [E2.out] at C2
  rw [E3.out] at C3
  rw [E4.out] at C4
  rw [E5.out] at C5
  rw [E6.out] at C6
  rw [E7.out] at C7
  clear E1 E2 E3 E4 E5 E6 E7
  have H0 : Hid (mr.Rb w ⟨b, false⟩ Ab cb (mr.X0 w Ab b.length cb)) := Lib.hid ⟨hr0, hs0, hb0, by omega⟩
  clear hr0 hs0 hb0 hz0
  go_enter Try.func16, Try.ntmps16
  go_wp2_with fail
  unfold mr.X0 at H0
  generalize (w.alloc (.cells #[.int .i64 0, .int .i64 0, .int .i64 0, .int .i64 0, .int .i64 0, .slice none 0 0, .slice none 0 0] 36)).alloc (.cells #[.slice Ab b.length cb, .bool false] 60) = W0 at *
  refine (C1.out _ _ W0 H0.out.rd).mono ?_
  rintro e w1 ⟨A1, c1, rfl, h1, hg1⟩
  have H1 := Lib.hid (H0.out.step h1 hg1)
  clear h1 hg1 H0 C1
  go_wp2_with fail
  refine (C2.out _ _ w1 H1.out.rd).mono ?_
  rintro e w2 ⟨A2, c2, rfl, h1, hg1⟩
  have H2 := Lib.hid (H1.out.step h1 hg1)
  clear h1 hg1 H1 C2
  go_wp2_with fail
  refine (C3.out _ _ w2 H2.out.rd).mono ?_
  rintro e w3 ⟨A3, c3, rfl, h1, hg1⟩
  have H3 := Lib.hid (H2.out.step h1 hg1)
  clear h1 hg1 H2 C3
  go_wp2_with fail
  refine (C4.out _ _ w3 H3.out.rd).mono ?_
  rintro e w4 ⟨A4, c4, rfl, h1, hg1⟩
  have H4 := Lib.hid (H3.out.step h1 hg1)
  clear h1 hg1 H3 C4
  go_wp2_with fail
  refine (C5.out _ _ w4 H4.out.rd).mono ?_
  rintro e w5 ⟨A5, c5, rfl, h1, hg1⟩
  have H5 := Lib.hid (H4.out.step h1 hg1)
  clear h1 hg1 H4 C5
  go_wp2_with fail
  refine (C6.out _ _ w5 H5.out.rd).mono ?_
  rintro e w6 ⟨A6, c6, rfl, h1, hg1⟩
  have H6 := Lib.hid (H5.out.step h1 hg1)
  clear h1 hg1 H5 C6
  obtain ⟨cd, w7, hcv, hb7, hd7⟩ := conv_rep d6 w6 hd6
  have HB7 := Lib.hid hb7
  have HD7 := Lib.hid hd7
  clear hb7 hd7
  go_wp2_with fail
  have hat : mr.At (w7.alloc (.cells #[.int .i64 (n1 : Int), .int .i64 (n2 : Int), .int .i64 (n3 : Int), .int .i64 (n4 : Int), .int .i64 (n5 : Int), .slice (some ⟨w6.heap.size, 0, none⟩) d6.length cd, .slice none 0 0] 36)) w7.heap.size ⟨n1, n2, n3, n4, n5, d6, []⟩ (some ⟨w6.heap.size, 0, none⟩) cd none 0 := mr.At.new w7 ⟨n1, n2, n3, n4, n5, d6, []⟩ _ _ _ _
  have hz6 := H6.out.size
  have hz7 : w6.heap.size < w7.heap.size ∨ d6 = [] := by
    have := HB7.out.size
    rcases HD7.out.2.2 with h | ⟨bb, oo, e, hb, _⟩
    · exact .inr h
    · cases e; exact .inl hb.2
  have HA8 : Hid (mr.Ra w (w.heap.size + 1) w7.heap.size (w7.heap.size + 1) ⟨n1, n2, n3, n4, n5, d6, []⟩ s6 A6 c6 0 (([] : List (List UInt8)).map strOf) none 0 (some ⟨w6.heap.size, 0, none⟩) cd (w7.alloc (.cells #[.int .i64 (n1 : Int), .int .i64 (n2 : Int), .int .i64 (n3 : Int), .int .i64 (n4 : Int), .int .i64 (n5 : Int), .slice (some ⟨w6.heap.size, 0, none⟩) d6.length cd, .slice none 0 0] 36))) := Lib.hid (by
    have hs7 := HB7.out.size
    have e : ∀ k, k < w6.heap.size → (w7.alloc (.cells #[.int .i64 (n1 : Int), .int .i64 (n2 : Int), .int .i64 (n3 : Int), .int .i64 (n4 : Int), .int .i64 (n5 : Int), .slice (some ⟨w6.heap.size, 0, none⟩) d6.length cd, .slice none 0 0] 36)).heap[k]? = w6.heap[k]? := fun k hk => ((balloc (bself w7) _).block k (by omega)).trans (HB7.out.block k hk)
    exact ⟨H6.out.rd.block (e _ (by omega)) (fun k hk => e k (by omega)), hat, Own.nil _ _ _ _, rfl, HD7.out.keep fun k hk => ⟨⟨by omega, hk.2⟩, (balloc (bself w7) _).block k hk.2⟩, H6.out.res.block (e _ (by omega)), balloc (bnext H6.out.hb HB7.out) _, by omega, by omega, by omega, by simp⟩)
  clear hat HB7 HD7 hcv H6
  generalize w7.alloc (.cells #[.int .i64 (n1 : Int), .int .i64 (n2 : Int), .int .i64 (n3 : Int), .int .i64 (n4 : Int), .int .i64 (n5 : Int), .slice (some ⟨w6.heap.size, 0, none⟩) d6.length cd, .slice none 0 0] 36) = w8 at *
  generalize hB : w7.heap.size = B at *
  clear hB
  generalize (some (⟨w6.heap.size, 0, none⟩ : Addr)) = Ad at *
  refine (C7.out _ _ w8 HA8.out.rd).mono ?_
  rintro e w9 ⟨A9, c9, rfl, h1, hg1⟩
  have HA9 := Lib.hid (HA8.out.reads h1 hg1)
  clear h1 hg1 HA8 C7
  have HEB : Hid (mr.refAnswered b = if (mr.rtexts N s7 []).1.short then .error 5 else if (mr.rtexts N s7 []).1.b = [] ∧ mr.fault (mr.whole ⟨⟨n1, 0, n3, n4, n5, d6, []⟩, n2, N⟩ (mr.rtexts N s7 []).2) = 0 then .ok (mr.whole ⟨⟨n1, 0, n3, n4, n5, d6, []⟩, n2, N⟩ (mr.rtexts N s7 []).2) else .error 4) := Lib.hid (by
    rw [HEA.out]
    unfold mr.refAnswered2
    rw [show (⟨⟨n1, 0, n3, n4, n5, d6, []⟩, n2, N⟩ : mr.St).count.toNat = N from Int.toNat_natCast N])
  clear HEA hz7
  go_wp2_with fail
  go_loopw [6] (fun s6' wr => ∃ (k i : Nat) (st : Rd) (A : Option Addr) (c : Nat) (l : List (List UInt8)) (An : Option Addr) (cn : Nat), s6' = .int .i64 k ∧ k ≤ N ∧ i + k = N ∧ Hid (mr.rtexts k st l = mr.rtexts N s7 []) ∧ Hid (mr.Ra w (w.heap.size + 1) B (B + 1) ⟨n1, n2, n3, n4, n5, d6, []⟩ st A c i (l.map strOf) An cn Ad cd wr)) (fun s6' _ => (intOf s6').toNat)
  case atStart => exact ⟨N, 0, s7, A9, c9, [], none, 0, rfl, Nat.le_refl _, by omega, Lib.hid rfl, HA9⟩
  case round =>
    obtain ⟨k, i, st, A, c, l, An, cn, rfl, hk, hik, HT, HR⟩ := hrel
    clear HA9
    rename World => wr
    have u1 := HR.out.rd.c1
    have u0 := HR.out.rd.c0
    have uf := HR.out.rd.fz
    by_cases hlt : 0 < k ∧ st.short = false
    · obtain ⟨hk0, hsh⟩ := hlt
      rw [hsh] at u1
      obtain ⟨k', rfl⟩ : ∃ k', k = k' + 1 := ⟨k - 1, by omega⟩
      have q : decide (((k' + 1 : Nat) : Int) > 0) = true := decide_eq_true (by omega)
      have HST : Hid (mr.rtexts (k' + 1) st l = mr.rtexts k' (rtext st).1 (l ++ [(rtext st).2])) := Lib.hid (by
        rw [show mr.rtexts (k' + 1) st l = if st.short then (st, l) else mr.rtexts k' (rtext st).1 (l ++ [(rtext st).2]) from rfl, if_neg (by rw [hsh]; decide)])
      obtain ⟨st', x, HX⟩ : ∃ st' x, Hid (rtext st = (st', x)) := ⟨_, _, Lib.hid rfl⟩
      have HC := Lib.hid (fun W (h : mg.RdAt W (w.heap.size + 1) _ st A c) => ref_text (w.heap.size + 1) st A c (· < w.heap.size) W h (fun k hk => by omega))
      rw [HX.out] at HC HST
      have HT2 : Hid (mr.rtexts k' st' (l ++ [x]) = mr.rtexts N s7 []) := Lib.hid (by rw [← HT.out, HST.out])
      have hll : (l.map strOf).length = i := HR.out.len
      have u6 : wr.cell? ⟨B, 6, none⟩ = some (.slice An i cn) := (HR.out.at_.cell 6).trans (by show some (Value.slice An (List.map strOf l).length cn) = _; rw [hll])
      have uf6 := HR.out.at_.free 6
      have hzB : B < wr.heap.size := HR.out.at_.lt
      go_upto_region 6 with fail
      go_region_law (first
        | (go_simp; go_at_call 29; refine (HC.out _ (HR.out.next (Below.drew (bself wr))).rd).mono ?_; rintro e w6 ⟨A6, c6, rfl, h6, hg6⟩; have HR6 := Lib.hid ((HR.out.next (Below.drew (bself wr))).reads h6 hg6); have v6 : w6.cell? ⟨B, 6, none⟩ = some (.slice An i cn) := (HR6.out.at_.cell 6).trans (by show some (Value.slice An (List.map strOf l).length cn) = _; rw [hll]); have vf6 := HR6.out.at_.free 6; have vz6 : B < w6.heap.size := HR6.out.at_.lt; clear h6 hg6; go_simp)
        | (refine step_app _ (by rfl) _ _ _ (by rfl) elemStr (B + 1) An i cn _ (by rfl) (HR6.out.own.alloc _) _ 1 1 [Value.string (strOf x)] (by rfl) rfl (Cells.newAt _ _ _ rfl) (by simp [Value.oneCell']) (by omega) (by unfold maxLen; omega) (by simp; omega) ?_; intro A7 c7 w7 hO7 hg7; have v7 := (hg7.cell 6 (b := B) (by simp; omega) (fun k hk => by have := (HR6.out.own.lt k hk).1; omega)).trans (((balloc (bself w6) _).cell (p := ⟨B, 6, none⟩) vz6).trans v6); have vf7 := (hg7.frozen 6 (b := B) (by simp; omega) (fun k hk => by have := (HR6.out.own.lt k hk).1; omega)).trans (((balloc (bself w6) _).frozen (p := ⟨B, 6, none⟩) vz6).trans vf6))
        | fail)
      all_goals
        have HP := Lib.hid (HR6.out.push (balloc (bself w6) _) hg7 hO7).2
        go_wp2
        go_roundw
        case rel => exact ⟨k', i + 1, st', A6, c6, l ++ [x], A7, c7, by simp, by omega, by omega, HT2, Lib.hid (by rw [List.map_append]; exact HP.out)⟩
        case measure => first | (simp [intOf]; done) | (simp [intOf]; omega)
    · have HTE : Hid (mr.rtexts N s7 [] = (st, l)) := Lib.hid (by
        rw [← HT.out]
        cases k with
        | zero => rfl
        | succ k' =>
          have hsh : st.short = true := by cases h : st.short with
            | true => rfl
            | false => exact absurd ⟨by omega, h⟩ hlt
          rw [show mr.rtexts (k' + 1) st l = if st.short then (st, l) else mr.rtexts k' (rtext st).1 (l ++ [(rtext st).2]) from rfl, if_pos hsh])
      have HE3 : Hid (mr.refAnswered b = if st.short then .error 5 else if st.b = [] ∧ mr.fault (mr.whole ⟨⟨n1, 0, n3, n4, n5, d6, []⟩, n2, N⟩ l) = 0 then .ok (mr.whole ⟨⟨n1, 0, n3, n4, n5, d6, []⟩, n2, N⟩ l) else .error 4) := Lib.hid (by rw [HEB.out, HTE.out])
      have hsz := mr.rtexts_sizes HTE.out (fun s hs => by cases hs)
      have HAT : Hid (mr.At wr B (mr.whole ⟨⟨n1, 0, n3, n4, n5, d6, []⟩, n2, N⟩ l) Ad cd An cn) := Lib.hid HR.out.at_
      have o1 := HR.out.o1
      have o2 := HR.out.o2
      have o3 := HR.out.o3
      have o4 := HR.out.o4
      have HDT : Hid (SlRep Rep.u8 wr (fun k => w.heap.size < k ∧ k < wr.heap.size) (mr.whole ⟨⟨n1, 0, n3, n4, n5, d6, []⟩, n2, N⟩ l).data Ad cd) := Lib.hid (HR.out.data.keep fun k hk => ⟨⟨by omega, by omega⟩, rfl⟩)
      have HNS : Hid (SlRep Rep.str wr (fun k => w.heap.size < k ∧ k < wr.heap.size) (mr.whole ⟨⟨n1, 0, n3, n4, n5, d6, []⟩, n2, N⟩ l).names An cn) := Lib.hid (HR.out.own.strs.2.keep fun k hk => ⟨⟨by omega, hk.2⟩, rfl⟩)
      have HNL : Hid ((mr.whole ⟨⟨n1, 0, n3, n4, n5, d6, []⟩, n2, N⟩ l).names.length ≤ 140737488351232 ∧ ∀ s ∈ (mr.whole ⟨⟨n1, 0, n3, n4, n5, d6, []⟩, n2, N⟩ l).names, s.size ≤ 140737488351232) := Lib.hid (by
        have h1 : (l.map strOf).length = i := HR.out.len
        refine ⟨by show (l.map strOf).length ≤ _; omega, fun s hs => ?_⟩
        obtain ⟨t, ht, rfl⟩ := List.mem_map.1 (show s ∈ l.map strOf from hs)
        have := hsz t ht
        rw [strOf_size]
        omega)
      generalize mr.whole ⟨⟨n1, 0, n3, n4, n5, d6, []⟩, n2, N⟩ l = r at *
      have HRES := Lib.hid HR.out.res
      have HBW := Lib.hid HR.out.hb
      clear hsz HT HEB HTE HR
      have hzw : w.heap.size < wr.heap.size := by omega
      have hzR : w.heap.size + 1 < wr.heap.size := by omega
      have hzB : B < wr.heap.size := by omega
      have z0 : wr.cell? ⟨w.heap.size, 0, none⟩ = some (.int .i64 0) := HRES.out.cell 0
      have z1 : wr.cell? ⟨w.heap.size, 1, none⟩ = some (.int .i64 0) := HRES.out.cell 1
      have z2 : wr.cell? ⟨w.heap.size, 2, none⟩ = some (.int .i64 0) := HRES.out.cell 2
      have z3 : wr.cell? ⟨w.heap.size, 3, none⟩ = some (.int .i64 0) := HRES.out.cell 3
      have z4 : wr.cell? ⟨w.heap.size, 4, none⟩ = some (.int .i64 0) := HRES.out.cell 4
      have z5 : wr.cell? ⟨w.heap.size, 5, none⟩ = some (.slice none 0 0) := HRES.out.cell 5
      have z6 : wr.cell? ⟨w.heap.size, 6, none⟩ = some (.slice none 0 0) := HRES.out.cell 6
      have zf := HRES.out.free
      cases hsh : st.short with
      | true =>
        have HE : Hid (mr.refAnswered b = .error 5) := Lib.hid (by rw [HE3.out, if_pos hsh])
        rw [hsh] at u1
        clear hsh HE3
        by_cases hk0 : 0 < k
        · have q : decide ((k : Int) > 0) = true := decide_eq_true (by omega)
          have q' : decide (0 < k) = true := decide_eq_true hk0
          clear hk0 hlt hik hk
          go_wp2_with fail
          exact bodyPost_ret (v := .tuple #[.agg #[.int .i64 0, .int .i64 0, .int .i64 0, .int .i64 0, .int .i64 0, .slice none 0 0, .slice none 0 0], .int .i64 5]) (by first | (simp [results, Try.results16, go_sem]; done) | (simp [results, Try.results16, go_sem, *]; done)) rfl (AnsweredRes.no HE.out (by repeat (first | (with_reducible exact HBW.out) | (with_reducible refine bset ?_ (Nat.le_refl _) _) | (with_reducible refine balloc ?_ _))))
        · have q : decide ((k : Int) > 0) = false := decide_eq_false (by omega)
          have q' : decide (0 < k) = false := decide_eq_false hk0
          clear hk0 hlt hik hk
          go_wp2_with fail
          exact bodyPost_ret (v := .tuple #[.agg #[.int .i64 0, .int .i64 0, .int .i64 0, .int .i64 0, .int .i64 0, .slice none 0 0, .slice none 0 0], .int .i64 5]) (by first | (simp [results, Try.results16, go_sem]; done) | (simp [results, Try.results16, go_sem, *]; done)) rfl (AnsweredRes.no HE.out (by repeat (first | (with_reducible exact HBW.out) | (with_reducible refine bset ?_ (Nat.le_refl _) _) | (with_reducible refine balloc ?_ _))))
      | false =>
        obtain rfl : k = 0 := by
          rcases Nat.eq_zero_or_pos k with h | h
          · exact h
          · exact absurd ⟨h, hsh⟩ hlt
        have HE4 : Hid (mr.refAnswered b = if st.b = [] ∧ mr.fault r = 0 then .ok r else .error 4) := Lib.hid (by rw [HE3.out, if_neg (by rw [hsh]; decide)])
        rw [hsh] at u1
        clear hsh HE3 hlt
        generalize st.b = bk at *
        by_cases hbk : bk = []
        · subst hbk
          by_cases hf : mr.fault r = 0
          · have HE : Hid (mr.refAnswered b = .ok r) := Lib.hid (by rw [HE4.out, if_pos ⟨rfl, hf⟩])
            have HFC := Lib.hid (ref_answerFault r Ad cd An cn wr (HNS.out.keep fun k hk => ⟨hk.2, rfl⟩) HNL.out.1 HNL.out.2)
            rw [hf] at HFC
            clear hf HE4
            have y0 := HAT.out.cell 0
            have y1 := HAT.out.cell 1
            have y2 := HAT.out.cell 2
            have y3 := HAT.out.cell 3
            have y4 := HAT.out.cell 4
            have y5 := HAT.out.cell 5
            have y6 := HAT.out.cell 6
            simp only [mr.vals, List.getElem?_cons_zero, List.getElem?_cons_succ] at y0 y1 y2 y3 y4 y5 y6
            go_wp2_with fail
            refine HFC.out.mono ?_
            rintro e w8 ⟨rfl, hb8⟩
            have HR8 := Lib.hid (HRES.out.next hb8)
            have HA8 := Lib.hid (HAT.out.next hb8)
            have HB8 := Lib.hid (bnext HBW.out hb8)
            have HD8 : Hid (SlRep Rep.u8 w8 (fun k => w.heap.size < k ∧ k < w8.heap.size) r.data Ad cd) := Lib.hid (HDT.out.keep fun k hk => ⟨⟨hk.1, Nat.lt_of_lt_of_le hk.2 hb8.size⟩, hb8.block k hk.2⟩)
            have HN8 : Hid (SlRep Rep.str w8 (fun k => w.heap.size < k ∧ k < w8.heap.size) r.names An cn) := Lib.hid (HNS.out.keep fun k hk => ⟨⟨hk.1, Nat.lt_of_lt_of_le hk.2 hb8.size⟩, hb8.block k hk.2⟩)
            clear hb8 y0 y1 y2 y3 y4 y5 y6 u0 u1 uf z0 z1 z2 z3 z4 z5 z6 zf
            have z0 : w8.cell? ⟨w.heap.size, 0, none⟩ = some (.int .i64 0) := HR8.out.cell 0
            have z1 : w8.cell? ⟨w.heap.size, 1, none⟩ = some (.int .i64 0) := HR8.out.cell 1
            have z2 : w8.cell? ⟨w.heap.size, 2, none⟩ = some (.int .i64 0) := HR8.out.cell 2
            have z3 : w8.cell? ⟨w.heap.size, 3, none⟩ = some (.int .i64 0) := HR8.out.cell 3
            have z4 : w8.cell? ⟨w.heap.size, 4, none⟩ = some (.int .i64 0) := HR8.out.cell 4
            have z5 : w8.cell? ⟨w.heap.size, 5, none⟩ = some (.slice none 0 0) := HR8.out.cell 5
            have z6 : w8.cell? ⟨w.heap.size, 6, none⟩ = some (.slice none 0 0) := HR8.out.cell 6
            have zf := HR8.out.free
            have y0 := HA8.out.cell 0
            have y1 := HA8.out.cell 1
            have y2 := HA8.out.cell 2
            have y3 := HA8.out.cell 3
            have y4 := HA8.out.cell 4
            have y5 := HA8.out.cell 5
            have y6 := HA8.out.cell 6
            simp only [mr.vals, List.getElem?_cons_zero, List.getElem?_cons_succ] at y0 y1 y2 y3 y4 y5 y6
            go_wp2_with fail
            refine bodyPost_ret (v := .tuple #[.agg (mr.vals r Ad cd An cn).toArray, .int .i64 0]) (by simp only [mr.vals]; first | (simp [results, Try.results16, go_sem]; done) | (simp [results, Try.results16, go_sem, *]; done)) rfl ?_
            have hB6 : Below w.heap.size w (((((((w8.setCell ⟨w.heap.size, 0, none⟩ (.int .i64 r.mark)).setCell ⟨w.heap.size, 1, none⟩ (.int .i64 r.code)).setCell ⟨w.heap.size, 2, none⟩ (.int .i64 r.handle)).setCell ⟨w.heap.size, 3, none⟩ (.int .i64 r.kind)).setCell ⟨w.heap.size, 4, none⟩ (.int .i64 r.size)).setCell ⟨w.heap.size, 5, none⟩ (.slice Ad r.data.length cd)).setCell ⟨w.heap.size, 6, none⟩ (.slice An r.names.length cn)) := by
              repeat (first | (with_reducible exact HB8.out) | (with_reducible refine bset ?_ (Nat.le_refl _) _))
            exact mr.answered_yes HE.out HD8.out HN8.out (fun k hk => by (repeat rw [mg.heap_set (by omega)])) (by simp only [World.size_setCell]; exact Nat.le_refl _) hB6
          · have HE : Hid (mr.refAnswered b = .error 4) := Lib.hid (by rw [HE4.out, if_neg (fun h => hf h.2)])
            have HFC := Lib.hid (ref_answerFault r Ad cd An cn wr (HNS.out.keep fun k hk => ⟨hk.2, rfl⟩) HNL.out.1 HNL.out.2)
            obtain ⟨f, hfv⟩ : ∃ f, mr.fault r = f := ⟨_, rfl⟩
            rw [hfv] at HFC hf
            have q1 : (f != 0) = true := bne_iff_ne.2 hf
            clear hf hfv HE4
            have y0 := HAT.out.cell 0
            have y1 := HAT.out.cell 1
            have y2 := HAT.out.cell 2
            have y3 := HAT.out.cell 3
            have y4 := HAT.out.cell 4
            have y5 := HAT.out.cell 5
            have y6 := HAT.out.cell 6
            simp only [mr.vals, List.getElem?_cons_zero, List.getElem?_cons_succ] at y0 y1 y2 y3 y4 y5 y6
            go_wp2_with fail
            refine HFC.out.mono ?_
            rintro e w8 ⟨rfl, hb8⟩
            have HR8 := Lib.hid (HRES.out.next hb8)
            have HB8 := Lib.hid (bnext HBW.out hb8)
            clear hb8 y0 y1 y2 y3 y4 y5 y6 u0 u1 uf z0 z1 z2 z3 z4 z5 z6 zf
            have z0 : w8.cell? ⟨w.heap.size, 0, none⟩ = some (.int .i64 0) := HR8.out.cell 0
            have z1 : w8.cell? ⟨w.heap.size, 1, none⟩ = some (.int .i64 0) := HR8.out.cell 1
            have z2 : w8.cell? ⟨w.heap.size, 2, none⟩ = some (.int .i64 0) := HR8.out.cell 2
            have z3 : w8.cell? ⟨w.heap.size, 3, none⟩ = some (.int .i64 0) := HR8.out.cell 3
            have z4 : w8.cell? ⟨w.heap.size, 4, none⟩ = some (.int .i64 0) := HR8.out.cell 4
            have z5 : w8.cell? ⟨w.heap.size, 5, none⟩ = some (.slice none 0 0) := HR8.out.cell 5
            have z6 : w8.cell? ⟨w.heap.size, 6, none⟩ = some (.slice none 0 0) := HR8.out.cell 6
            have zf := HR8.out.free
            go_wp2_with fail
            exact bodyPost_ret (v := .tuple #[.agg #[.int .i64 0, .int .i64 0, .int .i64 0, .int .i64 0, .int .i64 0, .slice none 0 0, .slice none 0 0], .int .i64 4]) (by first | (simp [results, Try.results16, go_sem]; done) | (simp [results, Try.results16, go_sem, *]; done)) rfl (AnsweredRes.no HE.out (by repeat (first | (with_reducible exact HB8.out) | (with_reducible refine bset ?_ (Nat.le_refl _) _) | (with_reducible refine balloc ?_ _))))
        · have HE : Hid (mr.refAnswered b = .error 4) := Lib.hid (by rw [HE4.out, if_neg (fun h => hbk h.1)])
          have hbp := List.length_pos_iff.2 hbk
          clear hbk HE4
          go_wp2_with fail
          exact bodyPost_ret (v := .tuple #[.agg #[.int .i64 0, .int .i64 0, .int .i64 0, .int .i64 0, .int .i64 0, .slice none 0 0, .slice none 0 0], .int .i64 4]) (by first | (simp [results, Try.results16, go_sem]; done) | (simp [results, Try.results16, go_sem, *]; done)) rfl (AnsweredRes.no HE.out (by repeat (first | (with_reducible exact HBW.out) | (with_reducible refine bset ?_ (Nat.le_refl _) _) | (with_reducible refine balloc ?_ _))))
end Go.Proofs.Ytcpbgiikfabaaaa
