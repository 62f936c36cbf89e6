/- Package ref: MsgAsked. No condition. -/
import Derived.Test.YtcpbgiikfabaaaaMsgY
import Derived.Test.YtcpbgiikfabaaaaMsg12
namespace Go.Proofs.Ytcpbgiikfabaaaa
open Go.RowKit

theorem mg.RdAt.block {w w' : World} {R : Nat} {S : Nat → Prop} {st : mg.Rd} {A : Option Addr} {c : Nat} (h : mg.RdAt w R S st A c) (hR : w'.heap[R]? = w.heap[R]?) (hS : ∀ k, S k → w'.heap[k]? = w.heap[k]?) : mg.RdAt w' R S st A c :=
  ⟨(World.cell?_of_block (a := ⟨R, 0, none⟩) hR).trans h.c0, (World.cell?_of_block (a := ⟨R, 1, none⟩) hR).trans h.c1, fun j => (World.frozen?_of_block (a := ⟨R, j, none⟩) hR).trans (h.fz j), h.data.keep fun k hk => ⟨hk, hS k hk⟩⟩
theorem mg.At.block {w w' : World} {B : Nat} {r : Request} {A : Option Addr} {c : Nat} (h : mg.At w B r A c) (hB : w'.heap[B]? = w.heap[B]?) : mg.At w' B r A c :=
  ⟨fun j => (World.cell?_of_block (a := ⟨B, j, none⟩) hB).trans (h.cell j), fun j => (World.frozen?_of_block (a := ⟨B, j, none⟩) hB).trans (h.free j)⟩
/-- within the loop of MsgAsked: the reader in R, the request in B, the iterator in I at p -/
structure mg.AdR (w : World) (R B I : Nat) (l : List UInt8) (p : Nat) (st : mg.Rd) (A : Option Addr) (c : Nat) (r : Request) (Aq : Option Addr) (cd : Nat) (wr : World) : Prop where
  rd : mg.RdAt wr R (· < w.heap.size) st A c
  at_ : mg.At wr B r Aq cd
  data : SlRep Rep.u8 wr (fun k => I < k ∧ k < wr.heap.size) r.data Aq cd
  res : mg.At wr w.heap.size mg.zeroR none 0
  it : wr.heap[I]? = Option.some (.stringIter (strOf l) p)
  hb : Below w.heap.size w wr
  o1 : w.heap.size < R
  o2 : R < B
  o3 : B < I
section
variable {w : World} {R B I : Nat} {l : List UInt8} {p : Nat} {st : mg.Rd} {A : Option Addr} {c : Nat} {r : Request} {Aq : Option Addr} {cd : Nat} {wr : World}
theorem mg.AdR.lt (h : mg.AdR w R B I l p st A c r Aq cd wr) : I < wr.heap.size := (Array.getElem?_eq_some_iff.1 h.it).1
theorem mg.AdR.iter (h : mg.AdR w R B I l p st A c r Aq cd wr) (q : Nat) : mg.AdR w R B I l q st A c r Aq cd (wr.iterAt I (strOf l) q) := by
  have e : ∀ k, k ≠ I → (wr.iterAt I (strOf l) q).heap[k]? = wr.heap[k]? := fun k hk => Lib.iterAt_other _ _ _ _ _ hk
  have o1 := h.o1; have o2 := h.o2; have o3 := h.o3
  exact ⟨h.rd.block (e R (by omega)) (fun k hk => e k (by omega)), h.at_.block (e B (by omega)), h.data.keep fun k hk => ⟨⟨hk.1, by rw [Lib.iterAt_size]; exact hk.2⟩, e k (by omega)⟩, h.res.block (e _ (by omega)), Lib.iterAt_heap _ _ _ _ _ h.it, Lib.below_iterAt h.hb (by omega) _ _, o1, o2, o3⟩
theorem mg.AdR.reads (h : mg.AdR w R B I l p st A c r Aq cd wr) {st' : mg.Rd} {A' : Option Addr} {c' : Nat} {w' : World} (h1 : mg.RdAt w' R (· < w.heap.size) st' A' c') (hg : wr.grownBy w' (Option.some R)) : mg.AdR w R B I l p st' A' c' r Aq cd w' := by
  have o1 := h.o1; have o2 := h.o2; have o3 := h.o3
  have hI := h.lt
  have e : ∀ k, k < wr.heap.size → k ≠ R → w'.heap[k]? = wr.heap[k]? := fun k hk hne => hg.block k hk (fun e => hne (Option.some.inj e))
  exact ⟨h1, h.at_.block (e B (by omega) (by omega)), h.data.keep fun k hk => ⟨⟨hk.1, Nat.lt_of_lt_of_le hk.2 hg.size⟩, e k hk.2 (by omega)⟩, h.res.block (e _ (by omega) (by omega)), (e I hI (by omega)).trans h.it, h.hb.grown hg (by omega) (fun k hk => by cases hk; omega), o1, o2, o3⟩
theorem mg.AdR.next (h : mg.AdR w R B I l p st A c r Aq cd wr) {w' : World} (hb : Below wr.heap.size wr w') : mg.AdR w R B I l p st A c r Aq cd w' := by
  have o1 := h.o1; have o2 := h.o2; have o3 := h.o3
  have hI := h.lt
  have e : ∀ k, k < wr.heap.size → w'.heap[k]? = wr.heap[k]? := fun k hk => hb.block k hk
  exact ⟨h.rd.block (e R (by omega)) (fun k hk => e k (by omega)), h.at_.block (e B (by omega)), h.data.keep fun k hk => ⟨⟨hk.1, Nat.lt_of_lt_of_le hk.2 hb.size⟩, e k hk.2⟩, h.res.block (e _ (by omega)), (e I hI).trans h.it, bnext h.hb hb, o1, o2, o3⟩
theorem mg.AdR.store (h : mg.AdR w R B I l p st A c r Aq cd wr) {r' : Request} {A' : Option Addr} {c' o : Nat} {v : Value} (ho : o < 9) (he : mg.vals r' A' c' = (mg.vals r Aq cd).set o v) (hd : SlRep Rep.u8 wr (fun k => I < k ∧ k < wr.heap.size) r'.data A' c') :
    mg.AdR w R B I l p st A c r' A' c' (wr.setCell ⟨B, o, none⟩ v) := by
  have o1 := h.o1; have o2 := h.o2; have o3 := h.o3
  have e : ∀ k, k ≠ B → (wr.setCell ⟨B, o, none⟩ v).heap[k]? = wr.heap[k]? := fun k hk => mg.heap_set hk
  exact ⟨h.rd.block (e R (by omega)) (fun k hk => e k (by omega)), h.at_.set ho he, hd.keep fun k hk => ⟨⟨hk.1, by rw [World.size_setCell]; exact hk.2⟩, e k (by omega)⟩, h.res.block (e _ (by omega)), (e I (by omega)).trans h.it, bset h.hb (by omega) _, o1, o2, o3⟩
end

theorem conv_rep (l : List UInt8) (W : World) (hl : l.length ≤ 1000000) : ∃ c W', (convert 9 22 (.string (strOf l))).run Try.prog W = .ok (.slice (Option.some ⟨W.heap.size, 0, none⟩) l.length c) W' ∧ Below W.heap.size W W' ∧ SlRep Rep.u8 W' (fun k => W.heap.size ≤ k ∧ k < W'.heap.size) l (Option.some ⟨W.heap.size, 0, none⟩) c := by
  have h := Lib.run_convert_string_bytes (P := Try.prog) W 9 22 5 (strOf l) Try.underlying9 Try.underlying22 Try.underlying5
  rw [strOf_size] at h
  refine ⟨grownCap W l.length 0 5, Lib.bytesWorld W 5 (strOf l), h, ⟨rfl, rfl, rfl, by rw [Lib.bytesWorld_size]; omega, fun j hj => Lib.bytesWorld_at_old W _ _ j hj⟩, grownCap_ge W l.length 0 _, grownCap_le_maxLen W l.length 0 _ (by unfold maxLen; omega), .inr ⟨W.heap.size, 0, rfl, ⟨Nat.le_refl _, by rw [Lib.bytesWorld_size]; omega⟩, fun i a hi => ⟨_, rfl, fun j u hj => ?_⟩⟩⟩
  have hlt : i < l.length := (List.getElem?_eq_some_iff.1 hi).1
  have hj0 : j = 0 := by have := (List.getElem?_eq_some_iff.1 hj).1; simp at this; omega
  subst hj0
  simp at hj
  subst hj
  have e : 0 + i * Rep.u8.size + 0 = i := by simp [Rep.u8]
  rw [e, Lib.bytesWorld_cell W _ _ i (by rw [strOf_size]; exact hlt)]
  have e1 : (strOf l).data.toList = l := by simp [strOf]
  rw [e1, List.getD_eq_getElem?_getD, hi]
  rfl
theorem mg.rtext_len (st : mg.Rd) : (mg.rtext st).2.length ≤ 1000000 := by
  have h : (mg.rnum 2 st).2 ≤ 65535 := by
    unfold mg.rnum
    split
    · exact Nat.zero_le _
    · have := feed.be_lt st.b 2
      show feed.be (st.b.take 2) ≤ 65535
      omega
  unfold mg.rtext
  split
  · exact Nat.zero_le _
  · show (List.take _ _).length ≤ _
    rw [List.length_take]; omega
theorem mg.rtake_step {P : List mg.Sel} {k : Nat} (hk : k < P.length) (st : mg.Rd) (r : Request) : mg.rtake (P.drop k) st r = mg.rtake (P.drop (k + 1)) (mg.rget (P.getD k .kind) st r).1 (mg.rget (P.getD k .kind) st r).2 := by
  rw [drop_getD P .kind hk]
  rfl
/-- the world that MsgAsked begins with -/
def mg.R0 (w : World) (Ab : Option Addr) (n cb : Nat) : World := (w.alloc (.cells #[.int .i64 0, .int .i64 0, .string { data := #[] }, .string { data := #[] }, .int .i64 0, .int .i64 0, .int .i64 0, .int .i64 0, .slice none 0 0] 24)).alloc (.cells #[.slice Ab n cb, .bool false] 60)
theorem mg.rstart {w : World} {b : List UInt8} {Ab : Option Addr} {cb : Nat} (hl : SlRep Rep.u8 w (· < w.heap.size) b Ab cb) :
    mg.RdAt (mg.R0 w Ab b.length cb) (w.heap.size + 1) (· < w.heap.size) ⟨b, false⟩ Ab cb ∧ mg.At (mg.R0 w Ab b.length cb) w.heap.size mg.zeroR none 0 ∧ Below w.heap.size w (mg.R0 w Ab b.length cb) ∧ (mg.R0 w Ab b.length cb).heap.size = w.heap.size + 2 := by
  have hb : Below w.heap.size w (mg.R0 w Ab b.length cb) := balloc (balloc (bself w) _) _
  have e : w.heap.size + 1 = (w.alloc (.cells #[.int .i64 0, .int .i64 0, .string { data := #[] }, .string { data := #[] }, .int .i64 0, .int .i64 0, .int .i64 0, .int .i64 0, .slice none 0 0] 24)).heap.size := by simp
  refine ⟨⟨?_, ?_, fun j => ?_, hl.keep fun k hk => ⟨hk, hb.block k hk⟩⟩, (mg.At.new w mg.zeroR none 0).next (balloc (bself _) _), hb, by unfold mg.R0; simp⟩
  · rw [e]; unfold mg.R0; rw [World.cell?_alloc_new]; rfl
  · rw [e]; unfold mg.R0; rw [World.cell?_alloc_new]; rfl
  · rw [e]; unfold mg.R0; simp [go_sem]

set_option maxRecDepth 100000 in
set_option maxHeartbeats 16000000 in
theorem ref_MsgAsked_res (b : List UInt8) (Ab : Option Addr) (cb : Nat) (w : World) (hl : SlRep Rep.u8 w (· < w.heap.size) b Ab cb) :
    Calls Try.prog 11 #[.slice Ab b.length cb] w (AskedRes (mg.refAsked b) w) := by
  obtain ⟨hr0, hs0, hb0, hz0⟩ := mg.rstart hl
  clear hl
  obtain ⟨st1, n1, HE1⟩ : ∃ st1 n, Hid (mg.rnum 1 ⟨b, false⟩ = (st1, n)) := ⟨_, _, Lib.hid rfl⟩
  obtain ⟨st2, n4, HE4⟩ : ∃ st2 n, Hid (mg.rnum 4 st1 = (st2, n)) := ⟨_, _, Lib.hid rfl⟩
  have HEA : Hid (mg.refAsked b = mg.refAsked2 st2 { mg.zeroR with kind := (n1 : Int), mark := (n4 : Int) }) := Lib.hid (by unfold mg.refAsked; rw [HE1.out, HE4.out])
  have HN1 := Lib.hid (ref_num1 (w.heap.size + 1) ⟨b, false⟩ Ab cb (· < w.heap.size) _ hr0 (fun k hk => by omega))
  have HN4 := Lib.hid (fun A1 c1 w1 h1 => ref_num4 (w.heap.size + 1) st1 A1 c1 (· < w.heap.size) w1 h1 (fun k hk => by omega))
  rw [HE1.out] at HN1
  rw [HE4.out] at HN4
  have HS0 := Lib.hid hs0
  have HB0 := Lib.hid hb0
  have HZ0 := Lib.hid hz0
  clear hr0 hs0 hb0 hz0
  go_enter Try.func11, Try.ntmps11
  go_wp2_with fail
  unfold mg.R0 at HN1 HS0 HB0 HZ0
  generalize (w.alloc (.cells #[.int .i64 0, .int .i64 0, .string { data := #[] }, .string { data := #[] }, .int .i64 0, .int .i64 0, .int .i64 0, .int .i64 0, .slice none 0 0] 24)).alloc (.cells #[.slice Ab b.length cb, .bool false] 60) = W0 at *
  refine HN1.out.mono ?_
  rintro e w1 ⟨A1, c1, rfl, h1, hg1⟩
  have H1 := Lib.hid h1
  have HG1 := Lib.hid hg1
  clear h1 hg1
  go_wp2_with fail
  refine (HN4.out A1 c1 w1 H1.out).mono ?_
  rintro e w2 ⟨A2, c2, rfl, h2, hg2⟩
  have HS2 := Lib.hid ((HS0.out.grown HG1.out (by omega)).grown hg2 (by omega))
  have hB1 : Below w.heap.size w w1 := HB0.out.grown HG1.out HB0.out.size (fun k hk => by cases hk; omega)
  have HB2 : Hid (Below w.heap.size w w2) := Lib.hid (hB1.grown hg2 hB1.size (fun k hk => by cases hk; omega))
  have hz2 : w.heap.size + 2 ≤ w2.heap.size := by have h1 := HZ0.out; have h2 := HG1.out.size; have h3 := hg2.size; omega
  have HR2 := Lib.hid h2
  clear h2 hg2 hB1 HN1 HN4 HS0 HB0 HZ0 HG1 H1
  have x0 := HR2.out.c0
  have x1 := HR2.out.c1
  have xf := HR2.out.fz
  have hzz : w.heap.size + 1 < w2.heap.size := by omega
  have hzy : w.heap.size < w2.heap.size := by omega
  have z0 : w2.cell? ⟨w.heap.size, 0, none⟩ = some (.int .i64 0) := HS2.out.cell 0
  have z1 : w2.cell? ⟨w.heap.size, 1, none⟩ = some (.int .i64 0) := HS2.out.cell 1
  have z2 : w2.cell? ⟨w.heap.size, 2, none⟩ = some (.string { data := #[] }) := HS2.out.cell 2
  have z3 : w2.cell? ⟨w.heap.size, 3, none⟩ = some (.string { data := #[] }) := HS2.out.cell 3
  have z4 : w2.cell? ⟨w.heap.size, 4, none⟩ = some (.int .i64 0) := HS2.out.cell 4
  have z5 : w2.cell? ⟨w.heap.size, 5, none⟩ = some (.int .i64 0) := HS2.out.cell 5
  have z6 : w2.cell? ⟨w.heap.size, 6, none⟩ = some (.int .i64 0) := HS2.out.cell 6
  have z7 : w2.cell? ⟨w.heap.size, 7, none⟩ = some (.int .i64 0) := HS2.out.cell 7
  have z8 : w2.cell? ⟨w.heap.size, 8, none⟩ = some (.slice none 0 0) := HS2.out.cell 8
  have zf := HS2.out.free
  cases hsh : st2.short with
  | true =>
    have HE : Hid (mg.refAsked b = .error 5) := Lib.hid (by rw [HEA.out]; unfold mg.refAsked2; rw [if_pos hsh])
    rw [hsh] at x1
    go_wp2_with fail
    exact bodyPost_ret (v := .tuple #[.agg #[.int .i64 0, .int .i64 0, .string { data := #[] }, .string { data := #[] }, .int .i64 0, .int .i64 0, .int .i64 0, .int .i64 0, .slice none 0 0], .int .i64 5]) (by first | (simp [results, Try.results11, go_sem]; done) | (simp [results, Try.results11, go_sem, *]; done)) rfl (AskedRes.no HE.out (by repeat (first | (with_reducible exact HB2.out) | (with_reducible refine bset ?_ (Nat.le_refl _) _) | (with_reducible refine balloc ?_ _))))
  | false =>
    rw [hsh] at x1
    have HSH := Lib.hid hsh
    clear hsh
    by_cases hk1 : (n1 : Int) < 1
    · have HE : Hid (mg.refAsked b = .error 3) := Lib.hid (by rw [HEA.out]; unfold mg.refAsked2; rw [if_neg (by rw [HSH.out]; decide), if_pos (.inl hk1)])
      clear HSH
      go_wp2_with fail
      exact bodyPost_ret (v := .tuple #[.agg #[.int .i64 0, .int .i64 0, .string { data := #[] }, .string { data := #[] }, .int .i64 0, .int .i64 0, .int .i64 0, .int .i64 0, .slice none 0 0], .int .i64 3]) (by first | (simp [results, Try.results11, go_sem]; done) | (simp [results, Try.results11, go_sem, *]; done)) rfl (AskedRes.no HE.out (by repeat (first | (with_reducible exact HB2.out) | (with_reducible refine bset ?_ (Nat.le_refl _) _) | (with_reducible refine balloc ?_ _))))
    · by_cases hk2 : 10 < (n1 : Int)
      · have HE : Hid (mg.refAsked b = .error 3) := Lib.hid (by rw [HEA.out]; unfold mg.refAsked2; rw [if_neg (by rw [HSH.out]; decide), if_pos (.inr hk2)])
        clear HSH
        go_wp2_with fail
        exact bodyPost_ret (v := .tuple #[.agg #[.int .i64 0, .int .i64 0, .string { data := #[] }, .string { data := #[] }, .int .i64 0, .int .i64 0, .int .i64 0, .int .i64 0, .slice none 0 0], .int .i64 3]) (by first | (simp [results, Try.results11, go_sem]; done) | (simp [results, Try.results11, go_sem, *]; done)) rfl (AskedRes.no HE.out (by repeat (first | (with_reducible exact HB2.out) | (with_reducible refine bset ?_ (Nat.le_refl _) _) | (with_reducible refine balloc ?_ _))))
      · have hkk : ¬ ((n1 : Int) < 1 ∨ 10 < (n1 : Int)) := by omega
        have HNM := Lib.hid (fun w => ref_msgNames (n1 : Int) hkk w)
        have q1 : decide ((n1 : Int) < 1) = false := decide_eq_false hk1
        have q2 : decide ((n1 : Int) > 10) = false := decide_eq_false hk2
        clear hk1 hk2
        go_wp2_with fail
        refine (HNM.out _).mono ?_
        rintro e w5 ⟨rfl, hb5⟩
        have hat : mg.At (w2.alloc (.cells #[.int .i64 (n1 : Int), .int .i64 (n4 : Int), .string { data := #[] }, .string { data := #[] }, .int .i64 0, .int .i64 0, .int .i64 0, .int .i64 0, .slice none 0 0] 24)) w2.heap.size { mg.zeroR with kind := (n1 : Int), mark := (n4 : Int) } none 0 := mg.At.new w2 { mg.zeroR with kind := (n1 : Int), mark := (n4 : Int) } none 0
        have hI5 : w2.heap.size < w5.heap.size := by have := hb5.size; simp at this; omega
        have hbb : Below w2.heap.size w2 w5 := (balloc (bself w2) _).trans (hb5.mono (by simp))
        have HA0 : Hid (mg.AdR w (w.heap.size + 1) w2.heap.size w5.heap.size ((mg.parts (n1 : Int)).map mg.letter) 0 st2 A2 c2 { mg.zeroR with kind := (n1 : Int), mark := (n4 : Int) } none 0 (w5.iter (strOf ((mg.parts (n1 : Int)).map mg.letter)) 0)) := Lib.hid (by
          have e : ∀ k, k < w2.heap.size → (w5.iter (strOf ((mg.parts (n1 : Int)).map mg.letter)) 0).heap[k]? = w2.heap[k]? := fun k hk => ((balloc (bself w5) _).block k (by omega)).trans (hbb.block k hk)
          exact ⟨HR2.out.block (e _ hzz) (fun k hk => e k (by omega)), (hat.next hb5).next (balloc (bself w5) _), ⟨Nat.le_refl _, Nat.zero_le _, .inl rfl⟩, HS2.out.block (e _ (by omega)), World.iter_heap _ _ _, balloc (bnext HB2.out hbb) _, by omega, hzz, hI5⟩)
        clear hat hbb hb5 HR2 HS2 HB2 HNM
        obtain ⟨P, HP⟩ : ∃ P, Hid (P = mg.parts (n1 : Int)) := ⟨_, Lib.hid rfl⟩
        rw [← HP.out] at HA0 ⊢
        have HEB : Hid (mg.refAsked b = if (mg.rtake P st2 { mg.zeroR with kind := (n1 : Int), mark := (n4 : Int) }).1.short then .error 5 else if (mg.rtake P st2 { mg.zeroR with kind := (n1 : Int), mark := (n4 : Int) }).1.b = [] ∧ mg.refFault (mg.rtake P st2 { mg.zeroR with kind := (n1 : Int), mark := (n4 : Int) }).2 = 0 then .ok (mg.rtake P st2 { mg.zeroR with kind := (n1 : Int), mark := (n4 : Int) }).2 else .error 4) := Lib.hid (by
          rw [HEA.out, HP.out]; unfold mg.refAsked2; rw [if_neg (by rw [HSH.out]; decide), if_neg hkk])
        have HPM : Hid (∀ s, s ∈ P → s ≠ .kind ∧ s ≠ .mark) := Lib.hid (fun s hs => mg.parts_num (by rw [← HP.out]; exact hs))
        clear HEA HSH HE1 HE4
        generalize ({ mg.zeroR with kind := (n1 : Int), mark := (n4 : Int) } : Request) = r1 at *
        generalize hI : w5.heap.size = I at *
        generalize hBB : w2.heap.size = B at *
        go_wp2_with fail
        generalize w5.iter (strOf (P.map mg.letter)) 0 = w5' at *
        clear hI hBB
        go_loopw [7] (fun _ wr => ∃ (k : Nat) (st : mg.Rd) (A : Option Addr) (c : Nat) (r : Request) (Aq : Option Addr) (cd : Nat), k ≤ P.length ∧ Hid (mg.rtake (P.drop k) st r = mg.rtake P st2 r1) ∧ Hid (mg.AdR w (w.heap.size + 1) B I (P.map mg.letter) k st A c r Aq cd wr)) (fun _ wr => P.length - wr.iterPos I)
        case atStart => exact ⟨0, st2, A2, c2, r1, none, 0, Nat.zero_le _, Lib.hid rfl, HA0⟩
        case round =>
          obtain ⟨k, st, A, c, r, Aq, cd, hk, HT, HR⟩ := hrel
          rename World => wr
          clear HA0
          by_cases hlt : k < P.length
          · have hnx := mg.run_next HR.out.it hlt
            have hpos := mg.iterPos_of HR.out.it
            have HRN := Lib.hid (HR.out.iter (k + 1))
            have HST := Lib.hid (mg.rtake_step hlt st r)
            clear HR
            generalize wr.iterAt I (strOf (P.map mg.letter)) (k + 1) = wi at *
            have HR := HRN
            clear HRN
            have hmem : P.getD k .kind ∈ P := by
              rw [List.getD_eq_getElem?_getD, List.getElem?_eq_getElem hlt]
              exact List.getElem_mem hlt
            have hno := HPM.out _ hmem
            clear hmem
            generalize P.getD k .kind = s at *
            match s with
            | .kind => exact absurd rfl hno.1
            | .mark => exact absurd rfl hno.2
            | .path =>
              obtain ⟨st', x, HX⟩ : ∃ st' x, Hid (mg.rtext st = (st', x)) := ⟨_, _, Lib.hid rfl⟩
              have HC := Lib.hid (ref_text (w.heap.size + 1) st A c (· < w.heap.size) wi HR.out.rd (fun k hk => by omega))
              rw [HX.out] at HC
              have HT2 : Hid (mg.rtake (P.drop (k + 1)) st' (mg.setR r .path 0 x) = mg.rtake P st2 r1) := Lib.hid (by
                rw [← HT.out, HST.out]
                show _ = mg.rtake (P.drop (k + 1)) (mg.rtext st).1 (mg.setR r .path 0 (mg.rtext st).2)
                rw [HX.out])
              go_wp2_with (first
                | (go_at_call 29; refine HC.out.mono ?_; rintro e w6 ⟨A6, c6, rfl, h6, hg6⟩; have H6 := Lib.hid (HR.out.reads h6 hg6); have y := H6.out.at_.cell 2; have yf := H6.out.at_.free 2; simp only [mg.vals, List.getElem?_cons_zero, List.getElem?_cons_succ] at y; clear h6 hg6)
                | fail)
              have H7 := Lib.hid (H6.out.store (o := 2) (r' := mg.setR r .path 0 x) (A' := Aq) (c' := cd) (v := .string (strOf x)) (by omega) rfl H6.out.data)
              go_roundw
              case rel => exact ⟨k + 1, st', A6, c6, mg.setR r .path 0 x, Aq, cd, hlt, HT2, H7⟩
              case measure => rw [mg.iterPos_of H7.out.it, hpos]; omega
            | .to =>
              obtain ⟨st', x, HX⟩ : ∃ st' x, Hid (mg.rtext st = (st', x)) := ⟨_, _, Lib.hid rfl⟩
              have HC := Lib.hid (ref_text (w.heap.size + 1) st A c (· < w.heap.size) wi HR.out.rd (fun k hk => by omega))
              rw [HX.out] at HC
              have HT2 : Hid (mg.rtake (P.drop (k + 1)) st' (mg.setR r .to 0 x) = mg.rtake P st2 r1) := Lib.hid (by
                rw [← HT.out, HST.out]
                show _ = mg.rtake (P.drop (k + 1)) (mg.rtext st).1 (mg.setR r .to 0 (mg.rtext st).2)
                rw [HX.out])
              go_wp2_with (first
                | (go_at_call 29; refine HC.out.mono ?_; rintro e w6 ⟨A6, c6, rfl, h6, hg6⟩; have H6 := Lib.hid (HR.out.reads h6 hg6); have y := H6.out.at_.cell 3; have yf := H6.out.at_.free 3; simp only [mg.vals, List.getElem?_cons_zero, List.getElem?_cons_succ] at y; clear h6 hg6)
                | fail)
              have H7 := Lib.hid (H6.out.store (o := 3) (r' := mg.setR r .to 0 x) (A' := Aq) (c' := cd) (v := .string (strOf x)) (by omega) rfl H6.out.data)
              go_roundw
              case rel => exact ⟨k + 1, st', A6, c6, mg.setR r .to 0 x, Aq, cd, hlt, HT2, H7⟩
              case measure => rw [mg.iterPos_of H7.out.it, hpos]; omega
            | .how =>
              obtain ⟨st', x, HX⟩ : ∃ st' x, Hid (mg.rnum 1 st = (st', x)) := ⟨_, _, Lib.hid rfl⟩
              have HC := Lib.hid (ref_num1 (w.heap.size + 1) st A c (· < w.heap.size) wi HR.out.rd (fun k hk => by omega))
              rw [HX.out] at HC
              have HT2 : Hid (mg.rtake (P.drop (k + 1)) st' (mg.setR r .how x []) = mg.rtake P st2 r1) := Lib.hid (by
                rw [← HT.out, HST.out]
                show _ = mg.rtake (P.drop (k + 1)) (mg.rnum 1 st).1 (mg.setR r .how (mg.rnum 1 st).2 [])
                rw [HX.out])
              go_wp2_with (first
                | (go_at_call 28; refine HC.out.mono ?_; rintro e w6 ⟨A6, c6, rfl, h6, hg6⟩; have H6 := Lib.hid (HR.out.reads h6 hg6); have y := H6.out.at_.cell 4; have yf := H6.out.at_.free 4; simp only [mg.vals, List.getElem?_cons_zero, List.getElem?_cons_succ] at y; clear h6 hg6)
                | fail)
              have H7 := Lib.hid (H6.out.store (o := 4) (r' := mg.setR r .how x []) (A' := Aq) (c' := cd) (v := .int .i64 x) (by omega) rfl H6.out.data)
              go_roundw
              case rel => exact ⟨k + 1, st', A6, c6, mg.setR r .how x [], Aq, cd, hlt, HT2, H7⟩
              case measure => rw [mg.iterPos_of H7.out.it, hpos]; omega
            | .handle =>
              obtain ⟨st', x, HX⟩ : ∃ st' x, Hid (mg.rnum 4 st = (st', x)) := ⟨_, _, Lib.hid rfl⟩
              have HC := Lib.hid (ref_num4 (w.heap.size + 1) st A c (· < w.heap.size) wi HR.out.rd (fun k hk => by omega))
              rw [HX.out] at HC
              have HT2 : Hid (mg.rtake (P.drop (k + 1)) st' (mg.setR r .handle x []) = mg.rtake P st2 r1) := Lib.hid (by
                rw [← HT.out, HST.out]
                show _ = mg.rtake (P.drop (k + 1)) (mg.rnum 4 st).1 (mg.setR r .handle (mg.rnum 4 st).2 [])
                rw [HX.out])
              go_wp2_with (first
                | (go_at_call 28; refine HC.out.mono ?_; rintro e w6 ⟨A6, c6, rfl, h6, hg6⟩; have H6 := Lib.hid (HR.out.reads h6 hg6); have y := H6.out.at_.cell 5; have yf := H6.out.at_.free 5; simp only [mg.vals, List.getElem?_cons_zero, List.getElem?_cons_succ] at y; clear h6 hg6)
                | fail)
              have H7 := Lib.hid (H6.out.store (o := 5) (r' := mg.setR r .handle x []) (A' := Aq) (c' := cd) (v := .int .i64 x) (by omega) rfl H6.out.data)
              go_roundw
              case rel => exact ⟨k + 1, st', A6, c6, mg.setR r .handle x [], Aq, cd, hlt, HT2, H7⟩
              case measure => rw [mg.iterPos_of H7.out.it, hpos]; omega
            | .at_ =>
              obtain ⟨st', x, HX⟩ : ∃ st' x, Hid (mg.rnum 4 st = (st', x)) := ⟨_, _, Lib.hid rfl⟩
              have HC := Lib.hid (ref_num4 (w.heap.size + 1) st A c (· < w.heap.size) wi HR.out.rd (fun k hk => by omega))
              rw [HX.out] at HC
              have HT2 : Hid (mg.rtake (P.drop (k + 1)) st' (mg.setR r .at_ x []) = mg.rtake P st2 r1) := Lib.hid (by
                rw [← HT.out, HST.out]
                show _ = mg.rtake (P.drop (k + 1)) (mg.rnum 4 st).1 (mg.setR r .at_ (mg.rnum 4 st).2 [])
                rw [HX.out])
              go_wp2_with (first
                | (go_at_call 28; refine HC.out.mono ?_; rintro e w6 ⟨A6, c6, rfl, h6, hg6⟩; have H6 := Lib.hid (HR.out.reads h6 hg6); have y := H6.out.at_.cell 6; have yf := H6.out.at_.free 6; simp only [mg.vals, List.getElem?_cons_zero, List.getElem?_cons_succ] at y; clear h6 hg6)
                | fail)
              have H7 := Lib.hid (H6.out.store (o := 6) (r' := mg.setR r .at_ x []) (A' := Aq) (c' := cd) (v := .int .i64 x) (by omega) rfl H6.out.data)
              go_roundw
              case rel => exact ⟨k + 1, st', A6, c6, mg.setR r .at_ x [], Aq, cd, hlt, HT2, H7⟩
              case measure => rw [mg.iterPos_of H7.out.it, hpos]; omega
            | .count =>
              obtain ⟨st', x, HX⟩ : ∃ st' x, Hid (mg.rnum 2 st = (st', x)) := ⟨_, _, Lib.hid rfl⟩
              have HC := Lib.hid (ref_num2 (w.heap.size + 1) st A c (· < w.heap.size) wi HR.out.rd (fun k hk => by omega))
              rw [HX.out] at HC
              have HT2 : Hid (mg.rtake (P.drop (k + 1)) st' (mg.setR r .count x []) = mg.rtake P st2 r1) := Lib.hid (by
                rw [← HT.out, HST.out]
                show _ = mg.rtake (P.drop (k + 1)) (mg.rnum 2 st).1 (mg.setR r .count (mg.rnum 2 st).2 [])
                rw [HX.out])
              go_wp2_with (first
                | (go_at_call 28; refine HC.out.mono ?_; rintro e w6 ⟨A6, c6, rfl, h6, hg6⟩; have H6 := Lib.hid (HR.out.reads h6 hg6); have y := H6.out.at_.cell 7; have yf := H6.out.at_.free 7; simp only [mg.vals, List.getElem?_cons_zero, List.getElem?_cons_succ] at y; clear h6 hg6)
                | fail)
              have H7 := Lib.hid (H6.out.store (o := 7) (r' := mg.setR r .count x []) (A' := Aq) (c' := cd) (v := .int .i64 x) (by omega) rfl H6.out.data)
              go_roundw
              case rel => exact ⟨k + 1, st', A6, c6, mg.setR r .count x [], Aq, cd, hlt, HT2, H7⟩
              case measure => rw [mg.iterPos_of H7.out.it, hpos]; omega
            | .data =>
              obtain ⟨st', x, HX⟩ : ∃ st' x, Hid (mg.rtext st = (st', x)) := ⟨_, _, Lib.hid rfl⟩
              have hxl : x.length ≤ 1000000 := by have := mg.rtext_len st; rw [HX.out] at this; exact this
              have HC := Lib.hid (ref_text (w.heap.size + 1) st A c (· < w.heap.size) wi HR.out.rd (fun k hk => by omega))
              rw [HX.out] at HC
              have HT2 : Hid (mg.rtake (P.drop (k + 1)) st' (mg.setR r .data 0 x) = mg.rtake P st2 r1) := Lib.hid (by
                rw [← HT.out, HST.out]
                show _ = mg.rtake (P.drop (k + 1)) (mg.rtext st).1 (mg.setR r .data 0 (mg.rtext st).2)
                rw [HX.out])
              go_wp2_with (first
                | (go_at_call 29; refine HC.out.mono ?_; rintro e w6 ⟨A6, c6, rfl, h6, hg6⟩; obtain ⟨c7, w7, hcv, hb7, hd7⟩ := conv_rep x w6 hxl; have h66 := HR.out.reads h6 hg6; have hI6 := h66.lt; have H6 := Lib.hid (h66.next hb7); have HD7 : Hid (SlRep Rep.u8 w7 (fun k => I < k ∧ k < w7.heap.size) x (some ⟨w6.heap.size, 0, none⟩) c7) := Lib.hid (hd7.keep fun k hk => ⟨⟨by omega, hk.2⟩, rfl⟩); have y := H6.out.at_.cell 8; have yf := H6.out.at_.free 8; simp only [mg.vals, List.getElem?_cons_zero, List.getElem?_cons_succ] at y; clear h6 hg6 hb7 hd7 h66 hI6)
                | fail)
              have H7 := Lib.hid (H6.out.store (o := 8) (r' := mg.setR r .data 0 x) (A' := some ⟨w6.heap.size, 0, none⟩) (c' := c7) (v := .slice (some ⟨w6.heap.size, 0, none⟩) x.length c7) (by omega) rfl HD7.out)
              go_roundw
              case rel => exact ⟨k + 1, st', A6, c6, mg.setR r .data 0 x, _, _, hlt, HT2, H7⟩
              case measure => rw [mg.iterPos_of H7.out.it, hpos]; omega
          · have hnx := mg.run_next_end HR.out.it hlt
            have HEC : Hid (mg.refAsked b = if st.short then .error 5 else if st.b = [] ∧ mg.refFault r = 0 then .ok r else .error 4) := Lib.hid (by
              rw [HEB.out, ← HT.out, List.drop_eq_nil_of_le (by omega)]
              rfl)
            have u1 := HR.out.rd.c1
            have u0 := HR.out.rd.c0
            have uf := HR.out.rd.fz
            have hI7 := HR.out.lt
            have z0 : wr.cell? ⟨w.heap.size, 0, none⟩ = some (.int .i64 0) := HR.out.res.cell 0
            have z1 : wr.cell? ⟨w.heap.size, 1, none⟩ = some (.int .i64 0) := HR.out.res.cell 1
            have z2 : wr.cell? ⟨w.heap.size, 2, none⟩ = some (.string { data := #[] }) := HR.out.res.cell 2
            have z3 : wr.cell? ⟨w.heap.size, 3, none⟩ = some (.string { data := #[] }) := HR.out.res.cell 3
            have z4 : wr.cell? ⟨w.heap.size, 4, none⟩ = some (.int .i64 0) := HR.out.res.cell 4
            have z5 : wr.cell? ⟨w.heap.size, 5, none⟩ = some (.int .i64 0) := HR.out.res.cell 5
            have z6 : wr.cell? ⟨w.heap.size, 6, none⟩ = some (.int .i64 0) := HR.out.res.cell 6
            have z7 : wr.cell? ⟨w.heap.size, 7, none⟩ = some (.int .i64 0) := HR.out.res.cell 7
            have z8 : wr.cell? ⟨w.heap.size, 8, none⟩ = some (.slice none 0 0) := HR.out.res.cell 8
            have zf := HR.out.res.free
            have y0 := HR.out.at_.cell 0
            have y1 := HR.out.at_.cell 1
            have y2 := HR.out.at_.cell 2
            have y3 := HR.out.at_.cell 3
            have y4 := HR.out.at_.cell 4
            have y5 := HR.out.at_.cell 5
            have y6 := HR.out.at_.cell 6
            have y7 := HR.out.at_.cell 7
            have y8 := HR.out.at_.cell 8
            simp only [mg.vals, List.getElem?_cons_zero, List.getElem?_cons_succ] at y0 y1 y2 y3 y4 y5 y6 y7 y8
            clear HEB HT HP HPM
            obtain ⟨bk, sh⟩ := st
            cases sh with
            | true =>
              have HE : Hid (mg.refAsked b = .error 5) := Lib.hid (by rw [HEC.out]; rfl)
              go_wp2_with fail
              exact bodyPost_ret (v := .tuple #[.agg #[.int .i64 0, .int .i64 0, .string { data := #[] }, .string { data := #[] }, .int .i64 0, .int .i64 0, .int .i64 0, .int .i64 0, .slice none 0 0], .int .i64 5]) (by first | (simp [results, Try.results11, go_sem]; done) | (simp [results, Try.results11, go_sem, *]; done)) rfl (AskedRes.no HE.out (by repeat (first | (with_reducible exact HR.out.hb) | (with_reducible refine bset ?_ (Nat.le_refl _) _) | (with_reducible refine balloc ?_ _))))
            | false =>
              by_cases hbk : bk = []
              · subst hbk
                by_cases hf : mg.refFault r = 0
                · have HE : Hid (mg.refAsked b = .ok r) := Lib.hid (by rw [HEC.out]; show (if ([] : List UInt8) = [] ∧ mg.refFault r = 0 then (.ok r : Except Int Request) else .error 4) = _; rw [if_pos ⟨rfl, hf⟩])
                  have HF := Lib.hid hf
                  clear hf HEC
                  go_wp2_with (first
                    | (go_at_call 23; refine (ref_askFault r Aq cd _).mono ?_; rintro e w8 ⟨rfl, hb8⟩; rw [HF.out]; have H8 := Lib.hid (HR.out.next hb8); clear z0 z1 z2 z3 z4 z5 z6 z7 z8 zf y0 y1 y2 y3 y4 y5 y6 y7 y8 u0 u1 uf; have z0 : w8.cell? ⟨w.heap.size, 0, none⟩ = some (.int .i64 0) := H8.out.res.cell 0; have z1 : w8.cell? ⟨w.heap.size, 1, none⟩ = some (.int .i64 0) := H8.out.res.cell 1; have z2 : w8.cell? ⟨w.heap.size, 2, none⟩ = some (.string { data := #[] }) := H8.out.res.cell 2; have z3 : w8.cell? ⟨w.heap.size, 3, none⟩ = some (.string { data := #[] }) := H8.out.res.cell 3; have z4 : w8.cell? ⟨w.heap.size, 4, none⟩ = some (.int .i64 0) := H8.out.res.cell 4; have z5 : w8.cell? ⟨w.heap.size, 5, none⟩ = some (.int .i64 0) := H8.out.res.cell 5; have z6 : w8.cell? ⟨w.heap.size, 6, none⟩ = some (.int .i64 0) := H8.out.res.cell 6; have z7 : w8.cell? ⟨w.heap.size, 7, none⟩ = some (.int .i64 0) := H8.out.res.cell 7; have z8 : w8.cell? ⟨w.heap.size, 8, none⟩ = some (.slice none 0 0) := H8.out.res.cell 8; have zf := H8.out.res.free; have y0 := H8.out.at_.cell 0; have y1 := H8.out.at_.cell 1; have y2 := H8.out.at_.cell 2; have y3 := H8.out.at_.cell 3; have y4 := H8.out.at_.cell 4; have y5 := H8.out.at_.cell 5; have y6 := H8.out.at_.cell 6; have y7 := H8.out.at_.cell 7; have y8 := H8.out.at_.cell 8; simp only [mg.vals, List.getElem?_cons_zero, List.getElem?_cons_succ] at y0 y1 y2 y3 y4 y5 y6 y7 y8)
                    | fail)
                  refine bodyPost_ret (v := .tuple #[.agg (mg.vals r Aq cd).toArray, .int .i64 0]) (by simp only [mg.vals]; first | (simp [results, Try.results11, go_sem]; done) | (simp [results, Try.results11, go_sem, *]; done)) rfl ?_
                  have hB6 : Below w.heap.size w (((((((((w8.setCell ⟨w.heap.size, 0, none⟩ (.int .i64 r.kind)).setCell ⟨w.heap.size, 1, none⟩ (.int .i64 r.mark)).setCell ⟨w.heap.size, 2, none⟩ (.string r.path)).setCell ⟨w.heap.size, 3, none⟩ (.string r.to)).setCell ⟨w.heap.size, 4, none⟩ (.int .i64 r.how)).setCell ⟨w.heap.size, 5, none⟩ (.int .i64 r.handle)).setCell ⟨w.heap.size, 6, none⟩ (.int .i64 r.at_)).setCell ⟨w.heap.size, 7, none⟩ (.int .i64 r.count)).setCell ⟨w.heap.size, 8, none⟩ (.slice Aq r.data.length cd)) := by
                    repeat (first | (with_reducible exact H8.out.hb) | (with_reducible refine bset ?_ (Nat.le_refl _) _))
                  have hI8 := H8.out.o3
                  exact mg.asked_yes HE.out (H8.out.data.keep fun k hk => ⟨⟨by omega, hk.2, by omega⟩, rfl⟩) (fun k hk => by (repeat rw [mg.heap_set (by omega)])) (by simp only [World.size_setCell]; exact Nat.le_refl _) hB6
                · have HE : Hid (mg.refAsked b = .error 4) := Lib.hid (by rw [HEC.out]; show (if ([] : List UInt8) = [] ∧ mg.refFault r = 0 then (.ok r : Except Int Request) else .error 4) = _; rw [if_neg (fun h => hf h.2)])
                  generalize hfv : mg.refFault r = f at *
                  have HF := Lib.hid hfv
                  have q3 : (f != 0) = true := bne_iff_ne.2 hf
                  clear hf hfv HEC
                  go_wp2_with (first
                    | (go_at_call 23; refine (ref_askFault r Aq cd _).mono ?_; rintro e w8 ⟨rfl, hb8⟩; rw [HF.out]; have H8 := Lib.hid (HR.out.next hb8); clear z0 z1 z2 z3 z4 z5 z6 z7 z8 zf y0 y1 y2 y3 y4 y5 y6 y7 y8 u0 u1 uf; have z0 : w8.cell? ⟨w.heap.size, 0, none⟩ = some (.int .i64 0) := H8.out.res.cell 0; have z1 : w8.cell? ⟨w.heap.size, 1, none⟩ = some (.int .i64 0) := H8.out.res.cell 1; have z2 : w8.cell? ⟨w.heap.size, 2, none⟩ = some (.string { data := #[] }) := H8.out.res.cell 2; have z3 : w8.cell? ⟨w.heap.size, 3, none⟩ = some (.string { data := #[] }) := H8.out.res.cell 3; have z4 : w8.cell? ⟨w.heap.size, 4, none⟩ = some (.int .i64 0) := H8.out.res.cell 4; have z5 : w8.cell? ⟨w.heap.size, 5, none⟩ = some (.int .i64 0) := H8.out.res.cell 5; have z6 : w8.cell? ⟨w.heap.size, 6, none⟩ = some (.int .i64 0) := H8.out.res.cell 6; have z7 : w8.cell? ⟨w.heap.size, 7, none⟩ = some (.int .i64 0) := H8.out.res.cell 7; have z8 : w8.cell? ⟨w.heap.size, 8, none⟩ = some (.slice none 0 0) := H8.out.res.cell 8; have zf := H8.out.res.free)
                    | fail)
                  skip
                  exact bodyPost_ret (v := .tuple #[.agg #[.int .i64 0, .int .i64 0, .string { data := #[] }, .string { data := #[] }, .int .i64 0, .int .i64 0, .int .i64 0, .int .i64 0, .slice none 0 0], .int .i64 4]) (by first | (simp [results, Try.results11, go_sem]; done) | (simp [results, Try.results11, go_sem, *]; done)) rfl (AskedRes.no HE.out (by repeat (first | (with_reducible exact H8.out.hb) | (with_reducible refine bset ?_ (Nat.le_refl _) _) | (with_reducible refine balloc ?_ _))))
              · have HE : Hid (mg.refAsked b = .error 4) := Lib.hid (by rw [HEC.out]; show (if bk = [] ∧ mg.refFault r = 0 then (.ok r : Except Int Request) else .error 4) = _; rw [if_neg (fun h => hbk h.1)])
                have hbp := List.length_pos_iff.2 hbk
                clear hbk HEC
                go_wp2_with fail
                exact bodyPost_ret (v := .tuple #[.agg #[.int .i64 0, .int .i64 0, .string { data := #[] }, .string { data := #[] }, .int .i64 0, .int .i64 0, .int .i64 0, .int .i64 0, .slice none 0 0], .int .i64 4]) (by first | (simp [results, Try.results11, go_sem]; done) | (simp [results, Try.results11, go_sem, *]; done)) rfl (AskedRes.no HE.out (by repeat (first | (with_reducible exact HR.out.hb) | (with_reducible refine bset ?_ (Nat.le_refl _) _) | (with_reducible refine balloc ?_ _))))
end Go.Proofs.Ytcpbgiikfabaaaa
