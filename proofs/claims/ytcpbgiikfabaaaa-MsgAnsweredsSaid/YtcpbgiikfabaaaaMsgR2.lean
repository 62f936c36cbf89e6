/- Package msg: what is refused of a reply. No condition. -/
import Derived.Test.YtcpbgiikfabaaaaMsgR1
namespace Go.Proofs.Ytcpbgiikfabaaaa
open Go.RowKit

/-- a reply, its code and its count, each in a block of its own -/
def mr.W0 (w : World) (r : Reply) (Ad : Option Addr) (cd : Nat) (An : Option Addr) (cn : Nat) (n : Int) : World := ((w.alloc (.cells #[.int .i64 r.mark, .int .i64 r.code, .int .i64 r.handle, .int .i64 r.kind, .int .i64 r.size, .slice Ad r.data.length cd, .slice An r.names.length cn] 36)).alloc (.cells #[.int .i64 r.code] 3)).alloc (.cells #[.int .i64 n] 3)
structure mr.Start (w : World) (r : Reply) (Ad : Option Addr) (cd : Nat) (An : Option Addr) (cn : Nat) (n : Int) (W : World) : Prop where
  at_ : mr.At W w.heap.size r Ad cd An cn
  c : mr.Box W (w.heap.size + 1) r.code
  d : mr.Box W (w.heap.size + 1 + 1) n
  hb : Below w.heap.size w W
  size : w.heap.size + 3 ≤ W.heap.size
theorem mr.Start.next {w : World} {r : Reply} {Ad : Option Addr} {cd : Nat} {An : Option Addr} {cn : Nat} {n : Int} {W W' : World} (h : mr.Start w r Ad cd An cn n W) (hb : Below W.heap.size W W') : mr.Start w r Ad cd An cn n W' :=
  ⟨h.at_.next hb, h.c.next hb, h.d.next hb, bnext h.hb hb, Nat.le_trans h.size hb.size⟩
theorem mr.Box.new (w : World) (n : Int) : mr.Box (w.alloc (.cells #[.int .i64 n] 3)) w.heap.size n := ⟨by rw [World.cell?_alloc_new]; rfl, by simp [go_sem]⟩
theorem mr.start (w : World) (r : Reply) (Ad : Option Addr) (cd : Nat) (An : Option Addr) (cn : Nat) (n : Int) : mr.Start w r Ad cd An cn n (mr.W0 w r Ad cd An cn n) := by
  have h1 := mr.At.new w r Ad cd An cn
  have h2 := mr.Box.new (w.alloc (.cells (mr.vals r Ad cd An cn).toArray 36)) r.code
  have h3 := mr.Box.new ((w.alloc (.cells (mr.vals r Ad cd An cn).toArray 36)).alloc (.cells #[.int .i64 r.code] 3)) n
  have e1 : (w.alloc (.cells (mr.vals r Ad cd An cn).toArray 36)).heap.size = w.heap.size + 1 := by simp
  have e2 : ((w.alloc (.cells (mr.vals r Ad cd An cn).toArray 36)).alloc (.cells #[.int .i64 r.code] 3)).heap.size = w.heap.size + 1 + 1 := by simp
  rw [e1] at h2
  rw [e2] at h3
  exact ⟨(h1.next (balloc (bself _) _)).next (balloc (bself _) _), h2.next (balloc (bself _) _), h3, balloc (balloc (balloc (bself w) _) _) _, by unfold mr.W0; simp⟩

set_option maxHeartbeats 4000000 in
theorem msg_fault (r : Reply) (Ad : Option Addr) (cd : Nat) (An : Option Addr) (cn : Nat) (w : World) (hr : mr.Ok r) (hl : SlRep Rep.str w (· < w.heap.size) r.names An cn) (hn : r.names.length ≤ 140737488351232) (hs : ∀ s ∈ r.names, s.size ≤ 140737488351232) :
    Calls Try.prog 30 #[.agg (mr.vals r Ad cd An cn).toArray] w fun e w' => e = .returned (.int .i64 (mr.fault r)) ∧ Below w.heap.size w w' := by
  have HIN : Hid (IntOk (min (r.names.length : Int) 40)) := Lib.hid (by unfold IntOk; omega)
  have HC := Lib.hid (fun w' (hb : Below w.heap.size w w') => msg_ContainsFunc r.names An cn w' (hl.next hb) hn hs)
  clear hl hs
  unfold mr.vals
  by_cases he : mr.allG (mr.fit r (min (r.names.length : Int) 40)) 0 mr.all7 = 0
  · have HE0 := Lib.hid he
    by_cases h40 : 40 < r.names.length
    · have HE : Hid (mr.fault r = 1) := Lib.hid (by unfold mr.fault; rw [if_neg (fun h => h he), if_pos h40])
      have q : decide ((r.names.length : Int) > 40) = true := decide_eq_true (by omega)
      clear he h40
      go_enter Try.func30, Try.ntmps30
      go_wp2_with fail
      have hst := mr.start w r Ad cd An cn (min (r.names.length : Int) 40)
      unfold mr.W0 at hst
      generalize ((w.alloc (.cells #[.int .i64 r.mark, .int .i64 r.code, .int .i64 r.handle, .int .i64 r.kind, .int .i64 r.size, .slice Ad r.data.length cd, .slice An r.names.length cn] 36)).alloc (.cells #[.int .i64 r.code] 3)).alloc (.cells #[.int .i64 (min (r.names.length : Int) 40)] 3) = W0 at *
      have HST := Lib.hid hst
      have hz0 := hst.size
      clear hst
      refine (msg_replied w.heap.size (w.heap.size + 1) (w.heap.size + 1 + 1) W0).mono ?_
      rintro e w1 ⟨A1, c1, rfl, ho1, hb1⟩
      have HS1 := Lib.hid (HST.out.next hb1)
      have HO1 := Lib.hid ho1
      have hz1 := hb1.size
      clear ho1 hb1 HST
      go_wp2_with fail
      refine (msg_all_replied w.heap.size (w.heap.size + 1) (w.heap.size + 1 + 1) r (min (r.names.length : Int) 40) Ad cd An cn A1 c1 _ w1 hr HIN.out HS1.out.at_ HS1.out.c HS1.out.d HO1.out).mono ?_
      rw [HE0.out]
      rintro e w2 ⟨rfl, hb2⟩
      have HS2 := Lib.hid (HS1.out.next hb2)
      have hz2 := hb2.size
      clear hb2 HS1 HO1
      have y0 := HS2.out.at_.cell 6
      simp only [mr.vals, List.getElem?_cons_zero, List.getElem?_cons_succ] at y0
      have hzz : w.heap.size < w2.heap.size := by omega
      go_wp2_with fail
      go_ret
      exact ⟨by rw [HE.out]; rfl, HS2.out.hb⟩
    · have q : decide ((r.names.length : Int) > 40) = false := decide_eq_false (by omega)
      cases ha : (pa.lists r.names).all pa.name with
      | true =>
        have HE : Hid (mr.fault r = 0) := Lib.hid (by unfold mr.fault; rw [if_neg (fun h => h he), if_neg h40]; exact if_pos ha)
        rw [ha] at HC
        clear he h40 ha
        go_enter Try.func30, Try.ntmps30
        go_wp2_with fail
        have hst := mr.start w r Ad cd An cn (min (r.names.length : Int) 40)
        unfold mr.W0 at hst
        generalize ((w.alloc (.cells #[.int .i64 r.mark, .int .i64 r.code, .int .i64 r.handle, .int .i64 r.kind, .int .i64 r.size, .slice Ad r.data.length cd, .slice An r.names.length cn] 36)).alloc (.cells #[.int .i64 r.code] 3)).alloc (.cells #[.int .i64 (min (r.names.length : Int) 40)] 3) = W0 at *
        have HST := Lib.hid hst
        have hz0 := hst.size
        clear hst
        refine (msg_replied w.heap.size (w.heap.size + 1) (w.heap.size + 1 + 1) W0).mono ?_
        rintro e w1 ⟨A1, c1, rfl, ho1, hb1⟩
        have HS1 := Lib.hid (HST.out.next hb1)
        have HO1 := Lib.hid ho1
        have hz1 := hb1.size
        clear ho1 hb1 HST
        go_wp2_with fail
        refine (msg_all_replied w.heap.size (w.heap.size + 1) (w.heap.size + 1 + 1) r (min (r.names.length : Int) 40) Ad cd An cn A1 c1 _ w1 hr HIN.out HS1.out.at_ HS1.out.c HS1.out.d HO1.out).mono ?_
        rw [HE0.out]
        rintro e w2 ⟨rfl, hb2⟩
        have HS2 := Lib.hid (HS1.out.next hb2)
        have hz2 := hb2.size
        clear hb2 HS1 HO1
        have y0 := HS2.out.at_.cell 6
        simp only [mr.vals, List.getElem?_cons_zero, List.getElem?_cons_succ] at y0
        have hzz : w.heap.size < w2.heap.size := by omega
        go_wp2_with fail
        refine (HC.out w2 HS2.out.hb).mono ?_
        rintro e w3 ⟨rfl, hb3⟩
        have HB3 := Lib.hid (bnext HS2.out.hb hb3)
        clear hb3
        go_wp2_with fail
        go_ret
        exact ⟨by rw [HE.out]; rfl, HB3.out⟩
      | false =>
        have HE : Hid (mr.fault r = 4) := Lib.hid (by unfold mr.fault; rw [if_neg (fun h => h he), if_neg h40]; exact if_neg (by show ¬ (pa.lists r.names).all pa.name = true; rw [ha]; decide))
        rw [ha] at HC
        clear he h40 ha
        go_enter Try.func30, Try.ntmps30
        go_wp2_with fail
        have hst := mr.start w r Ad cd An cn (min (r.names.length : Int) 40)
        unfold mr.W0 at hst
        generalize ((w.alloc (.cells #[.int .i64 r.mark, .int .i64 r.code, .int .i64 r.handle, .int .i64 r.kind, .int .i64 r.size, .slice Ad r.data.length cd, .slice An r.names.length cn] 36)).alloc (.cells #[.int .i64 r.code] 3)).alloc (.cells #[.int .i64 (min (r.names.length : Int) 40)] 3) = W0 at *
        have HST := Lib.hid hst
        have hz0 := hst.size
        clear hst
        refine (msg_replied w.heap.size (w.heap.size + 1) (w.heap.size + 1 + 1) W0).mono ?_
        rintro e w1 ⟨A1, c1, rfl, ho1, hb1⟩
        have HS1 := Lib.hid (HST.out.next hb1)
        have HO1 := Lib.hid ho1
        have hz1 := hb1.size
        clear ho1 hb1 HST
        go_wp2_with fail
        refine (msg_all_replied w.heap.size (w.heap.size + 1) (w.heap.size + 1 + 1) r (min (r.names.length : Int) 40) Ad cd An cn A1 c1 _ w1 hr HIN.out HS1.out.at_ HS1.out.c HS1.out.d HO1.out).mono ?_
        rw [HE0.out]
        rintro e w2 ⟨rfl, hb2⟩
        have HS2 := Lib.hid (HS1.out.next hb2)
        have hz2 := hb2.size
        clear hb2 HS1 HO1
        have y0 := HS2.out.at_.cell 6
        simp only [mr.vals, List.getElem?_cons_zero, List.getElem?_cons_succ] at y0
        have hzz : w.heap.size < w2.heap.size := by omega
        go_wp2_with fail
        refine (HC.out w2 HS2.out.hb).mono ?_
        rintro e w3 ⟨rfl, hb3⟩
        have HB3 := Lib.hid (bnext HS2.out.hb hb3)
        clear hb3
        go_wp2_with fail
        go_ret
        exact ⟨by rw [HE.out]; rfl, HB3.out⟩
  · have HE : Hid (mr.fault r = mr.allG (mr.fit r (min (r.names.length : Int) 40)) 0 mr.all7) := Lib.hid (by unfold mr.fault; rw [if_pos he])
    obtain ⟨f, HE0⟩ : ∃ f, Hid (mr.allG (mr.fit r (min (r.names.length : Int) 40)) 0 mr.all7 = f) := ⟨_, Lib.hid rfl⟩
    have q1 : (f != 0) = true := bne_iff_ne.2 (by rw [← HE0.out]; exact he)
    clear he
    go_enter Try.func30, Try.ntmps30
    go_wp2_with fail
    have hst := mr.start w r Ad cd An cn (min (r.names.length : Int) 40)
    unfold mr.W0 at hst
    generalize ((w.alloc (.cells #[.int .i64 r.mark, .int .i64 r.code, .int .i64 r.handle, .int .i64 r.kind, .int .i64 r.size, .slice Ad r.data.length cd, .slice An r.names.length cn] 36)).alloc (.cells #[.int .i64 r.code] 3)).alloc (.cells #[.int .i64 (min (r.names.length : Int) 40)] 3) = W0 at *
    have HST := Lib.hid hst
    have hz0 := hst.size
    clear hst
    refine (msg_replied w.heap.size (w.heap.size + 1) (w.heap.size + 1 + 1) W0).mono ?_
    rintro e w1 ⟨A1, c1, rfl, ho1, hb1⟩
    have HS1 := Lib.hid (HST.out.next hb1)
    have HO1 := Lib.hid ho1
    have hz1 := hb1.size
    clear ho1 hb1 HST
    go_wp2_with fail
    refine (msg_all_replied w.heap.size (w.heap.size + 1) (w.heap.size + 1 + 1) r (min (r.names.length : Int) 40) Ad cd An cn A1 c1 _ w1 hr HIN.out HS1.out.at_ HS1.out.c HS1.out.d HO1.out).mono ?_
    rw [HE0.out]
    rintro e w2 ⟨rfl, hb2⟩
    have HS2 := Lib.hid (HS1.out.next hb2)
    have hz2 := hb2.size
    clear hb2 HS1 HO1
    have y0 := HS2.out.at_.cell 6
    simp only [mr.vals, List.getElem?_cons_zero, List.getElem?_cons_succ] at y0
    have hzz : w.heap.size < w2.heap.size := by omega
    go_wp2_with fail
    go_ret
    exact ⟨by rw [HE.out, HE0.out]; rfl, HS2.out.hb⟩
end Go.Proofs.Ytcpbgiikfabaaaa
