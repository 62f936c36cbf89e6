/- Package msg: Answered. No condition. -/
import Derived.Test.YtcpbgiikfabaaaaMsgR7
import Derived.Deep.DeepCutAuto
namespace Go.Proofs.Ytcpbgiikfabaaaa
open Go.RowKit

def exRp : Except Int Reply → Reply
  | .ok r => r
  | .error _ => mr.zeroR
/-- a reply, or a fault -/
def AnsweredRes (x : Except Int Reply) (w : World) (e : Ending) (w' : World) : Prop :=
  ∃ Ad cd An cn, e = .returned (.tuple #[.agg (mr.vals (exRp x) Ad cd An cn).toArray, .int .i64 (exC x)]) ∧ SlRep Rep.u8 w' (fun k => w.heap.size ≤ k ∧ k < w'.heap.size) (exRp x).data Ad cd ∧ SlRep Rep.str w' (fun k => w.heap.size ≤ k ∧ k < w'.heap.size) (exRp x).names An cn ∧ Below w.heap.size w w'
theorem AnsweredRes.no {x : Except Int Reply} {c : Int} (h : x = .error c) {w w' : World} (hb : Below w.heap.size w w') : AnsweredRes x w (.returned (.tuple #[.agg #[.int .i64 0, .int .i64 0, .int .i64 0, .int .i64 0, .int .i64 0, .slice none 0 0, .slice none 0 0], .int .i64 c])) w' := by
  subst h
  exact ⟨none, 0, none, 0, rfl, ⟨Nat.le_refl _, Nat.zero_le _, .inl rfl⟩, ⟨Nat.le_refl _, Nat.zero_le _, .inl rfl⟩, hb⟩

/-- all numbers read are such -/
def mr.StOk (x : mr.St) : Prop := mr.Ok x.r ∧ IntOk x.code ∧ (0 ≤ x.count ∧ x.count ≤ 255)
theorem mr.StOk.set {x : mr.St} (h : mr.StOk x) (s : mr.Sel) (b : List UInt8) (d : List UInt8) : mr.StOk (mr.setS x s (feed.be (b.take s.wide)) d) := by
  obtain ⟨⟨h1, h2, h3, h4, h5⟩, h6, h7⟩ := h
  have hb := feed.be_lt b s.wide
  have h2' : 256 ^ s.wide ≤ 256 ^ 4 := Nat.pow_le_pow_right (by omega) (by cases s <;> decide)
  have hi : IntOk ((feed.be (b.take s.wide) : Nat) : Int) := by unfold IntOk; omega
  cases s <;> first
    | exact ⟨⟨by first | exact hi | assumption, by assumption, by first | exact hi | assumption, by first | exact hi | assumption, by first | exact hi | assumption⟩, by first | exact hi | assumption, h7⟩
    | exact ⟨⟨h1, h2, h3, h4, h5⟩, h6, ⟨by show (0 : Int) ≤ ((feed.be (b.take 1) : Nat) : Int); omega, by show ((feed.be (b.take 1) : Nat) : Int) ≤ 255; have hb' : feed.be (b.take 1) < 256 ^ 1 := hb; omega⟩⟩
theorem mr.getS_ok {s : mr.Sel} {b b' : List UInt8} {x x' : mr.St} (hx : mr.StOk x) (h : mr.getS s b x = some (b', x')) : mr.StOk x' := by
  unfold mr.getS at h
  split at h
  · split at h
    · cases h
    · cases h; exact hx.set s b []
  · rename_i hs
    have e : s = .data := by cases s <;> first | rfl | exact absurd rfl hs
    subst e
    cases hg : mr.getT b with
    | none => rw [hg] at h; cases h
    | some y => rw [hg] at h; cases h; exact hx
theorem mr.takeS_ok : ∀ {l : List mr.Sel} {b b' : List UInt8} {x x' : mr.St}, mr.StOk x → mr.takeS l b x = some (b', x') → mr.StOk x' ∧ b'.length ≤ b.length
  | [], _, _, _, _, hx, h => by cases h; exact ⟨hx, Nat.le_refl _⟩
  | s :: t, b, b', x, x', hx, h => by
    unfold mr.takeS at h
    cases hg : mr.getS s b x with
    | none => rw [hg] at h; cases h
    | some y =>
      rw [hg] at h
      have h1 := mr.takeS_ok (mr.getS_ok hx hg) h
      have h2 := mr.getS_len hg
      exact ⟨h1.1, by omega⟩
theorem mr.zero_ok : mr.StOk mr.zeroS := by unfold mr.StOk mr.Ok IntOk mr.zeroS mr.zeroR; simp
theorem mr.takeS_names : ∀ {l : List mr.Sel} {b b' : List UInt8} {x x' : mr.St}, mr.takeS l b x = some (b', x') → x'.r.names = x.r.names ∧ x'.r.code = x.r.code
  | [], _, _, _, _, h => by cases h; exact ⟨rfl, rfl⟩
  | s :: t, b, b', x, x', h => by
    unfold mr.takeS at h
    cases hg : mr.getS s b x with
    | none => rw [hg] at h; cases h
    | some y =>
      rw [hg] at h
      obtain ⟨y1, y2⟩ := y
      have h1 := mr.takeS_names h
      have h2 : y2.r.names = x.r.names ∧ y2.r.code = x.r.code := by
        unfold mr.getS at hg
        split at hg
        · split at hg
          · cases hg
          · cases hg; cases s <;> exact ⟨rfl, rfl⟩
        · cases hg2 : mr.getT b with
          | none => rw [hg2] at hg; cases hg
          | some z => rw [hg2] at hg; cases hg; cases s <;> exact ⟨rfl, rfl⟩
      exact ⟨h1.1.trans h2.1, h1.2.trans h2.2⟩

/-- names are read: i of them are there -/
structure mr.Nm (w : World) (B nb : Nat) (r1 : Reply) (cnt : Int) (i : Nat) (bk : List UInt8) (l : List ByteArray) (An : Option Addr) (cn : Nat) (Ab : Option Addr) (cb : Nat) (Ad : Option Addr) (cd : Nat) (wr : World) : Prop where
  rd : SlRep Rep.u8 wr (· < w.heap.size) bk Ab cb
  at_ : mr.At wr B { r1 with names := l } Ad cd An cn
  d : mr.Box wr (B + 2) cnt
  own : Own wr nb 9 1 An i cn (l.map Value.string)
  len : l.length = i
  data : SlRep Rep.u8 wr (fun k => B + 3 ≤ k ∧ k < nb) r1.data Ad cd
  res : mr.At wr w.heap.size mr.zeroR none 0 none 0
  hb : Below w.heap.size w wr
  o1 : w.heap.size < B
  o2 : B + 3 ≤ nb
  o3 : nb ≤ wr.heap.size
section
variable {w : World} {B nb : Nat} {r1 : Reply} {cnt : Int} {i : Nat} {bk : List UInt8} {l : List ByteArray} {An : Option Addr} {cn : Nat} {Ab : Option Addr} {cb : Nat} {Ad : Option Addr} {cd : Nat} {wr : World}
theorem mr.Nm.next (h : mr.Nm w B nb r1 cnt i bk l An cn Ab cb Ad cd wr) {w' : World} (hb : Below wr.heap.size wr w') : mr.Nm w B nb r1 cnt i bk l An cn Ab cb Ad cd w' := by
  have o1 := h.o1; have o2 := h.o2; have o3 := h.o3
  exact ⟨h.rd.keep fun k hk => ⟨hk, hb.block k (by omega)⟩, h.at_.next hb, h.d.next hb, h.own.next hb, h.len, h.data.keep fun k hk => ⟨hk, hb.block k (by omega)⟩, h.res.next hb, bnext h.hb hb, o1, o2, Nat.le_trans o3 hb.size⟩
theorem mr.Nm.push (h : mr.Nm w B nb r1 cnt i bk l An cn Ab cb Ad cd wr) {w5 w7 : World} (hb : Below wr.heap.size wr w5) {s : ByteArray} {A7 : Option Addr} {n7 c7 : Nat} (hg : Grew w5 w7 An A7) (ho : Own w7 nb 9 1 A7 n7 c7 (l.map Value.string ++ [Value.string s])) {b' : List UInt8} {Ab' : Option Addr} {cb' : Nat} (hrd : SlRep Rep.u8 wr (· < w.heap.size) b' Ab' cb') :
    n7 = i + 1 ∧ mr.Nm w B nb r1 cnt (i + 1) b' (l ++ [s]) A7 c7 Ab' cb' Ad cd (w7.setCell ⟨B, 6, none⟩ (.slice A7 n7 c7)) := by
  have o1 := h.o1; have o2 := h.o2; have o3 := h.o3
  have hs5 := hb.size
  have hs7 := hg.grown.size
  have hn : n7 = i + 1 := by have h1 := ho.len; have h2 := h.len; simp at h1; omega
  subst hn
  have e : ∀ k, k < nb → w7.heap[k]? = wr.heap[k]? := fun k hk => (hg.grown.block k (by omega) (fun e => by have := (h.own.lt k e.symm).1; omega)).trans (hb.block k (by omega))
  have e2 : ∀ k, k < nb → k ≠ B → (w7.setCell ⟨B, 6, none⟩ (.slice A7 (i + 1) c7)).heap[k]? = wr.heap[k]? := fun k hk hne => (mg.heap_set hne).trans (e k hk)
  have h5 : Below w.heap.size w w5 := bnext h.hb hb
  refine ⟨rfl, ⟨hrd.keep fun k hk => ⟨hk, e2 k (by omega) (by omega)⟩, ?_, (h.d.block (e _ (by omega))).block (mg.heap_set (by omega)), ?_, by rw [List.length_append, h.len]; rfl, h.data.keep fun k hk => ⟨hk, e2 k (by omega) (by omega)⟩, h.res.block (e2 _ (by omega) (by omega)),
    bset (h5.trans (hg.below (by omega) (fun k hk => by have := (h.own.lt k hk).1; omega))) (by omega) _, o1, o2, by rw [World.size_setCell]; omega⟩⟩
  · have h6 : mr.At w7 B { r1 with names := l } Ad cd An cn := h.at_.block (e B (by omega))
    exact h6.set (by omega) (by simp [mr.vals, h.len])
  · rw [List.map_append]
    exact ho.setCell (fun e => by have := (ho.lt _ e).1; exact absurd this (by show ¬ nb ≤ B; omega)) _
end
/-- at the loop's head: i names are there, or bytes have ended -/
def mr.Head (w : World) (B nb : Nat) (r1 : Reply) (cnt : Int) (N : Nat) (b1 : List UInt8) (Ad : Option Addr) (cd : Nat) (s7 s8 s9 : Value) (wr : World) : Prop :=
  (∃ (i : Nat) (bk : List UInt8) (l : List (List UInt8)) (An : Option Addr) (cn : Nat) (Ab : Option Addr) (cb : Nat), s7 = .slice Ab bk.length cb ∧ s8 = .bool true ∧ s9 = .int .i64 i ∧ i ≤ N ∧ bk.length ≤ 140737488351232 ∧ Hid (mr.texts (N - i) bk l = mr.texts N b1 []) ∧ Hid (mr.Nm w B nb r1 cnt i bk (l.map strOf) An cn Ab cb Ad cd wr)) ∨
  (∃ i : Nat, s8 = .bool false ∧ s9 = .int .i64 i ∧ Hid (mr.texts N b1 [] = none) ∧ Hid (mr.At wr w.heap.size mr.zeroR none 0 none 0) ∧ Hid (Below w.heap.size w wr))

/-- the world that Answered begins with -/
def mr.Y0 (w : World) : World := (((w.alloc (.cells #[.int .i64 0, .int .i64 0, .int .i64 0, .int .i64 0, .int .i64 0, .slice none 0 0, .slice none 0 0] 36)).alloc (.cells #[.int .i64 0, .int .i64 0, .int .i64 0, .int .i64 0, .int .i64 0, .slice none 0 0, .slice none 0 0] 36)).alloc (.cells #[.int .i64 0] 3)).alloc (.cells #[.int .i64 0] 3)
structure mr.YStart (w W : World) : Prop where
  rq : mr.Rq W (w.heap.size + 1) mr.zeroS none 0
  res : mr.At W w.heap.size mr.zeroR none 0 none 0
  hb : Below w.heap.size w W
  size : w.heap.size + 4 ≤ W.heap.size
theorem mr.ystart (w : World) : mr.YStart w (mr.Y0 w) := by
  have e1 : (w.alloc (.cells #[.int .i64 0, .int .i64 0, .int .i64 0, .int .i64 0, .int .i64 0, .slice none 0 0, .slice none 0 0] 36)).heap.size = w.heap.size + 1 := by simp
  have e2 : ((w.alloc (.cells #[.int .i64 0, .int .i64 0, .int .i64 0, .int .i64 0, .int .i64 0, .slice none 0 0, .slice none 0 0] 36)).alloc (.cells #[.int .i64 0, .int .i64 0, .int .i64 0, .int .i64 0, .int .i64 0, .slice none 0 0, .slice none 0 0] 36)).heap.size = w.heap.size + 1 + 1 := by simp
  have e3 : (((w.alloc (.cells #[.int .i64 0, .int .i64 0, .int .i64 0, .int .i64 0, .int .i64 0, .slice none 0 0, .slice none 0 0] 36)).alloc (.cells #[.int .i64 0, .int .i64 0, .int .i64 0, .int .i64 0, .int .i64 0, .slice none 0 0, .slice none 0 0] 36)).alloc (.cells #[.int .i64 0] 3)).heap.size = w.heap.size + 1 + 2 := by simp
  have h1 := mr.At.new (w.alloc (.cells #[.int .i64 0, .int .i64 0, .int .i64 0, .int .i64 0, .int .i64 0, .slice none 0 0, .slice none 0 0] 36)) mr.zeroR none 0 none 0
  have h2 := mr.Box.new ((w.alloc (.cells #[.int .i64 0, .int .i64 0, .int .i64 0, .int .i64 0, .int .i64 0, .slice none 0 0, .slice none 0 0] 36)).alloc (.cells #[.int .i64 0, .int .i64 0, .int .i64 0, .int .i64 0, .int .i64 0, .slice none 0 0, .slice none 0 0] 36)) 0
  have h3 := mr.Box.new (((w.alloc (.cells #[.int .i64 0, .int .i64 0, .int .i64 0, .int .i64 0, .int .i64 0, .slice none 0 0, .slice none 0 0] 36)).alloc (.cells #[.int .i64 0, .int .i64 0, .int .i64 0, .int .i64 0, .int .i64 0, .slice none 0 0, .slice none 0 0] 36)).alloc (.cells #[.int .i64 0] 3)) 0
  rw [e1] at h1
  rw [e2] at h2
  rw [e3] at h3
  exact ⟨⟨(h1.next (balloc (bself _) _)).next (balloc (bself _) _), h2.next (balloc (bself _) _), h3, ⟨Nat.le_refl _, Nat.zero_le _, .inl rfl⟩⟩, (((mr.At.new w mr.zeroR none 0 none 0).next (balloc (bself _) _)).next (balloc (bself _) _)).next (balloc (bself _) _), balloc (balloc (balloc (balloc (bself w) _) _) _) _, by unfold mr.Y0; simp⟩

theorem mr.texts_sizes : ∀ {n : Nat} {b b' : List UInt8} {l l' : List (List UInt8)}, mr.texts n b l = some (b', l') → (∀ s ∈ l, s.length ≤ 65535) → ∀ s ∈ l', s.length ≤ 65535
  | 0, _, _, _, _, h, hl => by cases h; exact hl
  | n + 1, b, b', l, l', h, hl => by
    unfold mr.texts at h
    cases hg : mr.getT b with
    | none => rw [hg] at h; cases h
    | some y =>
      rw [hg] at h
      refine mr.texts_sizes h (fun s hs => ?_)
      rcases List.mem_append.1 hs with h1 | h1
      · exact hl s h1
      · rw [List.mem_singleton.1 h1]
        exact (mr.getT_len hg).2
theorem mr.answered_yes {x : Except Int Reply} {r : Reply} {w w5 w6 : World} {Ad An : Option Addr} {cd cn : Nat} (h : x = .ok r) (hd : SlRep Rep.u8 w5 (fun k => w.heap.size < k ∧ k < w5.heap.size) r.data Ad cd) (hn : SlRep Rep.str w5 (fun k => w.heap.size < k ∧ k < w5.heap.size) r.names An cn)
    (hk : ∀ k, w.heap.size < k → w6.heap[k]? = w5.heap[k]?) (hs : w5.heap.size ≤ w6.heap.size) (hb : Below w.heap.size w w6) : AnsweredRes x w (.returned (.tuple #[.agg (mr.vals r Ad cd An cn).toArray, .int .i64 0])) w6 := by
  subst h
  exact ⟨Ad, cd, An, cn, rfl, hd.keep fun k hk2 => ⟨⟨by omega, by omega⟩, hk k hk2.1⟩, hn.keep fun k hk2 => ⟨⟨by omega, by omega⟩, hk k hk2.1⟩, hb⟩

set_option maxRecDepth 100000 in
set_option maxHeartbeats 16000000 in
theorem msg_Answered_res (b : List UInt8) (Ab : Option Addr) (cb : Nat) (w : World) (hl : SlRep Rep.u8 w (· < w.heap.size) b Ab cb) (hn : b.length ≤ 140737488351232) :
    Calls Try.prog 15 #[.slice Ab b.length cb] w (AnsweredRes (mr.answered b) w) := by
  have HL := Lib.hid hl
  clear hl
  go_enter Try.func15, Try.ntmps15
  go_wp2_with fail
  have hst := mr.ystart w
  unfold mr.Y0 at hst
  generalize (((w.alloc (.cells #[.int .i64 0, .int .i64 0, .int .i64 0, .int .i64 0, .int .i64 0, .slice none 0 0, .slice none 0 0] 36)).alloc (.cells #[.int .i64 0, .int .i64 0, .int .i64 0, .int .i64 0, .int .i64 0, .slice none 0 0, .slice none 0 0] 36)).alloc (.cells #[.int .i64 0] 3)).alloc (.cells #[.int .i64 0] 3) = W0 at *
  have HST := Lib.hid hst
  have hz := hst.size
  clear hst
  refine (msg_replied (w.heap.size + 1) (w.heap.size + 1 + 1) (w.heap.size + 1 + 2) _).mono ?_
  rintro e w1 ⟨A1, c1, rfl, ho1, hb1⟩
  have HR1 := Lib.hid (HST.out.rq.next hb1)
  have HS1 := Lib.hid (HST.out.res.next hb1)
  have HB1 := Lib.hid (bnext HST.out.hb hb1)
  have HO1 := Lib.hid ho1
  have hz1 := hb1.size
  clear ho1 hb1 HST
  go_wp2_with fail
  refine (mr_take (w.heap.size + 1) mr.zeroS none 0 A1 c1 _ b Ab cb (· < w.heap.size) w1 HR1.out HO1.out (by omega) (HL.out.keep fun k hk => ⟨hk, HB1.out.block k hk⟩) (fun k hk => ⟨by omega, by omega⟩) hn).mono ?_
  cases ht : mr.takeS mr.all7 b mr.zeroS with
  | none =>
    have HE : Hid (mr.answered b = .error 5) := Lib.hid (by unfold mr.answered; rw [ht])
    clear ht
    rintro e w2 ⟨rfl, hu2, x2, A2, c2, hr2⟩
    have HB2 : Hid (Below w.heap.size w w2) := Lib.hid (hu2.below HB1.out (by omega) HB1.out.size)
    have HR2 := Lib.hid hr2
    have HS2 : Hid (mr.At w2 w.heap.size mr.zeroR none 0 none 0) := Lib.hid (HS1.out.block (hu2.block _ (by omega) (.inl (by omega))))
    have u0 := HR2.out.c.cell
    have u1 := HR2.out.at_.cell 1
    have u2 := HR2.out.at_.free 1
    simp only [mr.vals, List.getElem?_cons_zero, List.getElem?_cons_succ] at u1
    clear hu2 hr2
    have hz2 : w.heap.size + 1 < w2.heap.size := HR2.out.at_.lt
    have hz2' : w.heap.size < w2.heap.size := by omega
    have z0 : w2.cell? ⟨w.heap.size, 0, none⟩ = some (.int .i64 0) := HS2.out.cell 0
    have z1 : w2.cell? ⟨w.heap.size, 1, none⟩ = some (.int .i64 0) := HS2.out.cell 1
    have z2 : w2.cell? ⟨w.heap.size, 2, none⟩ = some (.int .i64 0) := HS2.out.cell 2
    have z3 : w2.cell? ⟨w.heap.size, 3, none⟩ = some (.int .i64 0) := HS2.out.cell 3
    have z4 : w2.cell? ⟨w.heap.size, 4, none⟩ = some (.int .i64 0) := HS2.out.cell 4
    have z5 : w2.cell? ⟨w.heap.size, 5, none⟩ = some (.slice none 0 0) := HS2.out.cell 5
    have z6 : w2.cell? ⟨w.heap.size, 6, none⟩ = some (.slice none 0 0) := HS2.out.cell 6
    have zf := HS2.out.free
    go_wp2_with fail
    have HS3 : Hid (mr.At (w2.setCell ⟨w.heap.size + 1, 1, none⟩ (.int .i64 x2.code)) w.heap.size mr.zeroR none 0 none 0) := Lib.hid (HS2.out.block (mg.heap_set (by omega)))
    have HB3 : Hid (Below w.heap.size w (w2.setCell ⟨w.heap.size + 1, 1, none⟩ (.int .i64 x2.code))) := Lib.hid (bset HB2.out (by omega) _)
    generalize w2.setCell ⟨w.heap.size + 1, 1, none⟩ (.int .i64 x2.code) = w3 at *
    clear z0 z1 z2 z3 z4 z5 z6 zf u0 u1 u2 HS2 HB2 HR2
    go_loopw [7, 8, 9] (fun _ s8 _ wr => s8 = .bool false ∧ wr = w3) (fun _ _ _ _ => 0)
    case atStart => exact ⟨rfl, rfl⟩
    case round =>
      obtain ⟨rfl, rfl⟩ := hrel
      rename World => w3
      have z0 : w3.cell? ⟨w.heap.size, 0, none⟩ = some (.int .i64 0) := HS3.out.cell 0
      have z1 : w3.cell? ⟨w.heap.size, 1, none⟩ = some (.int .i64 0) := HS3.out.cell 1
      have z2 : w3.cell? ⟨w.heap.size, 2, none⟩ = some (.int .i64 0) := HS3.out.cell 2
      have z3 : w3.cell? ⟨w.heap.size, 3, none⟩ = some (.int .i64 0) := HS3.out.cell 3
      have z4 : w3.cell? ⟨w.heap.size, 4, none⟩ = some (.int .i64 0) := HS3.out.cell 4
      have z5 : w3.cell? ⟨w.heap.size, 5, none⟩ = some (.slice none 0 0) := HS3.out.cell 5
      have z6 : w3.cell? ⟨w.heap.size, 6, none⟩ = some (.slice none 0 0) := HS3.out.cell 6
      have zf := HS3.out.free
      go_wp2_with fail
      exact bodyPost_ret (v := .tuple #[.agg #[.int .i64 0, .int .i64 0, .int .i64 0, .int .i64 0, .int .i64 0, .slice none 0 0, .slice none 0 0], .int .i64 5]) (by first | (simp [results, Try.results15, go_sem]; done) | (simp [results, Try.results15, go_sem, *]; done)) rfl (AnsweredRes.no HE.out (by repeat (first | (with_reducible exact HB3.out) | (with_reducible refine bset ?_ (Nat.le_refl _) _) | (with_reducible refine balloc ?_ _))))
  | some y =>
    obtain ⟨b1, x⟩ := y
    have HE1 : Hid (mr.answered b = mr.answered2 b1 x) := Lib.hid (by unfold mr.answered; rw [ht])
    obtain ⟨hok, hb1⟩ := mr.takeS_ok mr.zero_ok ht
    obtain ⟨hnm, _⟩ := mr.takeS_names ht
    clear ht
    have HOK := Lib.hid hok
    obtain ⟨_, _, hc0, hc1⟩ := hok
    have HNM : Hid (x.r.names = []) := Lib.hid hnm
    clear hnm
    rintro e w2 ⟨Ab2, cb2, A2, c2, rfl, hs2, hr2, hu2⟩
    have HB2 : Hid (Below w.heap.size w w2) := Lib.hid (hu2.below HB1.out (by omega) HB1.out.size)
    have HR2 := Lib.hid hr2
    have HX2 := Lib.hid hs2
    have HS2 : Hid (mr.At w2 w.heap.size mr.zeroR none 0 none 0) := Lib.hid (HS1.out.block (hu2.block _ (by omega) (.inl (by omega))))
    have u0 := HR2.out.c.cell
    have u1 := HR2.out.at_.cell 1
    have u2 := HR2.out.at_.free 1
    simp only [mr.vals, List.getElem?_cons_zero, List.getElem?_cons_succ] at u1
    have hz2 : w.heap.size + 1 + 2 < w2.heap.size := HR2.out.d.lt
    clear hu2 hr2 hs2 HR1 HS1 HB1 HO1 HL
    go_wp2_with fail
    have HN0 : Hid (mr.Nm w (w.heap.size + 1) w2.heap.size { x.r with code := x.code } x.count 0 b1 (([] : List (List UInt8)).map strOf) none 0 Ab2 cb2 A2 c2 (w2.setCell ⟨w.heap.size + 1, 1, none⟩ (.int .i64 x.code))) := Lib.hid (by
      have e : ∀ k, k ≠ w.heap.size + 1 → (w2.setCell ⟨w.heap.size + 1, 1, none⟩ (.int .i64 x.code)).heap[k]? = w2.heap[k]? := fun k hk => mg.heap_set hk
      exact ⟨HX2.out.keep fun k hk => ⟨hk, e k (by omega)⟩, HR2.out.at_.set (by omega) (by simp [mr.vals, HNM.out]), HR2.out.d.block (e _ (by omega)), Own.nil _ _ _ _, rfl, HR2.out.data.keep fun k hk => ⟨hk, e k (by omega)⟩, HS2.out.block (e _ (by omega)), bset HB2.out (by omega) _, by omega, by omega, by rw [World.size_setCell]; exact Nat.le_refl _⟩)
    generalize w2.setCell ⟨w.heap.size + 1, 1, none⟩ (.int .i64 x.code) = w3 at *
    obtain ⟨N, hN⟩ : ∃ N : Nat, x.count = (N : Int) := ⟨x.count.toNat, by omega⟩
    have hN255 : N ≤ 255 := by omega
    have HE2 : Hid (mr.answered b = match mr.texts N b1 [] with | none => .error 5 | some (b2, l) => if b2 = [] ∧ mr.fault (mr.whole x l) = 0 then .ok (mr.whole x l) else .error 4) := Lib.hid (by
      rw [HE1.out]
      unfold mr.answered2
      rw [show x.count.toNat = N by omega]
      rfl)
    rw [hN] at HN0
    have HNN := Lib.hid hN
    clear hN hc0 hc1 HE1 u0 u1 u2 HX2 HR2 HS2 HB2
    generalize w2.heap.size = nb at *
    go_loopw [7, 8, 9] (fun s7 s8 s9 wr => mr.Head w (w.heap.size + 1) nb { x.r with code := x.code } (N : Int) N b1 A2 c2 s7 s8 s9 wr) (fun _ _ s9 _ => N - (intOf s9).toNat)
    case atStart => exact .inl ⟨0, b1, [], none, 0, Ab2, cb2, rfl, rfl, rfl, Nat.zero_le _, by omega, Lib.hid rfl, HN0⟩
    case round =>
      clear HN0
      rcases hrel with ⟨i, bk, l, An, cn, Ab, cb, rfl, rfl, rfl, hi, hbk, HT, HN⟩ | ⟨i, rfl, rfl, HT, HS, HB⟩
      · rename World => wr
        have u3 : wr.cell? ⟨w.heap.size + 1 + 1 + 1, 0, none⟩ = some (.int .i64 (N : Int)) := HN.out.d.cell
        have o3 := HN.out.o3
        have o2 := HN.out.o2
        have hrw : w.heap.size ≤ wr.heap.size := by omega
        by_cases hlt : i < N
        · have hll : (l.map strOf).length = i := HN.out.len
          have hgt := mr.get_of_text bk
          have hstep : mr.texts (N - i) bk l = match mr.getT bk with | none => none | some (b', s) => mr.texts (N - (i + 1)) b' (l ++ [s]) := by
            rw [show N - i = (N - (i + 1)) + 1 by omega]
            rfl
          have HST := Lib.hid hstep
          clear hstep
          have q : decide ((i : Int) < (N : Int)) = true := decide_eq_true (by omega)
          have q' : decide (i < N) = true := decide_eq_true hlt
          cases hg : mr.getT bk with
          | none =>
            have hok : (!decide (bk.length < 2) && !decide (bk.length - 2 < feed.be (bk.take 2))) = false := by
              cases h : (!decide (bk.length < 2) && !decide (bk.length - 2 < feed.be (bk.take 2))) with
              | false => rfl
              | true => have := (hgt.2 h).2.2; rw [hg] at this; cases this
            have HOKB := Lib.hid hok
            have HTN : Hid (mr.texts N b1 [] = none) := Lib.hid (by rw [← HT.out, HST.out, hg])
            clear hg hgt hok
            go_wp2_with (first
              | (go_at_call 32; refine (msg_text _ _).mono ?_; rintro e w5 ⟨rfl, hb5⟩; have hc5 : w5.cell? ⟨wr.heap.size, 0, none⟩ = some (.string ⟨#[]⟩) := (hb5.cell (p := ⟨wr.heap.size, 0, none⟩) (by simp)).trans (by rw [World.cell?_alloc_new]; rfl); have hf5 : w5.frozen? ⟨wr.heap.size, 0, none⟩ = false := (hb5.frozen (p := ⟨wr.heap.size, 0, none⟩) (by simp)).trans (by simp [go_sem]); have HB5 := Lib.hid ((balloc (bself wr) _).trans (hb5.mono (by simp))); have hs5 : wr.heap.size < w5.heap.size := World.block_lt_of_cell? w5 _ hc5; clear hb5)
              | (go_at_call 34; refine (get_text wr.heap.size 0 ⟨#[]⟩ bk Ab cb w5 ((HN.out.next HB5.out).rd.keep fun k hk => ⟨by omega, rfl⟩) (by omega) hc5 hf5).mono ?_; rw [HOKB.out]; rintro e w6 ⟨rfl, hb6⟩; have HN6 := Lib.hid ((HN.out.next HB5.out).next hb6); have hc6 := (hb6.cell (p := ⟨wr.heap.size, 0, none⟩) hs5).trans hc5; have u6 : w6.cell? ⟨w.heap.size + 1, 6, none⟩ = some (.slice An i cn) := (HN6.out.at_.cell 6).trans (by have e := HN6.out.len; show some (Value.slice An (List.map strOf l).length cn) = _; rw [e]); have uf6 := HN6.out.at_.free 6; clear hb6)
              | (at_builtin; refine wp_app _ rfl _ _ _ rfl elemStr nb An i cn _ rfl (HN6.out.own.alloc _) _ 1 1 [Value.string ⟨#[]⟩] rfl rfl (Cells.newAt _ _ _ rfl) (by simp [Value.oneCell']) (by omega) (by unfold maxLen; omega) (by have := HN6.out.o3; simp; omega) ?_; intro A7 c7 w7 ho7 hg7; have u7 := (hg7.cell 6 (b := w.heap.size + 1) (by have := HN6.out.o3; simp; omega) (fun k hk => by have := (HN6.out.own.lt k hk).1; omega)).trans (((balloc (bself w6) _).cell (p := ⟨w.heap.size + 1, 6, none⟩) (show w.heap.size + 1 < w6.heap.size by have := HN6.out.o3; omega)).trans u6); have u8 := (hg7.frozen 6 (b := w.heap.size + 1) (by have := HN6.out.o3; simp; omega) (fun k hk => by have := (HN6.out.own.lt k hk).1; omega)).trans (((balloc (bself w6) _).frozen (p := ⟨w.heap.size + 1, 6, none⟩) (show w.heap.size + 1 < w6.heap.size by have := HN6.out.o3; omega)).trans uf6); have HO7 := Lib.hid ho7; have HG7 := Lib.hid hg7; clear ho7 hg7)
              | fail)
            have HP := Lib.hid (HN6.out.push (balloc (bself w6) _) HG7.out HO7.out (b' := []) (Ab' := none) (cb' := 0) ⟨Nat.le_refl _, Nat.zero_le _, .inl rfl⟩).2
            go_roundw
            case rel => exact .inr ⟨i + 1, rfl, by go_num, HTN, Lib.hid HP.out.res, Lib.hid HP.out.hb⟩
            case measure => simp [intOf]; omega
          | some y =>
            obtain ⟨b', s⟩ := y
            have hok : (!decide (bk.length < 2) && !decide (bk.length - 2 < feed.be (bk.take 2))) = true := by
              cases h : (!decide (bk.length < 2) && !decide (bk.length - 2 < feed.be (bk.take 2))) with
              | true => rfl
              | false => have := hgt.1 h; rw [hg] at this; cases this
            obtain ⟨h1, h2, e⟩ := hgt.2 hok
            rw [hg] at e
            injection e with e
            injection e with e1 e2
            have HOKB := Lib.hid hok
            have HT2 : Hid (mr.texts (N - (i + 1)) b' (l ++ [s]) = mr.texts N b1 []) := Lib.hid (by rw [← HT.out, HST.out, hg])
            have hbl := (mr.getT_len hg).1
            have hbe : bk.length - 2 - feed.be (bk.take 2) = b'.length := by rw [e1, List.length_drop, List.length_drop]
            have HRD : Hid (SlRep Rep.u8 wr (· < w.heap.size) b' (cutA (cutA Ab cb 2 1) (cb - 2) (feed.be (bk.take 2)) 1) (cb - 2 - feed.be (bk.take 2))) := Lib.hid (by
              rw [e1]
              exact (HN.out.rd.drop (f := 2) (by omega)).drop (by rw [List.length_drop]; omega))

            clear hg hgt hok h1 h2 e1
            have HGC := Lib.hid (fun w5 (hs : SlRep Rep.u8 w5 (· < w5.heap.size) bk Ab cb) hc hf => get_text wr.heap.size 0 ⟨#[]⟩ bk Ab cb w5 hs (by omega) hc hf)
            rw [HOKB.out, hbe, ← e2] at HGC
            clear hbe e2
            generalize cutA (cutA Ab cb 2 1) (cb - 2) (feed.be (bk.take 2)) 1 = Ab' at *
            generalize cb - 2 - feed.be (bk.take 2) = cb' at *
            go_wp2_with (first
              | (go_at_call 32; refine (msg_text _ _).mono ?_; rintro e w5 ⟨rfl, hb5⟩; have hc5 : w5.cell? ⟨wr.heap.size, 0, none⟩ = some (.string ⟨#[]⟩) := (hb5.cell (p := ⟨wr.heap.size, 0, none⟩) (by simp)).trans (by rw [World.cell?_alloc_new]; rfl); have hf5 : w5.frozen? ⟨wr.heap.size, 0, none⟩ = false := (hb5.frozen (p := ⟨wr.heap.size, 0, none⟩) (by simp)).trans (by simp [go_sem]); have HB5 := Lib.hid ((balloc (bself wr) _).trans (hb5.mono (by simp))); have hs5 : wr.heap.size < w5.heap.size := World.block_lt_of_cell? w5 _ hc5; clear hb5)
              | (go_at_call 34; refine (HGC.out w5 ((HN.out.next HB5.out).rd.keep fun k hk => ⟨by omega, rfl⟩) hc5 hf5).mono ?_; rintro e w6 ⟨rfl, w4, v, hb6, hv, hw6⟩; subst hv; have hb46 : Below wr.heap.size wr w6 := (hw6 ▸ (bset (w := wr) (HB5.out.trans (hb6.mono (by omega))) (b := wr.heap.size) (Nat.le_refl _) _)); have HN6 := Lib.hid (HN.out.next hb46); have HRD6 := Lib.hid (HRD.out.keep fun k hk => ⟨hk, hb46.block k (by omega)⟩); have hc6 : w6.cell? ⟨wr.heap.size, 0, none⟩ = some (.string (strOf s)) := (by rw [hw6]; exact World.cell?_setCell_same' w4 _ _ (by rw [hb6.cell (p := ⟨wr.heap.size, 0, none⟩) hs5, hc5]; rfl)); have u6 : w6.cell? ⟨w.heap.size + 1, 6, none⟩ = some (.slice An i cn) := (HN6.out.at_.cell 6).trans (by have e := HN6.out.len; show some (Value.slice An (List.map strOf l).length cn) = _; rw [e]); have uf6 := HN6.out.at_.free 6; clear hb6 hw6 hb46)
              | (at_builtin; refine wp_app _ rfl _ _ _ rfl elemStr nb An i cn _ rfl (HN6.out.own.alloc _) _ 1 1 [Value.string (strOf s)] rfl rfl (Cells.newAt _ _ _ rfl) (by simp [Value.oneCell']) (by omega) (by unfold maxLen; omega) (by have := HN6.out.o3; simp; omega) ?_; intro A7 c7 w7 ho7 hg7; have u7 := (hg7.cell 6 (b := w.heap.size + 1) (by have := HN6.out.o3; simp; omega) (fun k hk => by have := (HN6.out.own.lt k hk).1; omega)).trans (((balloc (bself w6) _).cell (p := ⟨w.heap.size + 1, 6, none⟩) (show w.heap.size + 1 < w6.heap.size by have := HN6.out.o3; omega)).trans u6); have u8 := (hg7.frozen 6 (b := w.heap.size + 1) (by have := HN6.out.o3; simp; omega) (fun k hk => by have := (HN6.out.own.lt k hk).1; omega)).trans (((balloc (bself w6) _).frozen (p := ⟨w.heap.size + 1, 6, none⟩) (show w.heap.size + 1 < w6.heap.size by have := HN6.out.o3; omega)).trans uf6); have HO7 := Lib.hid ho7; have HG7 := Lib.hid hg7; clear ho7 hg7)
              | fail)
            have HP := Lib.hid (HN6.out.push (balloc (bself w6) _) HG7.out HO7.out HRD6.out).2
            go_roundw
            case rel => exact .inl ⟨i + 1, b', l ++ [s], A7, c7, Ab', cb', rfl, rfl, by go_num, by omega, by omega, HT2, Lib.hid (by rw [List.map_append]; exact HP.out)⟩
            case measure => simp [intOf]; omega
        · obtain rfl : i = N := by omega
          have hTN : mr.texts i b1 [] = some (bk, l) := by rw [← HT.out, Nat.sub_self]; rfl
          have HE3 : Hid (mr.answered b = if bk = [] ∧ mr.fault (mr.whole x l) = 0 then .ok (mr.whole x l) else .error 4) := Lib.hid (by rw [HE2.out, hTN])
          have hsz := mr.texts_sizes hTN (fun s hs => by cases hs)
          have HAT : Hid (mr.At wr (w.heap.size + 1) (mr.whole x l) A2 c2 An cn) := Lib.hid HN.out.at_
          have HDT : Hid (SlRep Rep.u8 wr (fun k => w.heap.size < k ∧ k < wr.heap.size) (mr.whole x l).data A2 c2) := Lib.hid (HN.out.data.keep fun k hk => ⟨⟨by omega, by omega⟩, rfl⟩)
          have HNS : Hid (SlRep Rep.str wr (fun k => w.heap.size < k ∧ k < wr.heap.size) (mr.whole x l).names An cn) := Lib.hid (HN.out.own.strs.2.keep fun k hk => ⟨⟨by omega, hk.2⟩, rfl⟩)
          have HOKW : Hid (mr.Ok (mr.whole x l)) := Lib.hid ⟨HOK.out.1.1, HOK.out.2.1, HOK.out.1.2.2.1, HOK.out.1.2.2.2.1, HOK.out.1.2.2.2.2⟩
          have HNL : Hid ((mr.whole x l).names.length ≤ 140737488351232 ∧ ∀ s ∈ (mr.whole x l).names, s.size ≤ 140737488351232) := Lib.hid (by
            have h1 : (l.map strOf).length = i := HN.out.len
            refine ⟨by show (l.map strOf).length ≤ _; omega, fun s hs => ?_⟩
            obtain ⟨t, ht, rfl⟩ := List.mem_map.1 (show s ∈ l.map strOf from hs)
            have := hsz t ht
            rw [strOf_size]
            omega)
          generalize mr.whole x l = r at *
          have HRES := Lib.hid HN.out.res
          have HBW := Lib.hid HN.out.hb
          clear hTN hsz HT HE2 HN HOK HNM
          by_cases hbk : bk = []
          · subst hbk
            by_cases hf : mr.fault r = 0
            · have HE : Hid (mr.answered b = .ok r) := Lib.hid (by rw [HE3.out, if_pos ⟨rfl, hf⟩])
              have HFC := Lib.hid (msg_fault r A2 c2 An cn wr HOKW.out (HNS.out.keep fun k hk => ⟨hk.2, rfl⟩) HNL.out.1 HNL.out.2)
              rw [hf] at HFC
              clear hf HE3
              have y0 := HAT.out.cell 0
              have y1 := HAT.out.cell 1
              have y2 := HAT.out.cell 2
              have y3 := HAT.out.cell 3
              have y4 := HAT.out.cell 4
              have y5 := HAT.out.cell 5
              have y6 := HAT.out.cell 6
              simp only [mr.vals, List.getElem?_cons_zero, List.getElem?_cons_succ] at y0 y1 y2 y3 y4 y5 y6
              go_wp2_with fail
              refine HFC.out.mono ?_
              rintro e w8 ⟨rfl, hb8⟩
              have HR8 := Lib.hid (HRES.out.next hb8)
              have HA8 := Lib.hid (HAT.out.next hb8)
              have HB8 := Lib.hid (bnext HBW.out hb8)
              have HD8 : Hid (SlRep Rep.u8 w8 (fun k => w.heap.size < k ∧ k < w8.heap.size) r.data A2 c2) := Lib.hid (HDT.out.keep fun k hk => ⟨⟨hk.1, Nat.lt_of_lt_of_le hk.2 hb8.size⟩, hb8.block k hk.2⟩)
              have HN8 : Hid (SlRep Rep.str w8 (fun k => w.heap.size < k ∧ k < w8.heap.size) r.names An cn) := Lib.hid (HNS.out.keep fun k hk => ⟨⟨hk.1, Nat.lt_of_lt_of_le hk.2 hb8.size⟩, hb8.block k hk.2⟩)
              clear hb8 y0 y1 y2 y3 y4 y5 y6 u3
              have z0 : w8.cell? ⟨w.heap.size, 0, none⟩ = some (.int .i64 0) := HR8.out.cell 0
              have z1 : w8.cell? ⟨w.heap.size, 1, none⟩ = some (.int .i64 0) := HR8.out.cell 1
              have z2 : w8.cell? ⟨w.heap.size, 2, none⟩ = some (.int .i64 0) := HR8.out.cell 2
              have z3 : w8.cell? ⟨w.heap.size, 3, none⟩ = some (.int .i64 0) := HR8.out.cell 3
              have z4 : w8.cell? ⟨w.heap.size, 4, none⟩ = some (.int .i64 0) := HR8.out.cell 4
              have z5 : w8.cell? ⟨w.heap.size, 5, none⟩ = some (.slice none 0 0) := HR8.out.cell 5
              have z6 : w8.cell? ⟨w.heap.size, 6, none⟩ = some (.slice none 0 0) := HR8.out.cell 6
              have zf := HR8.out.free
              have y0 := HA8.out.cell 0
              have y1 := HA8.out.cell 1
              have y2 := HA8.out.cell 2
              have y3 := HA8.out.cell 3
              have y4 := HA8.out.cell 4
              have y5 := HA8.out.cell 5
              have y6 := HA8.out.cell 6
              simp only [mr.vals, List.getElem?_cons_zero, List.getElem?_cons_succ] at y0 y1 y2 y3 y4 y5 y6
              go_wp2_with fail
              refine bodyPost_ret (v := .tuple #[.agg (mr.vals r A2 c2 An cn).toArray, .int .i64 0]) (by simp only [mr.vals]; first | (simp [results, Try.results15, go_sem]; done) | (simp [results, Try.results15, go_sem, *]; done)) rfl ?_
              have hB6 : Below w.heap.size w (((((((w8.setCell ⟨w.heap.size, 0, none⟩ (.int .i64 r.mark)).setCell ⟨w.heap.size, 1, none⟩ (.int .i64 r.code)).setCell ⟨w.heap.size, 2, none⟩ (.int .i64 r.handle)).setCell ⟨w.heap.size, 3, none⟩ (.int .i64 r.kind)).setCell ⟨w.heap.size, 4, none⟩ (.int .i64 r.size)).setCell ⟨w.heap.size, 5, none⟩ (.slice A2 r.data.length c2)).setCell ⟨w.heap.size, 6, none⟩ (.slice An r.names.length cn)) := by
                repeat (first | (with_reducible exact HB8.out) | (with_reducible refine bset ?_ (Nat.le_refl _) _))
              exact mr.answered_yes HE.out HD8.out HN8.out (fun k hk => by (repeat rw [mg.heap_set (by omega)])) (by simp only [World.size_setCell]; exact Nat.le_refl _) hB6
            · have HE : Hid (mr.answered b = .error 4) := Lib.hid (by rw [HE3.out, if_neg (fun h => hf h.2)])
              have HFC := Lib.hid (msg_fault r A2 c2 An cn wr HOKW.out (HNS.out.keep fun k hk => ⟨hk.2, rfl⟩) HNL.out.1 HNL.out.2)
              obtain ⟨f, hfv⟩ : ∃ f, mr.fault r = f := ⟨_, rfl⟩
              rw [hfv] at HFC hf
              have q1 : (f != 0) = true := bne_iff_ne.2 hf
              clear hf hfv HE3
              have y0 := HAT.out.cell 0
              have y1 := HAT.out.cell 1
              have y2 := HAT.out.cell 2
              have y3 := HAT.out.cell 3
              have y4 := HAT.out.cell 4
              have y5 := HAT.out.cell 5
              have y6 := HAT.out.cell 6
              simp only [mr.vals, List.getElem?_cons_zero, List.getElem?_cons_succ] at y0 y1 y2 y3 y4 y5 y6
              go_wp2_with fail
              refine HFC.out.mono ?_
              rintro e w8 ⟨rfl, hb8⟩
              have HR8 := Lib.hid (HRES.out.next hb8)
              have HB8 := Lib.hid (bnext HBW.out hb8)
              clear hb8 y0 y1 y2 y3 y4 y5 y6 u3
              have z0 : w8.cell? ⟨w.heap.size, 0, none⟩ = some (.int .i64 0) := HR8.out.cell 0
              have z1 : w8.cell? ⟨w.heap.size, 1, none⟩ = some (.int .i64 0) := HR8.out.cell 1
              have z2 : w8.cell? ⟨w.heap.size, 2, none⟩ = some (.int .i64 0) := HR8.out.cell 2
              have z3 : w8.cell? ⟨w.heap.size, 3, none⟩ = some (.int .i64 0) := HR8.out.cell 3
              have z4 : w8.cell? ⟨w.heap.size, 4, none⟩ = some (.int .i64 0) := HR8.out.cell 4
              have z5 : w8.cell? ⟨w.heap.size, 5, none⟩ = some (.slice none 0 0) := HR8.out.cell 5
              have z6 : w8.cell? ⟨w.heap.size, 6, none⟩ = some (.slice none 0 0) := HR8.out.cell 6
              have zf := HR8.out.free
              go_wp2_with fail
              exact bodyPost_ret (v := .tuple #[.agg #[.int .i64 0, .int .i64 0, .int .i64 0, .int .i64 0, .int .i64 0, .slice none 0 0, .slice none 0 0], .int .i64 4]) (by first | (simp [results, Try.results15, go_sem]; done) | (simp [results, Try.results15, go_sem, *]; done)) rfl (AnsweredRes.no HE.out (by repeat (first | (with_reducible exact HB8.out) | (with_reducible refine bset ?_ (Nat.le_refl _) _) | (with_reducible refine balloc ?_ _))))
          · have HE : Hid (mr.answered b = .error 4) := Lib.hid (by rw [HE3.out, if_neg (fun h => hbk h.1)])
            have hbp := List.length_pos_iff.2 hbk
            clear hbk HE3
            have z0 : wr.cell? ⟨w.heap.size, 0, none⟩ = some (.int .i64 0) := HRES.out.cell 0
            have z1 : wr.cell? ⟨w.heap.size, 1, none⟩ = some (.int .i64 0) := HRES.out.cell 1
            have z2 : wr.cell? ⟨w.heap.size, 2, none⟩ = some (.int .i64 0) := HRES.out.cell 2
            have z3 : wr.cell? ⟨w.heap.size, 3, none⟩ = some (.int .i64 0) := HRES.out.cell 3
            have z4 : wr.cell? ⟨w.heap.size, 4, none⟩ = some (.int .i64 0) := HRES.out.cell 4
            have z5 : wr.cell? ⟨w.heap.size, 5, none⟩ = some (.slice none 0 0) := HRES.out.cell 5
            have z6 : wr.cell? ⟨w.heap.size, 6, none⟩ = some (.slice none 0 0) := HRES.out.cell 6
            have zf := HRES.out.free
            go_wp2_with fail
            exact bodyPost_ret (v := .tuple #[.agg #[.int .i64 0, .int .i64 0, .int .i64 0, .int .i64 0, .int .i64 0, .slice none 0 0, .slice none 0 0], .int .i64 4]) (by first | (simp [results, Try.results15, go_sem]; done) | (simp [results, Try.results15, go_sem, *]; done)) rfl (AnsweredRes.no HE.out (by repeat (first | (with_reducible exact HBW.out) | (with_reducible refine bset ?_ (Nat.le_refl _) _) | (with_reducible refine balloc ?_ _))))
      · rename World => wr
        have HE : Hid (mr.answered b = .error 5) := Lib.hid (by rw [HE2.out, HT.out])
        have z0 : wr.cell? ⟨w.heap.size, 0, none⟩ = some (.int .i64 0) := HS.out.cell 0
        have z1 : wr.cell? ⟨w.heap.size, 1, none⟩ = some (.int .i64 0) := HS.out.cell 1
        have z2 : wr.cell? ⟨w.heap.size, 2, none⟩ = some (.int .i64 0) := HS.out.cell 2
        have z3 : wr.cell? ⟨w.heap.size, 3, none⟩ = some (.int .i64 0) := HS.out.cell 3
        have z4 : wr.cell? ⟨w.heap.size, 4, none⟩ = some (.int .i64 0) := HS.out.cell 4
        have z5 : wr.cell? ⟨w.heap.size, 5, none⟩ = some (.slice none 0 0) := HS.out.cell 5
        have z6 : wr.cell? ⟨w.heap.size, 6, none⟩ = some (.slice none 0 0) := HS.out.cell 6
        have zf := HS.out.free
        go_wp2_with fail
        exact bodyPost_ret (v := .tuple #[.agg #[.int .i64 0, .int .i64 0, .int .i64 0, .int .i64 0, .int .i64 0, .slice none 0 0, .slice none 0 0], .int .i64 5]) (by first | (simp [results, Try.results15, go_sem]; done) | (simp [results, Try.results15, go_sem, *]; done)) rfl (AnsweredRes.no HE.out (by repeat (first | (with_reducible exact HB.out) | (with_reducible refine bset ?_ (Nat.le_refl _) _) | (with_reducible refine balloc ?_ _))))
end Go.Proofs.Ytcpbgiikfabaaaa
