/- Package msg: take: parts are read one by one. No condition. -/
import Derived.Test.YtcpbgiikfabaaaaMsgG
import Derived.Test.YtcpbgiikfabaaaaMsg7
import Derived.Deep.DeepCutAuto
namespace Go.Proofs.Ytcpbgiikfabaaaa
open Go.RowKit

theorem mg.getR_len {s : mg.Sel} {b b' : List UInt8} {r r' : Request} (h : mg.getR s b r = some (b', r')) : b'.length ≤ b.length := by
  unfold mg.getR at h
  split at h
  · split at h
    · cases h
    · cases h; rw [List.length_drop]; omega
  · split at h
    · cases h
    · split at h
      · cases h
      · cases h; rw [List.length_drop, List.length_drop]; omega
theorem mg.take_step {l : List mg.Sel} {k : Nat} (hk : k < l.length) (b : List UInt8) (r : Request) : mg.takeR (l.drop k) b r = match mg.getR (l.getD k .kind) b r with | none => none | some (b', r') => mg.takeR (l.drop (k + 1)) b' r' := by
  rw [drop_getD l .kind hk]
  rfl
theorem mg.grown_trans {a b c : World} {g : Nat} (h : a.grownBy b (some g)) (k : b.grownBy c (some g)) : a.grownBy c (some g) :=
  ⟨k.os.trans h.os, k.tape.trans h.tape, k.output.trans h.output, Nat.le_trans h.size k.size, fun i hi hne => (k.block i (Nat.lt_of_lt_of_le hi h.size) hne).trans (h.block i hi hne)⟩
theorem mg.grown_below {a b c : World} {g : Nat} (h : a.grownBy b (some g)) (k : Below b.heap.size b c) : a.grownBy c (some g) :=
  ⟨k.os.trans h.os, k.tape.trans h.tape, k.output.trans h.output, Nat.le_trans h.size k.size, fun i hi hne => (k.block i (Nat.lt_of_lt_of_le hi h.size)).trans (h.block i hi hne)⟩
def mg.TakeRes (base B : Nat) (S : Nat → Prop) (x : Option (List UInt8 × Request)) (w : World) (e : Ending) (w' : World) : Prop :=
  match x with
  | none => e = .returned (.tuple #[.slice none 0 0, .bool false]) ∧ w.grownBy w' (some B)
  | some (b', r') => ∃ Ab' cb' A' c', e = .returned (.tuple #[.slice Ab' b'.length cb', .bool true]) ∧ SlRep Rep.u8 w' S b' Ab' cb' ∧ mg.Rq w' base B r' A' c' ∧ w.grownBy w' (some B)
theorem mg.TakeRes.no {base B : Nat} {S : Nat → Prop} {x : Option (List UInt8 × Request)} {w w' : World} (h : x = none) (hg : w.grownBy w' (some B)) : mg.TakeRes base B S x w (.returned (.tuple #[.slice none 0 0, .bool false])) w' := by
  subst h; exact ⟨rfl, hg⟩
theorem mg.TakeRes.yes {base B : Nat} {S : Nat → Prop} {x : Option (List UInt8 × Request)} {w w' : World} {b' : List UInt8} {r' : Request} {Ab' A' : Option Addr} {cb' c' : Nat} (h : x = some (b', r')) (h1 : SlRep Rep.u8 w' S b' Ab' cb') (h2 : mg.Rq w' base B r' A' c') (hg : w.grownBy w' (some B)) :
    mg.TakeRes base B S x w (.returned (.tuple #[.slice Ab' b'.length cb', .bool true])) w' := by
  subst h; exact ⟨_, _, _, _, rfl, h1, h2, hg⟩

set_option maxHeartbeats 4000000 in
theorem msg_take (B base : Nat) (r : Request) (A : Option Addr) (c : Nat) (l : List mg.Sel) (Al : Option Addr) (cl lbase : Nat) (b : List UInt8) (Ab : Option Addr) (cb : Nat) (S : Nat → Prop) (w : World) (hR : mg.Rq w base B r A c)
    (hrow : Own w lbase 50 4 Al l.length cl (l.flatMap (mg.cells B))) (hne : ∀ k, blkOf Al = some k → k ≠ B) (hl : SlRep Rep.u8 w S b Ab cb) (hS : ∀ k, S k → k ≠ B ∧ k < w.heap.size) (hbs : base ≤ B) (hn : b.length ≤ 140737488351232) (hll : l.length ≤ 10) :
    Calls Try.prog 27 #[.slice Ab b.length cb, .slice Al l.length cl] w (mg.TakeRes base B S (mg.takeR l b r) w) := by
  have HS := Lib.hid hS
  have HNE := Lib.hid hne
  have H0 := Lib.hid (And.intro hR (And.intro hrow hl))
  clear hR hrow hl hS hne
  go_enter Try.func27, Try.ntmps27
  go_wp2
  generalize hln : l.length = n at *
  have HN := Lib.hid hln
  clear hln
  go_loopw [0, 12] (fun s0 s12 wr => ∃ (k : Nat) (bk : List UInt8) (rk : Request) (Abk : Option Addr) (cbk : Nat) (Ak : Option Addr) (ck : Nat), s0 = .slice Abk bk.length cbk ∧ s12 = .int .i64 k ∧ k ≤ n ∧ bk.length ≤ 140737488351232 ∧ Hid (mg.takeR (l.drop k) bk rk = mg.takeR l b r)
    ∧ Hid (SlRep Rep.u8 wr S bk Abk cbk) ∧ Hid (mg.Rq wr base B rk Ak ck) ∧ Hid (Own wr lbase 50 4 Al n cl (l.flatMap (mg.cells B))) ∧ Hid (w.grownBy wr (some B))) (fun _ s12 _ => n - (intOf s12).toNat)
  case atStart => exact ⟨0, b, r, Ab, cb, A, c, rfl, rfl, by omega, hn, Lib.hid rfl, Lib.hid H0.out.2.2, Lib.hid H0.out.1, Lib.hid H0.out.2.1, Lib.hid (World.grownBy.refl w _)⟩
  case round =>
    obtain ⟨k, bk, rk, Abk, cbk, Ak, ck, rfl, rfl, hk, hbk, HT, HB, HR, HO, HG⟩ := hrel
    clear H0
    rename World => wr
    by_cases hlt : k < n
    · have hlt2 : k < l.length := by rw [HN.out]; exact hlt
      obtain ⟨g, rfl, hg1, hg2, hgc⟩ := mg.row_at (by have := HO.out; rw [← HN.out] at this; exact this) hlt2
      have HST := Lib.hid (mg.take_step hlt2 bk rk)
      generalize hsl : l.getD k .kind = s at *
      clear hsl hlt2
      have HC : Hid (∀ o, Calls Try.prog 34 #[.agg (mg.cells B s).toArray, .slice Abk bk.length cbk] (wr.alloc o) (mg.GetRes base B S (mg.getR s bk rk) (wr.alloc o))) := Lib.hid (fun o =>
        msg_get B base rk Ak ck s bk Abk cbk S (wr.alloc o) (HR.out.next (balloc (bself wr) o)) (HB.out.keep fun k hk => ⟨hk, (balloc (bself wr) o).block k (Nat.lt_of_lt_of_le (HS.out k hk).2 HG.out.size)⟩) (fun k hk => ⟨(HS.out k hk).1, by rw [World.size_alloc]; have := (HS.out k hk).2; have := HG.out.size; omega⟩) hbs hbk)
      obtain ⟨a1, a2, a3, a4, hcs⟩ := mg.cells_four B s
      rw [hcs] at HC
      have x0 := hgc 0 (by omega)
      have x1 := hgc 1 (by omega)
      have x2 := hgc 2 (by omega)
      have x3 := hgc 3 (by omega)
      simp only [hcs, List.getElem?_cons_zero, List.getElem?_cons_succ, Nat.add_zero] at x0 x1 x2 x3
      clear hgc hcs
      cases hgr : mg.getR s bk rk with
      | none =>
        rw [hgr] at HC HST
        have HE : Hid (mg.takeR l b r = none) := Lib.hid (by rw [← HT.out, HST.out])
        clear hgr
        go_wp2_with (first | (go_at_call 34; refine (HC.out _).mono ?_; rintro e w6 ⟨rfl, hb6⟩; have HB6 := Lib.hid hb6; clear hb6) | fail)
        go_ret2
        exact mg.TakeRes.no HE.out (mg.grown_below HG.out ((balloc (bself wr) _).trans (HB6.out.mono (by simp))))
      | some x =>
        obtain ⟨b', r'⟩ := x
        rw [hgr] at HC HST
        have hbl := mg.getR_len hgr
        have HT2 : Hid (mg.takeR (l.drop (k + 1)) b' r' = mg.takeR l b r) := Lib.hid (by rw [← HT.out, HST.out])
        clear hgr
        go_wp2_with (first | (go_at_call 34; refine (HC.out _).mono ?_; rintro e w6 ⟨Ab6, cb6, A6, c6, rfl, hs6, hr6, hg6⟩; have HS6 := Lib.hid hs6; have HR6 := Lib.hid hr6; have HG6 := Lib.hid hg6; clear hs6 hr6 hg6) | fail)
        go_roundw
        case rel =>
          refine ⟨k + 1, b', r', Ab6, cb6, A6, c6, rfl, by simp, by omega, by omega, HT2, HS6, HR6, Lib.hid ?_, Lib.hid (mg.grown_trans (mg.grown_below HG.out (balloc (bself wr) _)) HG6.out)⟩
          exact (HO.out.alloc _).kept HG6.out (.inr (fun e => HNE.out B e rfl))
        case measure => simp [intOf]; omega
    · obtain rfl : k = n := by omega
      have HE : Hid (mg.takeR l b r = some (bk, rk)) := Lib.hid (by rw [← HT.out, List.drop_eq_nil_of_le (by rw [HN.out]; exact Nat.le_refl _)]; rfl)
      go_wp2
      go_ret2
      exact mg.TakeRes.yes HE.out HB.out HR.out HG.out
end Go.Proofs.Ytcpbgiikfabaaaa
