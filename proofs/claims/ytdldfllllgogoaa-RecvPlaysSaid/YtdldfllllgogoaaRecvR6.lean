/- The reference of recv: arrives. No condition. -/
import Derived.Test.YtdldfllllgogoaaRecvR5
namespace Go.Proofs.Ytdldfllllgogoaa
open Go.RowKit Go.Maps Go.WideShapes Go.ChangeMaps Go.MapKept
set_option linter.unusedSimpArgs false

def rv.endOf (s : rv.St) : Int := if s.end_ = -1 then 0 else s.end_
def rv.knownOf (s : rv.St) : Bool := decide (0 ≤ s.end_)
/-- the reference's hearer is like this one -/
def IS (w : World) (G Mb n : Nat) (room : Int) (s : rv.St) : Prop := IAt w G Mb n room s.taken (rv.endOf s) (rv.knownOf s) (rv.mapF s)
theorem IAt.stays {w w' : World} {G Mb n : Nat} {room taken end_ : Int} {known : Bool} {f : Int → Option Value} {No : Nat → Prop} (h : IAt w G Mb n room taken end_ known f) (hs : Stays w w' No) (h1 : ¬ No G) (h2 : ¬ No Mb) : IAt w' G Mb n room taken end_ known f := ⟨h.blk.stays hs h1, h.map.stays hs h2⟩
theorem IAt.two {w : World} {G Mb n : Nat} {room taken end_ : Int} {known : Bool} {f : Int → Option Value} (h : IAt w G Mb n room taken end_ known f) : Mb ≠ G := h.map.ne_cells h.blk
def GM (G Mb k : Nat) : Prop := k = G ∨ k = Mb
theorem Stays.grown {w w' : World} {r : Nat} (hg : w.grownBy w' (some r)) : Stays w w' (fun k => k = r) := ⟨hg.os, hg.tape, hg.output, hg.size, fun k hk hn => hg.block k hk (fun e => hn (by cases e; rfl))⟩
section
variable {P : Program} {k e t : TypeId} {w : World} {b n : Nat} {m : Lit → Option Value} {ops : Array Oper} {o : Oper} {a : Act} {Q : Exit → Act → World → Prop} {K : Act → World → Prop} {E : Prop}
theorem step_mput (hg : o.guard = none) (mm x v : Operand) (t : TypeId) (hop : o.op = Op.mapUpdate t mm x v) (KD : Keyed P k) (ht : P.underlying t = some (.map k e)) (hm : a.eval mm = .map (some b)) (h : MapV w P k b n m) (hn : n < maxLen)
    (key val : Value) (hx : a.eval x = key) (hv : a.eval v = val) {kl : Lit} (hkey : keyOf P k key = some kl) (hK : ∀ w', MapV w' P k b (n + 1) (mapPut m kl val) → w.grownBy w' (some b) → K (a.put o.dst undef) w') :
    if Region.wanted o (yielded ops a.tmps) = true then Oper.wp P o a w K Q else E := by
  have hw : Region.wanted o (yielded ops a.tmps) = true := by simp [Region.wanted, hg]
  rw [if_pos hw]
  obtain ⟨w', hr, h1, h2⟩ := h.put KD ht hn hkey val
  unfold Oper.wp
  simp [execOp, hop, hm, hx, hv, hr, Result.andThen]
  exact hK w' h1 h2
end
def InRes (w : World) (G Mb n m : Nat) (room : Int) (r : Int × rv.St) (e : Ending) (w' : World) : Prop :=
  ∃ n', n' ≤ n + m ∧ e = .returned (.int .i64 r.1) ∧ IS w' G Mb n' room r.2 ∧ Stays w w' (GM G Mb)
theorem InRes.no {w w' : World} {G Mb n m : Nat} {room : Int} {s : rv.St} {r : Int × rv.St} {c : Int} (h : IS w G Mb n room s) (hr : r = (c, s)) (hb : Below w.heap.size w w') : InRes w G Mb n m room r (.returned (.int .i64 c)) w' := by
  subst hr
  exact ⟨n, by omega, rfl, h.next hb, Stays.of_below hb _⟩
theorem rv.elemI : ElemT Try.prog 149 3 1 8 := ElemT.of Try.underlying149 (z := .int .i64 0) (by kernel_rfl) rfl (by decide)
/-- so many bytes were looked at -/
structure Fil (w wr : World) (G Mb n n2 : Nat) (room : Int) (s : rv.St) (a : Arrival) (k : Nat) (A : Option Addr) (c : Nat) (Lf : List Int) (ca : Array Value) : Prop where
  at_ : IAt wr G Mb n2 room s.taken (rv.endOf s) (rv.knownOf s) (rv.fill room s a k)
  own : Own wr (w.heap.size + 1) 3 1 A Lf.length c (Lf.map (Value.int .i64))
  arg : BlkA wr w.heap.size 73 ca
  stay : Stays w wr (fun q => q = Mb)
  few : n2 ≤ n + k ∧ Lf.length ≤ k
  none_ : ∀ x, x ∈ Lf → rv.mapF s x = none
  rng : ∀ x, x ∈ Lf → 0 ≤ x ∧ x ≤ 1048576
  all : ∀ x, rv.mapF s x = none → rv.fill room s a k x ≠ none → x ∈ Lf
theorem Fil.skip {w wr wx : World} {G Mb n n2 : Nat} {room : Int} {s : rv.St} {a : Arrival} {k : Nat} {A : Option Addr} {c : Nat} {Lf : List Int} {ca : Array Value} (h : Fil w wr G Mb n n2 room s a k A c Lf ca) (he : rv.fill room s a (k + 1) = rv.fill room s a k) (hb : Below wr.heap.size wr wx) : Fil w wx G Mb n n2 room s a (k + 1) A c Lf ca :=
  ⟨by rw [he]; exact h.at_.next hb, h.own.next hb, h.arg.next hb, h.stay.trans (Stays.of_below hb (fun _ => False)) (fun _ _ e => e.elim), ⟨by have := h.few.1; omega, by have := h.few.2; omega⟩, h.none_, h.rng, fun x h1 h2 => h.all x h1 (by rw [he] at h2; exact h2)⟩
theorem Fil.put {w wr w5 w6 : World} {G Mb n n2 : Nat} {room : Int} {s : rv.St} {a : Arrival} {k : Nat} {A A6 : Option Addr} {c c6 : Nat} {Lf : List Int} {ca : Array Value} {p : Int} {x : UInt8} (h : Fil w wr G Mb n n2 room s a k A c Lf ca) (hw : w.heap.size < wr.heap.size) (hGw : G < w.heap.size) (hMw : Mb < w.heap.size) (hp : p = a.from_ + k) (hpb : 0 ≤ p ∧ p ≤ 1048575) (hnp : rv.mapF s p = none) (he : rv.fill room s a (k + 1) = fun q => if q = p then some (rv.u8v x) else rv.fill room s a k q)
    (hm : MapV w5 Try.prog 3 Mb (n2 + 1) (mapI (rv.fill room s a (k + 1)))) (hs : Stays wr w5 (fun q => q = Mb)) (hb : Below w5.heap.size w5 w6) {w7 : World} (hg : Grew w6 w7 A A6) (ho : Own w7 (w.heap.size + 1) 3 1 A6 (Lf.length + 1) c6 (Lf.map (Value.int .i64) ++ [.int .i64 p])) : Fil w w7 G Mb n (n2 + 1) room s a (k + 1) A6 c6 (Lf ++ [p]) ca := by
  have hA := h.own.lt
  have hne := h.at_.two
  have st : Stays wr w7 (fun q => q = Mb ∨ blkOf A = some q) := ((hs.mono fun _ _ e => .inl e).comp (Stays.of_below hb _)).comp ((Stays.grew hg).mono fun _ _ e => .inr e)
  refine ⟨⟨h.at_.blk.stays st (fun e => ?_), ?_⟩, ?_, h.arg.stays st (fun e => ?_), h.stay.trans st (fun q hq e => ?_), ⟨by have := h.few.1; omega, by have := h.few.2; simp only [List.length_append, List.length_cons, List.length_nil]; omega⟩, fun y hy => ?_, fun y hy => ?_, fun y h1 h2 => ?_⟩
  · rcases e with e | e
    · exact hne e.symm
    · have := (hA _ e).1; omega
  · have h2 := hm.next hb
    refine h2.kept hg.grown (fun e => ?_)
    have := (hA _ e).1; omega
  · rw [List.map_append, List.length_append]
    exact ho
  · rcases e with e | e
    · omega
    · have := (hA _ e).1; omega
  · rcases e with e | e
    · exact e
    · have := (hA _ e).1; omega
  · rcases List.mem_append.1 hy with hy | hy
    · exact h.none_ y hy
    · rw [List.mem_singleton] at hy
      rw [hy]; exact hnp
  · rcases List.mem_append.1 hy with hy | hy
    · exact h.rng y hy
    · rw [List.mem_singleton] at hy
      omega
  · rw [he] at h2
    by_cases e : y = p
    · rw [e]; simp
    · simp only [if_neg e] at h2
      exact List.mem_append_left _ (h.all y h1 h2)
open Classical in
/-- all that was laid is taken out again -/
theorem Fil.back {w wr : World} {G Mb n n2 : Nat} {room : Int} {s : rv.St} {a : Arrival} {k : Nat} {A : Option Addr} {c : Nat} {Lf : List Int} {ca : Array Value} (h : Fil w wr G Mb n n2 room s a k A c Lf ca) : (fun x => if x ∈ Lf then none else rv.fill room s a k x) = rv.mapF s := by
  funext x
  by_cases hx : rv.mapF s x = none
  · rw [hx]
    by_cases hm : x ∈ Lf
    · rw [if_pos hm]
    · rw [if_neg hm]
      cases hf : rv.fill room s a k x with
      | none => rfl
      | some v => exact absurd (h.all x hx (by rw [hf]; simp)) hm
  · have hm : x ∉ Lf := fun hm => hx (h.none_ x hm)
    rw [if_neg hm]
    unfold rv.fill
    rw [if_neg (fun e => hx (rv.mapF_none.2 e.1))]
def NoSt (s : rv.St) (t : Int) (fin : Bool) : Prop := 0 ≤ s.end_ → t ≤ s.end_ ∧ (fin = true → t = s.end_)

open Classical in
set_option maxRecDepth 100000 in
set_option maxHeartbeats 4000000 in
theorem ref_arrives (G Mb n : Nat) (room : Int) (s : rv.St) (a : Arrival) (Ga : Option Addr) (gc : Nat) (S : Nat → Prop) (w : World) (h : IS w G Mb n room s) (hi : rv.Inv room s) (hr : 1 ≤ room ∧ room ≤ 4096) (hG : SlRep Rep.u8 w S a.data Ga gc) (hS : ∀ k, S k → k < w.heap.size ∧ ¬ GM G Mb k) (ha : IntOk a.from_) (hd : a.data.length ≤ 140737488351232) (hn : n ≤ 1000000) :
    Calls Try.prog 42 #[.pointer (some ⟨G, 0, none⟩), .agg #[.int .i64 a.kind, .int .i64 a.from_, .slice Ga a.data.length gc, .bool a.fin, .int .i64 a.count]] w (InRes w G Mb n 64 room (rv.arrive room s a)) := by
  obtain ⟨ak, af, ad, an, ac⟩ := a
  simp only at hG ha hd ⊢
  unfold IntOk at ha
  have H := Lib.hid h
  have HI := Lib.hid hi
  have HG := Lib.hid hG
  have HS := Lib.hid hS
  have hFl := h.blk.lt
  have hMl := h.map.lt
  obtain ⟨al, hal⟩ : ∃ al : Nat, al = ad.length := ⟨_, rfl⟩
  have HAL := Lib.hid hal
  have KEY := Lib.hid (fun (c : Int) (hc : rv.arrive room s ⟨ak, af, ad, an, ac⟩ = (c, s)) w' (hb : Below w.heap.size w w') => (InRes.no h hc hb : InRes w G Mb n 64 room (rv.arrive room s ⟨ak, af, ad, an, ac⟩) (.returned (.int .i64 c)) w'))
  have HA2 : Hid (af < 0 ∨ 1048576 ≤ af ∨ 1048576 ≤ af + al → rv.arrive room s ⟨ak, af, ad, an, ac⟩ = (2, s)) := Lib.hid (fun h => rv.arrive_range (by rw [hal] at h; exact h))
  have HA1 : Hid (¬ (af < 0 ∨ 1048576 ≤ af ∨ 1048576 ≤ af + al) → 64 < al → rv.arrive room s ⟨ak, af, ad, an, ac⟩ = (1, s)) := Lib.hid (fun h h2 => rv.arrive_size (by rw [hal] at h; exact h) (by rw [hal] at h2; exact h2))
  rw [← hal] at hd ⊢
  clear h hi hG hS hal
  by_cases c1 : af < 0
  · have HR := Lib.hid (HA2.out (.inl c1))
    go_enter Try.func42, Try.ntmps42
    go_wp2
    go_ret
    exact KEY.out _ HR.out _ (by repeat (first | (with_reducible exact Below.refl _ _) | (with_reducible assumption) | (with_reducible refine bset ?_ ?_ _) | (with_reducible refine balloc ?_ _) | (with_reducible refine Below.drew ?_) | (with_reducible refine bdrewN ?_ _) | (with_reducible refine bnext ?_ (by with_reducible assumption)) | exact Nat.le_refl _ | (simp; done) | omega | (simp; omega)))
  by_cases c2 : 1048576 < af
  · have HR := Lib.hid (HA2.out (.inr (.inl (by omega))))
    go_enter Try.func42, Try.ntmps42
    go_wp2
    go_ret
    exact KEY.out _ HR.out _ (by repeat (first | (with_reducible exact Below.refl _ _) | (with_reducible assumption) | (with_reducible refine bset ?_ ?_ _) | (with_reducible refine balloc ?_ _) | (with_reducible refine Below.drew ?_) | (with_reducible refine bdrewN ?_ _) | (with_reducible refine bnext ?_ (by with_reducible assumption)) | exact Nat.le_refl _ | (simp; done) | omega | (simp; omega)))
  by_cases c3 : 1048575 < af + al
  · have HR := Lib.hid (HA2.out (.inr (.inr (by omega))))
    go_enter Try.func42, Try.ntmps42
    go_wp2
    go_ret
    exact KEY.out _ HR.out _ (by repeat (first | (with_reducible exact Below.refl _ _) | (with_reducible assumption) | (with_reducible refine bset ?_ ?_ _) | (with_reducible refine balloc ?_ _) | (with_reducible refine Below.drew ?_) | (with_reducible refine bdrewN ?_ _) | (with_reducible refine bnext ?_ (by with_reducible assumption)) | exact Nat.le_refl _ | (simp; done) | omega | (simp; omega)))
  by_cases c4 : 64 < al
  · have HR := Lib.hid (HA1.out (by omega) c4)
    have c4' : (64 : Int) < (al : Int) := by omega
    go_enter Try.func42, Try.ntmps42
    go_wp2
    go_ret
    exact KEY.out _ HR.out _ (by repeat (first | (with_reducible exact Below.refl _ _) | (with_reducible assumption) | (with_reducible refine bset ?_ ?_ _) | (with_reducible refine balloc ?_ _) | (with_reducible refine Below.drew ?_) | (with_reducible refine bdrewN ?_ _) | (with_reducible refine bnext ?_ (by with_reducible assumption)) | exact Nat.le_refl _ | (simp; done) | omega | (simp; omega)))
  clear HA1 HA2
  have c4' : ¬ (64 : Int) < (al : Int) := by omega
  have hh : ¬ (af < 0 ∨ 1048576 ≤ af ∨ 1048576 ≤ af + (ad.length : Int)) := by rw [← HAL.out]; omega
  have hh2 : ¬ 64 < ad.length := by rw [← HAL.out]; exact c4
  obtain ⟨t, ht⟩ : ∃ t, af + (al : Int) = t := ⟨_, rfl⟩
  have hto : rv.to_ ⟨ak, af, ad, an, ac⟩ = t := by unfold rv.to_; simp only; rw [← HAL.out]; exact ht
  have HBAD : Hid ((0 ≤ s.end_ ∧ (s.end_ < t ∨ an = true ∧ t ≠ s.end_)) ∨ an = true ∧ (t < s.done ∨ ∃ k, rv.mapF s k ≠ none ∧ t ≤ k) → rv.arrive room s ⟨ak, af, ad, an, ac⟩ = (10, s)) := Lib.hid (fun h => rv.state_of HI.out hh hh2 (by rw [hto]; exact h))
  have HGO := Lib.hid (fun h3 => rv.arrive_filled (a := ⟨ak, af, ad, an, ac⟩) HI.out hh hh2 (by rw [hto]; exact h3))
  rw [hto] at HGO
  simp only at HGO
  have htb : 0 ≤ t ∧ t < 1048576 := by omega
  have HT := Lib.hid ht
  have hlo := HI.out.lo
  have htop := HI.out.top
  clear hh hh2 hto
  have HMID : Hid (ArrMid w (w.alloc (.cells #[.int .i64 ak, .int .i64 af, .slice Ga al gc, .bool an, .int .i64 ac] 73)) ak af Ga al gc an ac) := Lib.hid ⟨balloc (bself w) _, BlkA.new _ _ _⟩
  go_enter Try.func42, Try.ntmps42
  go_upto_region 6 with fail
  obtain ⟨w1, hw1⟩ : ∃ w1, w1 = w.alloc (.cells #[.int .i64 ak, .int .i64 af, .slice Ga al gc, .bool an, .int .i64 ac] 73) := ⟨_, rfl⟩
  rw [← hw1] at HMID ⊢
  clear hw1 ht
  have hA1 := H.out.next HMID.out.below
  have c0 := hA1.blk.get 0
  have c2' := hA1.blk.get 2
  have c3' := hA1.blk.get 3
  have c4'' := hA1.blk.get 4
  have g1 := HMID.out.arg.get 1
  have g2 := HMID.out.arg.get 2
  have g3 := HMID.out.arg.get 3
  simp only [List.getElem?_toArray, List.getElem?_cons_succ, List.getElem?_cons_zero] at c0 c2' c3' c4'' g1 g2 g3
  have hF1 := hA1.blk.lt
  have hz1 : w.heap.size < w1.heap.size := HMID.out.arg.lt
  have HA1 := Lib.hid hA1
  clear hA1
  obtain ⟨q, HQ⟩ : ∃ q : Bool, Hid (q = decide (0 ≤ s.end_ ∧ (s.end_ < t ∨ an = true ∧ t ≠ s.end_))) := ⟨_, Lib.hid rfl⟩
  go_cut [65] (fun s65 wx => s65 = .bool q ∧ w1 = wx)
  case first =>
    obtain ⟨e, he⟩ : ∃ e, e = rv.endOf s := ⟨_, rfl⟩
    have HE := Lib.hid he
    rw [← he] at c3'
    clear he
    by_cases k0 : 0 ≤ s.end_
    · have hk : rv.knownOf s = true := by unfold rv.knownOf; simpa using k0
      have hee : e = s.end_ := by rw [HE.out]; unfold rv.endOf; rw [if_neg (by omega)]
      rw [hk] at c4''
      have HEE := Lib.hid hee
      rw [← hee] at HQ k0
      clear hk hee HBAD
      by_cases k1 : e < t
      · have hq : q = true := by rw [HQ.out]; simpa using ⟨k0, .inl k1⟩
        clear HQ
        go_wp2
        go_meet
        exact ⟨by rw [hq], rfl⟩
      · cases an with
        | false =>
          have hq : q = false := by rw [HQ.out]; simp; omega
          clear HQ
          go_wp2
          go_meet
          exact ⟨by rw [hq], rfl⟩
        | true =>
          by_cases k2 : t = e
          · have hq : q = false := by rw [HQ.out]; simp; omega
            have k2' : (t != e) = false := by simpa using k2
            clear HQ k2
            go_wp2
            go_meet
            exact ⟨by rw [hq], rfl⟩
          · have hq : q = true := by rw [HQ.out]; simp; omega
            have k2' : (t != e) = true := by simpa using k2
            clear HQ k2
            go_wp2
            go_meet
            exact ⟨by rw [hq], rfl⟩
    · have hk : rv.knownOf s = false := by unfold rv.knownOf; simpa using k0
      have hq : q = false := by rw [HQ.out]; simp; omega
      rw [hk] at c4''
      clear hk HQ HBAD
      go_wp2
      go_meet
      exact ⟨by rw [hq], rfl⟩
  case rest =>
    obtain ⟨rfl, rfl⟩ := hcut
    cases q with
    | true =>
      have HR := Lib.hid (HBAD.out (.inl (of_decide_eq_true HQ.out.symm)))
      go_wp2
      go_ret
      exact KEY.out _ HR.out _ (HMID.out.below.trans (Below.mono (bself _) HMID.out.below.size))
    | false =>
      have hns : NoSt s t an := fun h0 => by
        have h1 := of_decide_eq_false HQ.out.symm
        exact ⟨by omega, fun h2 => by
          by_cases h3 : t = s.end_
          · exact h3
          · exact absurd ⟨h0, .inr ⟨h2, h3⟩⟩ h1⟩
      have HNS := Lib.hid hns
      clear hns HQ c3' c4''
      go_upto_if 67 with (fail)
      go_cut [] (fun wx => Hid (Below w1.heap.size w1 wx) ∧ Hid (Pass s t an))
      case first =>
        cases an with
        | false =>
          have HPS : Hid (Pass s t false) := Lib.hid ⟨HNS.out, fun e => by cases e⟩
          go_wp2
          go_meet
          exact ⟨Lib.hid (bself _), HPS⟩
        | true =>
          have hdn : 0 ≤ s.done := by omega
          have HLOW := Lib.hid (ref_Low G Mb n room s.taken (rv.endOf s) s.done (rv.knownOf s) (rv.mapF s) w1 HA1.out hlo.1 hlo.2.1 (by omega) (fun k h1 h2 => rv.mapF_came.2 (.inl ⟨by omega, h2⟩)) (rv.mapF_none.2 (rv.low_not HI.out)))
          by_cases k3 : t < s.done
          · have HR := Lib.hid (HBAD.out (.inr ⟨rfl, .inl k3⟩))
            go_wp2_with (first
              | (go_at_call 43; ((with_reducible refine HLOW.out.mono ?_); rintro e w2 ⟨rfl, hb2⟩; have HB2 := Lib.hid hb2; clear hb2))
              | fail)
            go_ret
            exact KEY.out _ HR.out _ (HMID.out.below.trans (HB2.out.mono HMID.out.below.size))
          · have k3' : ¬ s.done > t := k3
            go_upto_region 11 with (first
              | (go_at_call 43; ((with_reducible refine HLOW.out.mono ?_); rintro e w2 ⟨rfl, hb2⟩; have HB2 := Lib.hid hb2; clear hb2))
              | fail)
            have hA2 := HA1.out.next HB2.out
            have c1 := hA2.blk.get 1
            simp only [List.getElem?_toArray, List.getElem?_cons_succ, List.getElem?_cons_zero] at c1
            have HA2 := Lib.hid hA2
            have hM2 : Mb < w2.heap.size := hA2.map.lt
            clear hA2
            have HRGF : Hid (∀ wq left cnt, MapR wq Try.prog 3 Mb w2.heap.size n (mapI (rv.mapF s)) left cnt → (∀ kl, WideAt.IsKeyLit kl → mapI (rv.mapF s) kl ≠ none → left kl = true) → w2.grownBy wq none → wq.heap.size = w2.heap.size + 1 → Hid (MapR wq Try.prog 3 Mb w2.heap.size n (mapI (rv.mapF s)) left cnt ∧ Below w1.heap.size w1 wq ∧ w2.heap.size < wq.heap.size ∧ ∀ k : Int, rv.mapF s k ≠ none → k < t ∨ left (.int .i64 k) = true)) := Lib.hid (fun wq left cnt hrg hl hg hz => Lib.hid ⟨hrg, HB2.out.trans ((Below.refl _ _).grown hg HB2.out.size (fun j hj => by cases hj)), by omega, fun k hk => .inr (hl (.int .i64 k) (by trivial) hk)⟩)
            go_wp2_with (at_range; refine wp_mrange _ rfl _ _ rfl _ (Go.Maps.int_keyed Try.underlying3) Try.underlying68 rfl HA2.out.map ?_; intro wq0 left0 cnt0 hrg hleft hg hsz; have HRG := HRGF.out wq0 left0 cnt0 hrg hleft hg hsz; clear hrg hleft hg hsz)
            try go_frame
            go_loopw [] (fun wq => ∃ left cnt, Hid (MapR wq Try.prog 3 Mb w2.heap.size n (mapI (rv.mapF s)) left cnt ∧ Below w1.heap.size w1 wq ∧ w2.heap.size < wq.heap.size ∧ ∀ k : Int, rv.mapF s k ≠ none → k < t ∨ left (.int .i64 k) = true)) (fun wq => wq.rangeLeft Mb w2.heap.size)
            case atStart => exact ⟨_, _, HRG⟩
            case round =>
              obtain ⟨left, cnt, HRX⟩ := hrel
              rename World => wq
              go_wp2_with (at_next; refine wp_mnext _ rfl _ rfl (Go.Maps.int_keyed Try.underlying3) (fun x : Int => Value.int .i64 x) (fun x : UInt8 => Value.int .u8 (x.toNat : Int)) (fun key kl u hk hu => ?_) (fun kl u hu => ?_) rfl HRX.out.1 ?_ ?_)
              · obtain ⟨x, rfl, _, _⟩ := Maps.keyOf_int_inv Try.underlying3 hk
                exact ⟨x, rfl⟩
              · unfold mapI at hu
                split at hu
                · exact rv.mapF_u8 hu
                · cases hu
              · intro hl0
                have HPS : Hid (Pass s t true) := Lib.hid (rv.pass_iff HI.out htb.1 HNS.out (fun _ => ⟨by omega, fun k hk => by
                  rcases HRX.out.2.2.2 k hk with h | h
                  · exact h
                  · rw [hl0] at h; cases h⟩))
                have HBX := Lib.hid HRX.out.2.1
                clear HRX hl0
                go_wp2
                go_meet
                exact ⟨HBX, HPS⟩
              · intro x cc kl w3 cnt1 hkey hlk hmk hrg1 hlt hg1 hs1 hen
                obtain ⟨x', hx', hkl, hwf⟩ := Maps.keyOf_int_inv Try.underlying3 hkey
                simp only [Value.int.injEq, true_and] at hx'
                subst hx'
                subst hkl
                have hmx : rv.mapF s x ≠ none := by
                  rw [mapI_at] at hmk
                  rw [hmk]
                  simp
                have HBX : Hid (Below w1.heap.size w1 w3) := Lib.hid (HRX.out.2.1.grown hg1 HRX.out.2.1.size (fun j hj => by cases hj; exact HB2.out.size))
                by_cases k4 : t ≤ x
                · have HR := Lib.hid (HBAD.out (.inr ⟨by trivial, .inr ⟨x, hmx, k4⟩⟩))
                  clear HRX hkey hmk hrg1 hg1 hmx hlk
                  go_wp2
                  go_ret
                  exact KEY.out _ HR.out _ (HMID.out.below.trans (HBX.out.mono HMID.out.below.size))
                · have k4' : ¬ x ≥ t := k4
                  have HRN : Hid (MapR w3 Try.prog 3 Mb w2.heap.size n (mapI (rv.mapF s)) (fun z => left z && !z.sameKey (.int .i64 x)) cnt1 ∧ Below w1.heap.size w1 w3 ∧ w2.heap.size < w3.heap.size ∧ ∀ k : Int, rv.mapF s k ≠ none → k < t ∨ (left (.int .i64 k) && !(Lit.int .i64 k).sameKey (.int .i64 x)) = true) := Lib.hid ⟨hrg1, HBX.out, by rw [hs1]; exact HRX.out.2.2.1, fun k hk => by
                    by_cases hkx : k = x
                    · left; omega
                    · refine (HRX.out.2.2.2 k hk).imp id (fun h => ?_)
                      rw [h, sameKey_ne (fun e => hkx (by injection e))]
                      rfl⟩
                  have HLE := Lib.hid (And.intro HRX.out.1.left_eq hrg1.left_eq)
                  clear HRX hkey hmk hrg1 hg1 hmx hlk
                  go_wp2
                  go_roundw
                  case rel => exact ⟨_, cnt1, HRN⟩
                  case measure => rw [HLE.out.1, HLE.out.2]; exact hlt
      case rest =>
        obtain ⟨HB2, HPS⟩ := hcut
        rename World => w2
        have HA2 := Lib.hid (HA1.out.next HB2.out)
        have HR2 := Lib.hid (HMID.out.arg.next HB2.out)
        have hB02 : Below w.heap.size w w2 := HMID.out.below.trans (HB2.out.mono HMID.out.below.size)
        have HB02 := Lib.hid hB02
        have HLOW := Lib.hid (ref_Low G Mb n room s.taken (rv.endOf s) s.done (rv.knownOf s) (rv.mapF s) w2 HA2.out hlo.1 hlo.2.1 (by omega) (fun k h1 h2 => rv.mapF_came.2 (.inl ⟨by omega, h2⟩)) (rv.mapF_none.2 (rv.low_not HI.out)))
        clear hB02 HB2 HNS HMID HA1 hz1 hF1 g1 g2 g3 c0 c2'
        go_upto_region 17 with (first
          | (go_at_call 43; ((with_reducible refine HLOW.out.mono ?_); rintro e w3 ⟨rfl, hb3⟩; have HB3 := Lib.hid hb3; clear hb3))
          | fail)
        have HR3 := Lib.hid (HR2.out.next HB3.out)
        have HF0 : Hid (Fil w w3 G Mb n n room s ⟨ak, af, ad, an, ac⟩ 0 none 0 [] #[.int .i64 ak, .int .i64 af, .slice Ga al gc, .bool an, .int .i64 ac]) := Lib.hid ⟨by rw [rv.fill_zero]; exact HA2.out.next HB3.out, Own.nil _ _ _ _, HR3.out, Stays.of_below (HB02.out.trans (HB3.out.mono HB02.out.size)) _, ⟨by omega, by simp⟩, fun x hx => (by cases hx), fun x hx => (by cases hx), fun x h1 h2 => absurd (by rw [rv.fill_zero]; exact h1) h2⟩
        have hz3 := HR3.out.lt
        have g2 := HR3.out.get 2
        simp only [List.getElem?_toArray, List.getElem?_cons_succ, List.getElem?_cons_zero] at g2
        clear HLOW HB3 HR2 HA2 HB02 HR3
        go_wp2
        go_loopw [8, 89] (fun s8 i wr => ∃ (k n2 : Nat) (A : Option Addr) (c : Nat) (Lf : List Int), k ≤ al ∧ i = .int .i64 k ∧ s8 = .slice A Lf.length c ∧ Hid (Fil w wr G Mb n n2 room s ⟨ak, af, ad, an, ac⟩ k A c Lf #[.int .i64 ak, .int .i64 af, .slice Ga al gc, .bool an, .int .i64 ac])) (fun _ i _ => al - (intOf i).toNat)
        case atStart => exact ⟨0, n, none, 0, [], by omega, rfl, rfl, HF0⟩
        case round =>
          obtain ⟨k, n2, A, c, Lf, hk, rfl, rfl, HR⟩ := hrel
          rename World => wr
          by_cases hlt : k < al
          · --[v
            have hA := HR.out.at_
            have hlt' : (k : Int) < (al : Int) := by omega
            obtain ⟨p, hp⟩ : ∃ p, af + (k : Int) = p := ⟨_, rfl⟩
            have hpb : 0 ≤ p ∧ p ≤ 1048575 := by omega
            have HP := Lib.hid hp
            have c0 := hA.blk.get 0
            have c1 := hA.blk.get 1
            have c2' := hA.blk.get 2
            have g1 := HR.out.arg.get 1
            have g2 := HR.out.arg.get 2
            simp only [List.getElem?_toArray, List.getElem?_cons_succ, List.getElem?_cons_zero] at c0 c1 c2' g1 g2
            have hFr := hA.blk.lt
            have hzr := HR.out.arg.lt
            obtain ⟨gb, ob, rfl, hsb, hce⟩ := u8_at (HG.out.keep (S' := S) fun q hq => ⟨hq, HR.out.stay.block q (HS.out q hq).1 (fun e => (HS.out q hq).2 (.inr e))⟩) (k := k) (by rw [← HAL.out]; exact hlt)
            have hgb : gb < wr.heap.size := Nat.lt_of_lt_of_le (HS.out gb hsb).1 HR.out.stay.size
            have hgM : gb ≠ Mb := fun e => (HS.out gb hsb).2 (.inr e)
            have HV0 : Hid (mapI (rv.fill room s ⟨ak, af, ad, an, ac⟩ k) (.int .i64 p) = rv.mapF s p) := Lib.hid (by rw [mapI_at, ← hp]; exact rv.fill_at (a := ⟨ak, af, ad, an, ac⟩))
            have HWF : Hid ((Lit.int .i64 p).wf = true) := Lib.hid (wf_i64 (by unfold IntOk; omega))
            have ew : IntKind.i64.wrap (s.taken + room) = s.taken + room := IntWalk.i64_in _ (by omega)
            have ew2 : IntKind.i64.wrap (af + (k : Int)) = p := by rw [hp]; exact IntWalk.i64_in _ (by omega)
            have HSKI : Hid (¬ (rv.mapF s p = none ∧ s.done ≤ p ∧ p < s.taken + room) → rv.fill room s ⟨ak, af, ad, an, ac⟩ (k + 1) = rv.fill room s ⟨ak, af, ad, an, ac⟩ k) := Lib.hid (fun h => rv.fill_skip (a := ⟨ak, af, ad, an, ac⟩) (fun h2 => h (by simp only [HP.out] at h2; exact ⟨rv.mapF_none.2 h2.1, h2.2⟩)))
            clear hA
            cases hm : rv.mapF s p with
            | some u =>
              have HV : Hid (mapI (rv.fill room s ⟨ak, af, ad, an, ac⟩ k) (.int .i64 p) = some u) := Lib.hid (by rw [HV0.out]; exact hm)
              have HSK := Lib.hid (HSKI.out (fun h => by rw [hm] at h; cases h.1))
              clear hm HSKI HV0
              go_wp2_with (first
                | (at_lookup; refine wp_mlook_ok _ rfl _ _ _ rfl (Go.Maps.int_keyed Try.underlying3) Try.underlying68 (z := .int .u8 0) (by kernel_rfl) rfl HR.out.at_.map _ rfl (Go.Maps.keyOf_int_mk Try.underlying3 HWF.out) ?_; rw [HV.out])
                | fail)
              go_quiet (fail)
              go_wp2
              go_roundw
              case rel => exact ⟨k + 1, n2, A, c, Lf, by omega, by go_num, rfl, Lib.hid (HR.out.skip HSK.out (bdrewN (bself _) _))⟩
              case measure => simp [intOf]; omega
            | none =>
              have HV : Hid (mapI (rv.fill room s ⟨ak, af, ad, an, ac⟩ k) (.int .i64 p) = none) := Lib.hid (by rw [HV0.out]; exact hm)
              have HNP := Lib.hid hm
              clear hm HV0
              by_cases k1 : s.done ≤ p
              · by_cases k2 : p < s.taken + room
                · clear HSKI
                  have HPUT := Lib.hid (rv.fill_put (a := ⟨ak, af, ad, an, ac⟩) (i := k) (by simp only; rw [← HAL.out]; exact hlt) (by simp only [HP.out]; exact rv.mapF_none.1 HNP.out) (by simp only [HP.out]; exact k1) (by simp only [HP.out]; exact k2))
                  simp only [HP.out] at HPUT
                  generalize ad.getD k 0 = x at *
                  have k1' : p ≥ s.done := k1
                  go_wp2_with (first
                    | (at_lookup; refine wp_mlook_ok _ rfl _ _ _ rfl (Go.Maps.int_keyed Try.underlying3) Try.underlying68 (z := .int .u8 0) (by kernel_rfl) rfl HR.out.at_.map _ rfl (Go.Maps.keyOf_int_mk Try.underlying3 HWF.out) ?_; rw [HV.out])
                    | fail)
                  go_quiet (fail)
                  go_upto_region 24 with (fail)
                  have hput := fun m : Nat => (HR.out.at_.map.drewN m).put (Go.Maps.int_keyed Try.underlying3) Try.underlying68 (by have := HR.out.few.1; unfold maxLen; omega) (Go.Maps.keyOf_int_mk Try.underlying3 HWF.out) (.int .u8 (x.toNat : Int))
                  obtain ⟨wf, hwf⟩ := Classical.skolem.1 hput
                  have HWFF := Lib.hid (fun m => (hwf m).2)
                  have hrun := fun m => (hwf m).1
                  clear hwf hput
                  go_region_law (fail)
                  all_goals
                    have hm5 := (HWFF.out (nq + 1)).1
                    have hg5 := (HWFF.out (nq + 1)).2
                    clear hrun HWFF
                    generalize wf (nq + 1) = w5 at *
                    have hs5 : Stays wr w5 (fun q => q = Mb) := (Stays.of_below (bdrewN (bself _) _) _).comp (Stays.grown hg5)
                    have HS5 := Lib.hid hs5
                    have HO5 : Hid (Own w5 (w.heap.size + 1) 3 1 A Lf.length c (Lf.map (Value.int .i64))) := Lib.hid (HR.out.own.stays hs5 (fun q hq e => by have := (HR.out.own.lt q hq).1; omega))
                    have HM5 : Hid (MapV w5 Try.prog 3 Mb (n2 + 1) (mapI (rv.fill room s ⟨ak, af, ad, an, ac⟩ (k + 1)))) := Lib.hid (by
                      rw [mapI_put] at hm5
                      rw [HPUT.out]
                      exact hm5)
                    have hz5 : wr.heap.size ≤ w5.heap.size := hs5.size
                    have hLfb : Lf.length ≤ 64 := by have := HR.out.few.2; omega
                    clear hm5 hg5 hs5
                    go_wp2_with (first
                      | (at_builtin; refine wp_app _ rfl _ _ _ rfl rv.elemI (w.heap.size + 1) A Lf.length c (Lf.map (Value.int .i64)) rfl (HO5.out.alloc _) _ 1 1 [.int .i64 p] rfl rfl (Cells.newAt _ _ _ rfl) (by simp [Value.oneCell']) (by omega) (by unfold maxLen; omega) (by simp only [World.size_alloc]; omega) ?_; intro A6 c6 w7 hO7 hg7; have HO7 := Lib.hid hO7; have HG7 := Lib.hid hg7; clear hO7 hg7)
                      | fail)
                    go_roundw
                    case rel => exact ⟨k + 1, n2 + 1, A6, c6, Lf ++ [p], by omega, by go_num, by rw [List.length_append]; rfl, Lib.hid (HR.out.put hzr hFl hMl HP.out.symm hpb HNP.out HPUT.out HM5.out HS5.out (balloc (bself _) _) HG7.out HO7.out)⟩
                    case measure => simp [intOf]; omega
                · have HSK := Lib.hid (HSKI.out (fun h => k2 h.2.2))
                  clear HSKI
                  go_wp2_with (first
                    | (at_lookup; refine wp_mlook_ok _ rfl _ _ _ rfl (Go.Maps.int_keyed Try.underlying3) Try.underlying68 (z := .int .u8 0) (by kernel_rfl) rfl HR.out.at_.map _ rfl (Go.Maps.keyOf_int_mk Try.underlying3 HWF.out) ?_; rw [HV.out])
                    | fail)
                  go_quiet (fail)
                  go_wp2
                  go_roundw
                  case rel => exact ⟨k + 1, n2, A, c, Lf, by omega, by go_num, rfl, Lib.hid (HR.out.skip HSK.out (bdrewN (bself _) _))⟩
                  case measure => simp [intOf]; omega
              · have HSK := Lib.hid (HSKI.out (fun h => k1 h.2.1))
                have k1' : decide (s.done ≤ p) = false := by simpa using k1
                clear HSKI
                go_wp2_with (first
                  | (at_lookup; refine wp_mlook_ok _ rfl _ _ _ rfl (Go.Maps.int_keyed Try.underlying3) Try.underlying68 (z := .int .u8 0) (by kernel_rfl) rfl HR.out.at_.map _ rfl (Go.Maps.keyOf_int_mk Try.underlying3 HWF.out) ?_; rw [HV.out])
                  | fail)
                go_quiet (fail)
                go_wp2
                go_roundw
                case rel => exact ⟨k + 1, n2, A, c, Lf, by omega, by go_num, rfl, Lib.hid (HR.out.skip HSK.out (bdrewN (bself _) _))⟩
                case measure => simp [intOf]; omega
          · obtain rfl : k = al := by omega
            have hfo := rv.filled_ok HI.out ⟨ak, af, ad, an, ac⟩
            have HARV := HGO.out HPS.out
            clear HGO HBAD HPS
            generalize rv.filled room s ⟨ak, af, ad, an, ac⟩ = s1 at *
            have HARR := Lib.hid HARV
            have hmap := hfo.map
            simp only at hmap
            rw [← HAL.out] at hmap
            have HMAP := Lib.hid hmap
            have HFO := Lib.hid hfo
            have HIA : Hid (IAt wr G Mb n2 room s.taken (rv.endOf s) (rv.knownOf s) (rv.mapF s1)) := Lib.hid (by rw [← hmap]; exact HR.out.at_)
            obtain ⟨K, hK⟩ : ∃ K : Nat, s.taken + room + 1 = s1.done + K := ⟨(s.taken + room + 1 - s1.done).toNat, by have := hfo.lo; omega⟩
            have HRG := Lib.hid (ref_ranges G Mb n2 room s.taken (rv.endOf s) s1.done (rv.knownOf s) (rv.mapF s1) K wr HIA.out hlo.1 hfo.lo.1 (by have := hfo.lo; omega) hfo.low hfo.notlow hr.2 hK)
            rw [hfo.runs K hK] at HRG
            have hzr := HR.out.arg.lt
            clear HARV hmap hfo hK
            obtain ⟨ml, hml⟩ : ∃ ml : Nat, ml = s1.more.length := ⟨_, rfl⟩
            have HML := Lib.hid hml
            rw [← hml] at HRG HARR
            by_cases hfull : 16 < ml
            · have hfull' : (16 : Int) < (ml : Int) := by omega
              have HAR9 : Hid (rv.arrive room s ⟨ak, af, ad, an, ac⟩ = (9, s)) := Lib.hid (by rw [HARR.out, if_pos hfull])
              clear hml
              go_upto_region 28 with (first
                | (go_at_call 45; ((with_reducible refine HRG.out.mono ?_); rintro e w4 ⟨A4, c4', rfl, hO4, hb4⟩; have HB4 := Lib.hid hb4; clear hO4 hb4))
                | fail)
              have HI4 := Lib.hid (HIA.out.next HB4.out)
              have HO4 := Lib.hid (HR.out.own.next HB4.out)
              have HST4 : Hid (Stays w w4 (fun q => q = Mb)) := Lib.hid (HR.out.stay.trans (Stays.of_below HB4.out (fun q => q = Mb)) (fun _ _ e => e))
              obtain ⟨fl, hfl⟩ : ∃ fl : Nat, fl = Lf.length := ⟨_, rfl⟩
              have HFL := Lib.hid hfl
              have hflb : fl ≤ 64 := by have := HR.out.few.2; omega
              rw [← hfl] at HO4
              try rw [← hfl]
              clear hfl
              go_wp2
              go_loopw [146] (fun i wx => ∃ j : Nat, j ≤ fl ∧ i = .int .i64 j ∧ Hid (IAt wx G Mb n2 room s.taken (rv.endOf s) (rv.knownOf s) (fun x => if x ∈ Lf.take j then none else rv.mapF s1 x) ∧ Own wx (w.heap.size + 1) 3 1 A fl c (Lf.map (Value.int .i64)) ∧ Stays w wx (fun q => q = Mb))) (fun i _ => fl - (intOf i).toNat)
              case atStart => exact ⟨0, by omega, rfl, Lib.hid ⟨by simpa using HI4.out, HO4.out, HST4.out⟩⟩
              case round =>
                obtain ⟨j, hj, rfl, HJ⟩ := hrel
                rename World => wx
                by_cases hjl : j < fl
                · have hjl' : (j : Int) < (fl : Int) := by omega
                  obtain ⟨y, hy⟩ : ∃ y, Lf[j]? = some y := ⟨_, List.getElem?_eq_getElem (by rw [← HFL.out]; exact hjl)⟩
                  have hyb := HR.out.rng y (List.mem_of_getElem? hy)
                  obtain ⟨g, rfl, hg1, hg2, hgc⟩ := HJ.out.2.1.cell (j := j) (u := .int .i64 y) (by rw [List.getElem?_map, hy]; rfl)
                  have hI := HJ.out.1
                  have c1 := hI.blk.get 1
                  simp only [List.getElem?_toArray, List.getElem?_cons_succ, List.getElem?_cons_zero] at c1
                  have hFx := hI.blk.lt
                  have HWF : Hid ((Lit.int .i64 y).wf = true) := Lib.hid (wf_i64 (by unfold IntOk; omega))
                  have HTK : Hid ((fun i => if i = y then none else (fun x => if x ∈ Lf.take j then none else rv.mapF s1 x) i) = fun x => if x ∈ Lf.take (j + 1) then none else rv.mapF s1 x) := Lib.hid (by
                    funext x
                    have e : Lf.take (j + 1) = Lf.take j ++ [y] := by
                      rw [List.take_add_one, hy]
                      rfl
                    rw [e]
                    by_cases hx : x = y
                    · rw [if_pos hx, if_pos (by rw [hx]; simp)]
                    · rw [if_neg hx]
                      simp only [List.mem_append, List.mem_singleton, hx, or_false])
                  have HMP : Hid (MapV wx Try.prog 3 Mb n2 (mapI (fun x => if x ∈ Lf.take j then none else rv.mapF s1 x))) := Lib.hid hI.map
                  clear hI hy
                  go_wp2_with (first
                    | (at_delete; refine wp_mdel _ rfl _ _ _ rfl (Go.Maps.int_keyed Try.underlying3) Try.underlying68 rfl HMP.out _ rfl (Go.Maps.keyOf_int_mk Try.underlying3 HWF.out) ?_; intro w5 hm5 hg5; have HM5 := Lib.hid hm5; have HG5 := Lib.hid hg5; clear hm5 hg5)
                    | fail)
                  go_roundw
                  case rel =>
                    refine ⟨j + 1, by omega, by go_num, Lib.hid ⟨⟨HJ.out.1.blk.stays (Stays.grown HG5.out) (fun e => HJ.out.1.two e.symm), ?_⟩, HJ.out.2.1.stays (Stays.grown HG5.out) (fun q hq e => by have := (HJ.out.2.1.lt q hq).1; omega), HJ.out.2.2.trans (Stays.grown HG5.out) (fun _ _ e => e)⟩⟩
                    have h := HM5.out
                    rw [mapI_del, HTK.out] at h
                    exact h
                  case measure => simp [intOf]; omega
                · obtain rfl : j = fl := by omega
                  have HEND : Hid (InRes w G Mb n 64 room (rv.arrive room s ⟨ak, af, ad, an, ac⟩) (.returned (.int .i64 9)) wx) := Lib.hid (by
                    rw [HAR9.out]
                    refine ⟨n2, by have := HR.out.few.1; omega, rfl, ?_, HJ.out.2.2.mono fun q _ e => .inr e⟩
                    have h := HJ.out.1
                    rw [HFL.out, List.take_length] at h
                    have hb := HR.out.back
                    rw [HMAP.out] at hb
                    unfold IS
                    rw [← hb]
                    exact h)
                  clear HJ HAR9
                  go_wp2
                  go_ret
                  exact HEND.out
            · have hfull' : ¬ (16 : Int) < (ml : Int) := by omega
              have HAR0 : Hid (rv.arrive room s ⟨ak, af, ad, an, ac⟩ = (0, { s1 with end_ := if an = true then t else s.end_ })) := Lib.hid (by rw [HARR.out, if_neg hfull])
              clear hml
              go_upto_region 34 with (first
                | (go_at_call 45; ((with_reducible refine HRG.out.mono ?_); rintro e w4 ⟨A4, c4', rfl, hO4, hb4⟩; have HB4 := Lib.hid hb4; clear hO4 hb4))
                | fail)
              have hA4 := HIA.out.next HB4.out
              have g3 := (HR.out.arg.next HB4.out).get 3
              have hz4 := (HR.out.arg.next HB4.out).lt
              have d3 := hA4.blk.get 3
              have d4 := hA4.blk.get 4
              have f3 := hA4.blk.frozen 3
              have f4 := hA4.blk.frozen 4
              simp only [List.getElem?_toArray, List.getElem?_cons_succ, List.getElem?_cons_zero] at g3 d3 d4
              have HEND : Hid (∀ wx, Stays w4 wx (fun q => q = G) → IAt wx G Mb n2 room s.taken (if an = true then t else rv.endOf s) (if an = true then true else rv.knownOf s) (rv.mapF s1) → InRes w G Mb n 64 room (rv.arrive room s ⟨ak, af, ad, an, ac⟩) (.returned (.int .i64 0)) wx) := Lib.hid (fun wx hs hi2 => by
                rw [HAR0.out]
                refine ⟨n2, by have := HR.out.few.1; omega, rfl, ?_, ((HR.out.stay.mono fun q _ e => .inr e).trans (Stays.of_below HB4.out (GM G Mb)) (fun _ _ e => e)).trans hs (fun q _ e => .inl e)⟩
                unfold IS
                have e1 : rv.endOf { s1 with end_ := if an = true then t else s.end_ } = if an = true then t else rv.endOf s := by
                  unfold rv.endOf
                  cases an
                  · rfl
                  · simp only [if_true]
                    rw [if_neg (by omega)]
                have e2 : rv.knownOf { s1 with end_ := if an = true then t else s.end_ } = if an = true then true else rv.knownOf s := by
                  unfold rv.knownOf
                  cases an
                  · rfl
                  · simp only [if_true]
                    simpa using htb.1
                rw [e1, e2]
                show IAt wx G Mb n2 room s1.taken _ _ (rv.mapF s1)
                rw [HFO.out.tk]
                exact hi2)
              have HA4 := Lib.hid hA4
              clear hA4
              cases an with
              | true =>
                go_wp2
                go_ret
                exact HEND.out _ ((Stays.set _ _ _ _).comp (Stays.set _ _ _ _)) ⟨by simpa using (HA4.out.blk.set 4 (.bool true)).set 3 (.int .i64 t), (HA4.out.map.setCell (fun e => HA4.out.two e.symm) _).setCell (fun e => HA4.out.two e.symm) _⟩
              | false =>
                go_wp2
                go_ret
                exact HEND.out _ (Stays.refl _ _) HA4.out
end Go.Proofs.Ytdldfllllgogoaa
