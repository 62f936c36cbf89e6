/- Package tree: an act at a node. No condition. -/
import Derived.Test.YtlcjdlnhniemcaaDoorTree10
import Derived.Test.YtlcjdlnhniemcaaDoorTree11
namespace Go.Proofs.YtlcjdlnhniemcaaDoor
open Go.RowKit Go.Maps Go.MapKept
set_option linter.unusedSimpArgs false
set_option linter.unusedVariables false

/-- what an act answers; the tree behind it -/
def SnOut (w : World) (B Tb : Nat) (W : List tr.Item) (P : List NA) (M' : Nat) (r : List tr.Item × Seen) (e : Ending) (w' : World) : Prop :=
  ∃ cs P', e = .returned (.agg cs.toArray) ∧ Seen.rep.rep w' (fun k => w.heap.size ≤ k ∧ k < w'.heap.size ∧ ¬ TF Tb r.1 P' k) r.2 cs ∧ TAt w' B Tb M' r.1 P' ∧ Stays w w' (TF Tb W P) ∧ ∀ k, TF Tb r.1 P' k → TF Tb W P k ∨ w.heap.size ≤ k
theorem tr.sorted_len (l : List (List UInt8)) : (tr.sorted l).length = l.length := List.length_mergeSort l
section
variable {w w1 w2 w' : World} {B Tb M M' R : Nat} {W W' : List tr.Item} {P : List NA} {X : Nat → Prop}
/-- no rows in the answer: the answer is in the block R of the call's own -/
theorem SnOut.plain (h : TAt w B Tb M W P) (hb : Below w.heap.size w w1) (hR : w.heap.size ≤ R ∧ R < w1.heap.size) (s : Seen) (hd : s.data = []) (hn : s.names = []) (h1 : TOut w1 w2 B Tb W P W' M' X) (hX : ∀ k, X k → w.heap.size ≤ k ∧ k ≠ R) (hs : Stays w2 w' (fun k => k = R)) :
    SnOut w B Tb W P M' (W', s) (.returned (.agg #[.int .i64 s.code, .int .i64 s.kind, .int .i64 s.size, .slice none 0 0, .slice none 0 0])) w' := by
  obtain ⟨P', t1, t2, t3⟩ := h1
  have hnR : ∀ k, TF Tb W' P' k → k ≠ R := fun k hk e => by
    subst e
    rcases t3 k hk with h2 | h2
    · have := (h.lt h2).2; omega
    · exact (hX k h2).2 rfl
  refine ⟨[.int .i64 s.code, .int .i64 s.kind, .int .i64 s.size, .slice none 0 0, .slice none 0 0], P', rfl, Seen.rep_iff.2 ⟨none, 0, none, 0, by rw [hd, hn]; rfl, by rw [hd]; exact ⟨Nat.le_refl _, Nat.zero_le _, .inl rfl⟩, by rw [hn]; exact ⟨Nat.le_refl _, Nat.zero_le _, .inl rfl⟩⟩, t1.stays hs hnR, ?_, fun k hk => (t3 k hk).imp id fun h => (hX k h).1⟩
  refine ((Stays.of_below hb _).comp t2).trans hs fun k hk e => ?_
  omega
/-- a row of names in the answer -/
theorem SnOut.names (h : TAt w B Tb M W P) (hb : Below w.heap.size w w1) (hR : w.heap.size ≤ R ∧ R < w1.heap.size) (ns : List (List UInt8)) {A : Option Addr} {c : Nat} (hb2 : Below w1.heap.size w1 w2) (ho : Own w2 w1.heap.size 9 1 A ns.length c (ns.map pa.sv)) (hs : Stays w2 w' (fun k => k = R)) :
    SnOut w B Tb W P M (W, ⟨0, 0, 0, [], ns.map strOf⟩) (.returned (.agg #[.int .i64 0, .int .i64 0, .int .i64 0, .slice none 0 0, .slice A ns.length c])) w' := by
  have ho' : Own w' w1.heap.size 9 1 A ns.length c (ns.map pa.sv) := ho.stays hs fun k hk e => by have := (ho.lt k hk).1; omega
  have hr : SlRep Rep.str w' (fun k => w1.heap.size ≤ k ∧ k < w'.heap.size) (ns.map strOf) A c := by
    have h2 : Own w' w1.heap.size 9 1 A ns.length c ((ns.map strOf).flatMap fun x => [Value.string x]) := by
      have e : (ns.map strOf).flatMap (fun x => [Value.string x]) = ns.map pa.sv := by
        rw [← List.map_eq_flatMap, List.map_map]
        rfl
      rw [e]
      exact ho'
    exact (Own.flat (R := Rep.str) (fun x => [Value.string x]) rfl (fun _ _ => rfl) (by decide) h2).2
  have h2 := (h.next hb).next hb2
  refine ⟨[.int .i64 0, .int .i64 0, .int .i64 0, .slice none 0 0, .slice A ns.length c], P, rfl, Seen.rep_iff.2 ⟨none, 0, A, c, by rw [List.length_map]; rfl, ⟨Nat.le_refl _, Nat.zero_le _, .inl rfl⟩, hr.keep fun k hk => ⟨⟨by have := hb.size; omega, hk.2, fun e => ?_⟩, rfl⟩⟩, h2.stays hs (fun k hk e => by have := (h.lt hk).2; omega), ?_, fun k hk => .inl hk⟩
  · have := (h.lt e).2
    have := hb.size
    omega
  · refine ((Stays.of_below hb _).comp (Stays.of_below hb2 _)).trans hs fun k hk e => ?_
    omega
/-- an act on a file: the tree with it -/
theorem SnOut.file (h : TAt w B Tb M W P) {n : Nat} (hn : tr.Live W n) (hk : (tr.it W n).kind = 2) {a : Act_} (hD : (tr.fdo (tr.it W n).data a).1.length ≤ 2048) {e : Ending} (hf : FDo w B (pl P n).p (pl P n).A (tr.fdo (tr.it W n).data a) e w') :
    SnOut w B Tb W P M (W.set n ((tr.it W n).wd (tr.fdo (tr.it W n).data a).1), (tr.fdo (tr.it W n).data a).2) e w' := by
  obtain ⟨cs, A', c', he, h1, h2, h3, h4⟩ := hf
  have hin : ∀ k, (k = (pl P n).p ∨ blkOf (pl P n).A = some k) → NF (tr.it W n) (pl P n) k := fun k e => by
    rcases e with e | e
    · exact .inl e
    · exact .inr (.inr ⟨hk, e⟩)
  have ht := h.bytes hn hk (tr.fdo (tr.it W n).data a).1 hD h3 h2.blk h2.own h4
  have hnP : n < P.length := by rw [h.len]; exact hn.lt
  have htf : ∀ k, TF Tb (W.set n ((tr.it W n).wd (tr.fdo (tr.it W n).data a).1)) (P.set n ⟨(pl P n).p, (pl P n).q, A', c'⟩) k → TF Tb W P k ∨ (w.heap.size ≤ k ∧ blkOf A' = some k) := fun k hk2 => by
    rcases hk2 with rfl | ⟨i, hi, hfi⟩
    · exact .inl (.inl rfl)
    · by_cases e : i = n
      · subst e
        rw [tr.it_set hn.lt, if_pos rfl, pl_set hnP, if_pos rfl] at hfi
        rcases hfi with e | ⟨e, _⟩ | ⟨_, e⟩
        · exact .inl (.inr ⟨i, hn, .inl e⟩)
        · exact absurd (e.symm.trans hk) (by decide)
        · rcases h4 k e with e2 | e2
          · exact .inl (.inr ⟨i, hn, .inr (.inr ⟨hk, e2⟩)⟩)
          · exact .inr ⟨e2, e⟩
      · rw [tr.live_set hn.lt, if_neg e] at hi
        rw [tr.it_set hn.lt, if_neg e, pl_set hnP, if_neg e] at hfi
        exact .inl (.inr ⟨i, hi, hfi⟩)
  refine ⟨cs, _, he, ?_, ht, h3.mono fun k _ hk2 => .inr ⟨n, hn, hin k hk2⟩, fun k hk2 => (htf k hk2).imp id fun h => h.1⟩
  obtain ⟨A0, c0, A1, c1, e1, s1, s2⟩ := Seen.rep_iff.1 h1
  have far : ∀ k, (w.heap.size ≤ k ∧ k < w'.heap.size ∧ k ≠ (pl P n).p ∧ blkOf A' ≠ some k) → (w.heap.size ≤ k ∧ k < w'.heap.size ∧ ¬ TF Tb (W.set n ((tr.it W n).wd (tr.fdo (tr.it W n).data a).1)) (P.set n ⟨(pl P n).p, (pl P n).q, A', c'⟩) k) := fun k hk2 => ⟨hk2.1, hk2.2.1, fun e => by
    rcases htf k e with e2 | ⟨_, e2⟩
    · have := (h.lt e2).2
      have := hk2.1
      omega
    · exact hk2.2.2.2 e2⟩
  exact Seen.rep_iff.2 ⟨A0, c0, A1, c1, e1, s1.keep fun k hk2 => ⟨far k hk2, rfl⟩, s2.keep fun k hk2 => ⟨far k hk2, rfl⟩⟩
end
theorem tr.kids_few {W : List tr.Item} (hI : tr.Inv W) (n : Nat) : (tr.kids W n).length ≤ tr.liveN W := by
  have e : tr.liveN W = ((List.range W.length).filter fun i => !(tr.it W i).gone).length := by
    unfold tr.liveN
    have h : W = (List.range W.length).map (tr.it W) := by
      apply List.ext_getElem?
      intro i
      rw [List.getElem?_map]
      rcases Nat.lt_or_ge i W.length with h | h
      · rw [List.getElem?_range h, tr.it_at h]; rfl
      · rw [List.getElem?_eq_none h, List.getElem?_eq_none (by rw [List.length_range]; exact h)]; rfl
    conv => lhs; rw [h]
    rw [List.filter_map, List.length_map]
    rfl
  rw [e]
  unfold tr.kids
  rw [← List.countP_eq_length_filter, ← List.countP_eq_length_filter]
  refine List.countP_mono_left fun i _ hi => ?_
  obtain ⟨_, h, _⟩ := tr.kid_iff.1 hi
  show (!(tr.it W i).gone) = true
  rw [show (tr.it W i).gone = false from h]
  rfl
theorem tr.fdo_len {d : List UInt8} {a : Act_} (hd : d.length ≤ 2048) : (tr.fdo d a).1.length ≤ 2048 := by
  unfold tr.fdo
  split
  · exact hd
  · next hb =>
    split
    · split
      · exact hd
      · next h1 h2 =>
        show (tr.putD d a.at_.toNat a.data).length ≤ 2048
        have h0 : 0 ≤ a.at_ := Classical.byContradiction fun h => hb (.inl ⟨by rw [h1]; decide, fun h3 => h h3.1⟩)
        unfold tr.putD
        rw [List.length_append, List.length_append, List.length_take, List.length_drop, tr.zeros_len]
        omega
    · split
      · exact hd
      · next h1 h2 =>
        show (tr.cutD d a.count.toNat).length ≤ 2048
        have h0 : a.count ≤ 2048 := Classical.byContradiction fun h => hb (.inr ⟨h1, fun h3 => h h3.2⟩)
        rw [tr.cut_len]
        omega
theorem as_file1 (p : Nat) (W : World) : (Instr.typeAssert (.iface 42 (.pointer (some ⟨p, 0, none⟩))) 61 52 true).run Tryd.prog W = .ok (.tuple #[.pointer none, .bool false]) W := by kernel_rfl
theorem as_file2 (p : Nat) (W : World) : (Instr.typeAssert (.iface 52 (.pointer (some ⟨p, 0, none⟩))) 61 52 true).run Tryd.prog W = .ok (.tuple #[.pointer (some ⟨p, 0, none⟩), .bool true]) W := by kernel_rfl

set_option maxRecDepth 100000 in
set_option maxHeartbeats 4000000 in
theorem tree_at {B Tb M : Nat} {W : List tr.Item} {P : List NA} (n : Nat) (a : Act_) (X : Option Addr) (xc : Nat) (w : World) (h : TAt w B Tb M W P) (hn : tr.Live W n) (hk : (tr.it W n).kind = 1 ∨ (tr.it W n).kind = 2) (ha : a.kind = 3 ∨ a.kind = 4 ∨ a.kind = 5 ∨ a.kind = 6 ∨ a.kind = 7) (hX : SlRep Rep.u8 w (· < w.heap.size) a.data X xc) (hXF : ∀ k, a.data ≠ [] → blkOf X = some k → ¬ TF Tb W P k) (hat : IntOk a.at_) (hct : IntOk a.count) (hd : a.data.length ≤ 140737488351232) :
    Calls Tryd.prog 19 #[nv (tr.it W n).kind (pl P n).p, .agg #[.int .i64 a.kind, .string a.path, .string a.to, .int .i64 a.at_, .int .i64 a.count, .slice X a.data.length xc]] w (SnOut w B Tb W P M (tr.atN W n a)) := by
  obtain ⟨ak, ap, ao, aa, an, ad⟩ := a
  simp only at hX hat hct hd ha ⊢
  obtain ⟨w1, hw1⟩ : ∃ w1, w1 = (w.alloc (.cells #[.int .i64 ak, .string ap, .string ao, .int .i64 aa, .int .i64 an, .slice X ad.length xc] 36)).alloc (.cells #[.int .i64 0, .int .i64 0, .int .i64 0, .slice none 0 0, .slice none 0 0] 31) := ⟨_, rfl⟩
  have hb1 : Below w.heap.size w w1 := by rw [hw1]; exact balloc (balloc (bself w) _) _
  have hz1 : w1.heap.size = w.heap.size + 1 + 1 := by rw [hw1]; simp
  have HH1 : Hid (BlkA w1 w.heap.size 36 #[.int .i64 ak, .string ap, .string ao, .int .i64 aa, .int .i64 an, .slice X ad.length xc]) := Lib.hid (by rw [hw1]; exact (BlkA.new _ _ _).alloc _)
  have HZ1 : Hid (BlkA w1 (w.heap.size + 1) 31 #[.int .i64 0, .int .i64 0, .int .i64 0, .slice none 0 0, .slice none 0 0]) := Lib.hid (by
    rw [hw1]
    have h := BlkA.new (w.alloc (.cells #[.int .i64 ak, .string ap, .string ao, .int .i64 aa, .int .i64 an, .slice X ad.length xc] 36)) 31 #[.int .i64 0, .int .i64 0, .int .i64 0, .slice none 0 0, .slice none 0 0]
    simpa using h)
  have H := Lib.hid h
  have H1 := Lib.hid (h.next hb1)
  have HB1 := Lib.hid hb1
  have HX1 := Lib.hid (hX.next hb1)
  have HR : Hid (w.heap.size ≤ w.heap.size + 1 ∧ w.heap.size + 1 < w1.heap.size) := Lib.hid ⟨by omega, by omega⟩
  have HZ := Lib.hid hz1
  have hd' := HH1.out.get
  have lh := HH1.out.lt
  have zd := HZ1.out.get
  have ze := HZ1.out.frozen
  have lz := HZ1.out.lt
  have HNO := Lib.hid (fun c wx => tree_no c wx)
  have HNOF : Hid (∀ c w2 w', tr.atN W n ⟨ak, ap, ao, aa, an, ad⟩ = (W, tr.seen c) → Below w1.heap.size w1 w2 → Stays w2 w' (fun k => k = w.heap.size + 1) → SnOut w B Tb W P M (tr.atN W n ⟨ak, ap, ao, aa, an, ad⟩) (.returned (.agg #[.int .i64 c, .int .i64 0, .int .i64 0, .slice none 0 0, .slice none 0 0])) w') := Lib.hid (fun c w2 w' he hb hs => by
    rw [he]
    exact SnOut.plain (X := fun _ => False) H.out HB1.out HR.out (tr.seen c) rfl rfl (TOut.same H1.out hb (Nat.le_refl _)) (fun k e => e.elim) hs)
  have HPLF : Hid (∀ kd sz w2 w', tr.atN W n ⟨ak, ap, ao, aa, an, ad⟩ = (W, ⟨0, kd, sz, [], []⟩) → Below w1.heap.size w1 w2 → Stays w2 w' (fun k => k = w.heap.size + 1) → SnOut w B Tb W P M (tr.atN W n ⟨ak, ap, ao, aa, an, ad⟩) (.returned (.agg #[.int .i64 0, .int .i64 kd, .int .i64 sz, .slice none 0 0, .slice none 0 0])) w') := Lib.hid (fun kd sz w2 w' he hb hs => by
    rw [he]
    exact SnOut.plain (X := fun _ => False) H.out HB1.out HR.out ⟨0, kd, sz, [], []⟩ rfl rfl (TOut.same H1.out hb (Nat.le_refl _)) (fun k e => e.elim) hs)
  have HFD := Lib.hid (fun (hk2 : (tr.it W n).kind = 2) (h345 : ak = 3 ∨ ak = 4 ∨ ak = 5) => file_do B (pl P n).p (tr.it W n).data (pl P n).A (pl P n).c ⟨ak, ap, ao, aa, an, ad⟩ X xc w1 ⟨((H1.out.node n hn).2.1 hk2).1, ((H1.out.node n hn).2.1 hk2).2, (H.out.lo n hn _ (.inl rfl)).1⟩ (H.out.inv.data n hn) h345 HX1.out (fun k hne hk => ⟨fun e => hXF k hne hk (.inr ⟨n, hn, .inl e⟩), fun e => hXF k hne hk (.inr ⟨n, hn, .inr (.inr ⟨hk2, e⟩)⟩)⟩) hat hct hd)
  have HFL := Lib.hid (fun (hk2 : (tr.it W n).kind = 2) => tr.fdo_len (d := (tr.it W n).data) (a := ⟨ak, ap, ao, aa, an, ad⟩) (H.out.inv.data n hn))
  have HFIN : Hid (∀ w2 w' e, SnOut w1 B Tb W P M (tr.atN W n ⟨ak, ap, ao, aa, an, ad⟩) e w2 → Stays w2 w' (fun k => k = w.heap.size + 1) → SnOut w B Tb W P M (tr.atN W n ⟨ak, ap, ao, aa, an, ad⟩) e w') := Lib.hid (fun w2 w' e h hs => by
    obtain ⟨cs, P', e1, e2, e3, e4, e5⟩ := h
    have hnR : ∀ k, TF Tb (tr.atN W n ⟨ak, ap, ao, aa, an, ad⟩).1 P' k → k ≠ w.heap.size + 1 := fun k hk e => by
      subst e
      rcases e5 _ hk with h2 | h2
      · have := (H.out.lt h2).2; omega
      · have := HZ.out; omega
    obtain ⟨A0, c0, A1, c1, r1, s1, s2⟩ := Seen.rep_iff.1 e2
    have far : ∀ k, (w1.heap.size ≤ k ∧ k < w2.heap.size ∧ ¬ TF Tb (tr.atN W n ⟨ak, ap, ao, aa, an, ad⟩).1 P' k) → ((w.heap.size ≤ k ∧ k < w'.heap.size ∧ ¬ TF Tb (tr.atN W n ⟨ak, ap, ao, aa, an, ad⟩).1 P' k) ∧ w'.heap[k]? = w2.heap[k]?) := fun k hk => ⟨⟨by have := HZ.out; omega, Nat.lt_of_lt_of_le hk.2.1 hs.size, hk.2.2⟩, hs.block k hk.2.1 (by have := HZ.out; omega)⟩
    refine ⟨cs, P', e1, Seen.rep_iff.2 ⟨A0, c0, A1, c1, r1, s1.keep far, s2.keep far⟩, e3.stays hs hnR, ((Stays.of_below HB1.out _).comp e4).trans hs (fun k hk e => by omega), fun k hk => (e5 k hk).imp id fun h => by have := HZ.out; omega⟩)
  have hdir := fun (hk1 : (tr.it W n).kind = 1) => H1.out.dir hn hk1
  have hfil := fun (hk2 : (tr.it W n).kind = 2) => H1.out.file hn hk2
  have HDIR := Lib.hid hdir
  have HFIL := Lib.hid hfil
  have HPE : (pl P n).p ≠ w.heap.size + 1 := fun e => by have := (H.out.lt (.inr ⟨n, hn, .inl rfl⟩)).2; omega
  have HSRT : Hid ((tr.it W n).kind = 1 → ∀ wx, Below w1.heap.size w1 wx → Calls Tryd.prog 31 #[.func (.func 45) #[] #[.pointer (some ⟨wx.heap.size, 0, none⟩)]] (wx.alloc (.cells #[.map (some (pl P n).q)] 43)) fun e w' => ∃ A c, e = .returned (.slice A (tr.namesIn W n).length c) ∧ Own w' wx.heap.size 9 1 A (tr.namesIn W n).length c ((tr.sorted (tr.namesIn W n)).map pa.sv) ∧ Below wx.heap.size wx w') := Lib.hid (fun hk1 wx hb => by
    obtain ⟨D, g1, g2, g3⟩ := (H1.out.next hb).keys hn hk1
    refine tree_sorted wx g1 ?_ g3
    rw [g2]
    have := H.out.inv.few
    have h2 := tr.kids_few H.out.inv n
    omega)
  have HLEN : Hid ((tr.it W n).kind = 1 → ∀ wx, Below w1.heap.size w1 wx → (Builtin.len_ #[43] 3 #[.map (some (pl P n).q)]).run Tryd.prog wx = .ok (.int .i64 ((tr.kids W n).length : Int)) wx) := Lib.hid (fun hk1 wx hb => (H1.out.next hb).count hn hk1 3)
  clear h hX hb1 hz1 hdir hfil
  go_enter Tryd.func19, Tryd.ntmps19
  go_upto_region 1 with (fail)
  rw [← hw1]
  clear hw1
  rcases hk with hk | hk
  · rw [hk, nv_dir]
    have ha1 := as_dir1 (pl P n).p
    have ha2 := as_file1 (pl P n).p
    obtain ⟨hm1, _, hm3⟩ := HDIR.out hk
    by_cases k7 : ak = 7
    · subst k7
      have HE : Hid (tr.atN W n ⟨7, ap, ao, aa, an, ad⟩ = (W, ⟨0, 0, 0, [], (tr.sorted (tr.namesIn W n)).map strOf⟩)) := Lib.hid (by unfold tr.atN; rw [if_pos rfl, if_pos hk])
      have HSRT := Lib.hid (HSRT.out hk)
      have hsl := tr.sorted_len (tr.namesIn W n)
      have HNM : Hid (∀ A c w2 w', Below w1.heap.size w1 w2 → Own w2 w1.heap.size 9 1 A (tr.namesIn W n).length c ((tr.sorted (tr.namesIn W n)).map pa.sv) → Stays w2 w' (fun k => k = w.heap.size + 1) → SnOut w B Tb W P M (tr.atN W n ⟨7, ap, ao, aa, an, ad⟩) (.returned (.agg #[.int .i64 0, .int .i64 0, .int .i64 0, .slice none 0 0, .slice A (tr.namesIn W n).length c])) w') := Lib.hid (fun A c w2 w' hb ho hs => by
        rw [HE.out]
        rw [← hsl] at ho ⊢
        exact SnOut.names H.out HB1.out HR.out _ hb ho hs)
      generalize (tr.sorted (tr.namesIn W n)).map pa.sv = ns at *
      generalize (tr.namesIn W n).length = nl at *
      clear hsl ha
      go_wp2_with (first
        | (go_at_call 32; ((with_reducible refine (tree_keys _ _).mono ?_); rintro e w2 ⟨rfl, rfl⟩))
        | (go_at_call 31; ((with_reducible refine (HSRT.out _ (bself _)).mono ?_); rintro e w3 ⟨A3, c3, rfl, ho3, hb3⟩; have z4 := HZ1.out.next hb3; have zd := z4.get; have ze := z4.frozen; have lz4 := z4.lt; have HB3 := Lib.hid hb3; have HO3 := Lib.hid ho3; clear hb3 ho3 z4))
        | fail)
      refine bodyPost_ret (v := .agg #[.int .i64 0, .int .i64 0, .int .i64 0, .slice none 0 0, .slice A3 nl c3]) (by simp [results, Tryd.results19, go_sem, *]) rfl (HNM.out _ _ _ _ HB3.out HO3.out ?_)
      exact Stays.fiveS _ _ _ _ _ _ _
    · by_cases k6 : ak = 6
      · subst k6
        have HE : Hid (tr.atN W n ⟨6, ap, ao, aa, an, ad⟩ = (W, ⟨0, 1, ((tr.kids W n).length : Int), [], []⟩)) := Lib.hid (by unfold tr.atN; rw [if_neg (by simp), if_pos rfl, if_pos hk])
        have HF := Lib.hid (fun w' hs => HPLF.out _ _ w1 w' HE.out (bself _) hs)
        have hln := HLEN.out hk w1 (bself _)
        generalize (tr.kids W n).length = nl at *
        clear ha k7
        go_wp2
        refine bodyPost_ret (v := .agg #[.int .i64 0, .int .i64 1, .int .i64 (nl : Int), .slice none 0 0, .slice none 0 0]) (by simp [results, Tryd.results19, go_sem, *]) rfl (HF.out _ ?_)
        exact Stays.fiveS _ _ _ _ _ _ _
      · have HE : Hid (tr.atN W n ⟨ak, ap, ao, aa, an, ad⟩ = (W, tr.seen 14)) := Lib.hid (by unfold tr.atN; rw [if_neg k7, if_neg k6, if_pos hk])
        have e7 : (ak == 7) = false := by simpa using k7
        have e6 : (ak == 6) = false := by simpa using k6
        have HF := Lib.hid (fun w2 w' hb hs => HNOF.out 14 w2 w' HE.out hb hs)
        clear ha
        go_wp2_with (first
          | (go_at_call 13; ((with_reducible refine (HNO.out _ _).mono ?_); rintro e w4 ⟨rfl, hb4⟩; have z4 := HZ1.out.next hb4; have zd := z4.get; have ze := z4.frozen; have lz4 := z4.lt; have HB4 := Lib.hid hb4; clear hb4 z4))
          | fail)
        refine bodyPost_ret (v := .agg #[.int .i64 14, .int .i64 0, .int .i64 0, .slice none 0 0, .slice none 0 0]) (by simp [results, Tryd.results19, go_sem, *]) rfl (HF.out _ _ HB4.out ?_)
        exact Stays.fiveS _ _ _ _ _ _ _
  · have hk1 : (tr.it W n).kind ≠ 1 := by rw [hk]; decide
    rw [hk, nv_file]
    have ha1 := as_dir2 (pl P n).p
    have ha2 := as_file2 (pl P n).p
    obtain ⟨hm1, _, hm3⟩ := HFIL.out hk
    by_cases k7 : ak = 7
    · subst k7
      have HE : Hid (tr.atN W n ⟨7, ap, ao, aa, an, ad⟩ = (W, tr.seen 15)) := Lib.hid (by unfold tr.atN; rw [if_pos rfl, if_neg hk1])
      have HF := Lib.hid (fun w2 w' hb hs => HNOF.out 15 w2 w' HE.out hb hs)
      clear ha
      go_wp2_with (first
        | (go_at_call 13; ((with_reducible refine (HNO.out _ _).mono ?_); rintro e w4 ⟨rfl, hb4⟩; have z4 := HZ1.out.next hb4; have zd := z4.get; have ze := z4.frozen; have lz4 := z4.lt; have HB4 := Lib.hid hb4; clear hb4 z4))
        | fail)
      refine bodyPost_ret (v := .agg #[.int .i64 15, .int .i64 0, .int .i64 0, .slice none 0 0, .slice none 0 0]) (by simp [results, Tryd.results19, go_sem, *]) rfl (HF.out _ _ HB4.out ?_)
      exact Stays.fiveS _ _ _ _ _ _ _
    · by_cases k6 : ak = 6
      · subst k6
        have HE : Hid (tr.atN W n ⟨6, ap, ao, aa, an, ad⟩ = (W, ⟨0, 2, ((tr.it W n).data.length : Int), [], []⟩)) := Lib.hid (by unfold tr.atN; rw [if_neg (by simp), if_pos rfl, if_neg hk1])
        have HF := Lib.hid (fun w' hs => HPLF.out _ _ w1 w' HE.out (bself _) hs)
        generalize (tr.it W n).data.length = nl at *
        clear ha k7
        go_wp2
        refine bodyPost_ret (v := .agg #[.int .i64 0, .int .i64 2, .int .i64 (nl : Int), .slice none 0 0, .slice none 0 0]) (by simp [results, Tryd.results19, go_sem, *]) rfl (HF.out _ ?_)
        exact Stays.fiveS _ _ _ _ _ _ _
      · have HE : Hid (tr.atN W n ⟨ak, ap, ao, aa, an, ad⟩ = (W.set n ((tr.it W n).wd (tr.fdo (tr.it W n).data ⟨ak, ap, ao, aa, an, ad⟩).1), (tr.fdo (tr.it W n).data ⟨ak, ap, ao, aa, an, ad⟩).2)) := Lib.hid (by unfold tr.atN; rw [if_neg k7, if_neg k6, if_neg hk1])
        have e7 : (ak == 7) = false := by simpa using k7
        have e6 : (ak == 6) = false := by simpa using k6
        have HFD := Lib.hid (HFD.out hk (by omega))
        have HFX : Hid (∀ e w2, FDo w1 B (pl P n).p (pl P n).A (tr.fdo (tr.it W n).data ⟨ak, ap, ao, aa, an, ad⟩) e w2 → SnOut w1 B Tb W P M (tr.atN W n ⟨ak, ap, ao, aa, an, ad⟩) e w2) := Lib.hid (fun e w2 hf => by
          rw [HE.out]
          exact SnOut.file H1.out hn hk (HFL.out hk) hf)
        have hRT : ∀ k, (k = (pl P n).p ∨ blkOf (pl P n).A = some k) → k ≠ w.heap.size + 1 := fun k hk2 e => by
          subst e
          rcases hk2 with e | e
          · exact HPE e.symm
          · have := (H.out.lt (.inr ⟨n, hn, .inr (.inr ⟨hk, e⟩)⟩)).2
            omega
        have HRT := Lib.hid hRT
        generalize tr.fdo (tr.it W n).data ⟨ak, ap, ao, aa, an, ad⟩ = r at *
        obtain ⟨D2, sc, sk, ss, sd, sn⟩ := r
        clear ha hRT
        go_wp2_with (first
          | (go_at_call 33; ((with_reducible refine HFD.out.mono ?_); rintro e w2 hr; have HRS := Lib.hid (HFX.out _ _ hr); obtain ⟨cs, A2, c2, rfl, r1, r2, r3, r4⟩ := hr; obtain ⟨Y, yc, Z, zc, rfl, r5, r6⟩ := Seen.rep_iff.1 r1; have z2 := HZ1.out.stays r3 (fun e => HRT.out _ e rfl); have zd := z2.get; have ze := z2.frozen; have lz2 := z2.lt; clear r1 r2 r3 r4 r5 r6 z2))
          | fail)
        refine bodyPost_ret (v := .agg #[.int .i64 sc, .int .i64 sk, .int .i64 ss, .slice Y sd.length yc, .slice Z sn.length zc]) (by simp [results, Tryd.results19, go_sem, *]) rfl (HFIN.out _ _ _ HRS.out ?_)
        exact Stays.fiveS _ _ _ _ _ _ _
end Go.Proofs.YtlcjdlnhniemcaaDoor
