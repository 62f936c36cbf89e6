/- Texts in one: Tree8, Tree9. No condition. -/
import Derived.Test.YtlcjdlnhniemcaaDoorTree7
import Derived.Test.YtlcjdlnhniemcaaDoorMapR
import Derived.LaidEqlPtr
section
namespace Go.Proofs.YtlcjdlnhniemcaaDoor
open Go.RowKit Go.Maps Go.MapKept
set_option linter.unusedSimpArgs false
set_option linter.unusedVariables false

theorem tr.on_kid {W : List tr.Item} {n d : Nat} (h : tr.On W n d) (hne : n ≠ d) : ∃ c, tr.kid W n c = true ∧ tr.On W c d := by
  rcases tr.on_iff.1 h with e | h
  · exact absurd e hne
  · exact h
theorem tr.kid_path {W : List tr.Item} {n c : Nat} {l : List (List UInt8)} (h : tr.kid W n c = true) (hp : tr.Path W n l) : tr.Path W c (l ++ [(tr.it W c).name]) := by
  obtain ⟨h1, h2, h3⟩ := tr.kid_iff.1 h
  exact .step h1 h2 h3 hp
theorem tr.kid_child {W : List tr.Item} (hI : tr.Inv W) {n c : Nat} (h : tr.kid W n c = true) : tr.child W n (tr.it W c).name = some c := by
  refine (tr.child_iff hI).2 ?_
  obtain ⟨h1, h2, h3⟩ := tr.kid_iff.1 h
  exact tr.isChild_iff.2 ⟨h1, h2, h3, rfl⟩
theorem tr.no_kid {W : List tr.Item} (hI : tr.Inv W) {n : Nat} (h : (tr.it W n).kind ≠ 1) (c : Nat) : tr.kid W n c = false := by
  cases e : tr.kid W n c with
  | false => rfl
  | true =>
    obtain ⟨h1, h2, h3⟩ := tr.kid_iff.1 e
    obtain ⟨d, e1, _, e3⟩ := hI.par c h1 h2
    rw [h3] at e1
    have := Int.ofNat.inj e1
    subst this
    exact absurd e3 h
theorem nv_inj {W : List tr.Item} {P : List NA} {w : World} {B Tb M : Nat} (h : TAt w B Tb M W P) {i j : Nat} (hi : tr.Live W i) (hj : tr.Live W j) (e : nv (tr.it W i).kind (pl P i).p = nv (tr.it W j).kind (pl P j).p) : i = j := by
  unfold nv at e
  simp only [Value.iface.injEq, Value.pointer.injEq, Option.some.injEq, Addr.mk.injEq, and_true] at e
  exact h.one hi hj e.2

/-- the answer, by a Bool of its own -/
def WiRes (w w' : World) (b : Bool) (e : Ending) : Prop := e = .returned (.bool b) ∧ Below w.heap.size w w'
set_option maxRecDepth 100000 in
set_option maxHeartbeats 1000000 in
theorem tree_within {B Tb M : Nat} {W : List tr.Item} {P : List NA} {d D : Nat} (hI : tr.Inv W) (hD : ∀ i l, tr.Live W i → tr.Path W i l → l.length ≤ D) (hd : tr.Live W d) (hdk : (tr.it W d).kind = 1) :
    ∀ (k n : Nat) (l : List (List UInt8)) (w : World), TAt w B Tb M W P → tr.Live W n → tr.Path W n l → D + 1 ≤ k + l.length → ∀ b : Bool, (b = true ↔ tr.On W n d) →
    Calls Tryd.prog 29 #[nv (tr.it W n).kind (pl P n).p, .pointer (some ⟨(pl P d).p, 0, none⟩)] w fun e w' => WiRes w w' b e
  | 0, n, l, w, ht, hn, hp, hk, b, hb => by have := hD n l hn hp; omega
  | k + 1, n, l, w, ht, hn, hp, hk, b, hb => by
    have HIH : Hid (∀ c w2, tr.kid W n c = true → Below w.heap.size w w2 → ∀ b : Bool, (b = true ↔ tr.On W c d) → Calls Tryd.prog 29 #[nv (tr.it W c).kind (pl P c).p, .pointer (some ⟨(pl P d).p, 0, none⟩)] w2 fun e w' => WiRes w2 w' b e) := Lib.hid (fun c w2 hc hb2 b hb =>
      tree_within hI hD hd hdk k c _ w2 (ht.next hb2) (tr.kid_iff.1 hc).2.1 (tr.kid_path hc hp) (by rw [List.length_append, List.length_singleton]; omega) b hb)
    have HF : Hid (b = true → tr.On W n d) := Lib.hid hb.1
    have HBW := Lib.hid hb.2
    have HT := Lib.hid ht
    have HI := Lib.hid hI
    by_cases hk1 : (tr.it W n).kind = 1
    · rw [hk1, nv_dir]
      have ha := as_dir1 (pl P n).p
      obtain ⟨hm1, hm2, hm3⟩ := ht.dir hn hk1
      have HM := Lib.hid hm2
      by_cases hnd : n = d
      · subst hnd
        obtain rfl : b = true := hb.2 .here
        have heq := run_eql_ptr_same (P := Tryd.prog) w (j := Tryd.t45) ⟨(pl P n).p, 0, none⟩ Tryd.underlying42 (by kernel_rfl)
        clear ht hb hp hk hm2 HF HBW hD hI
        go_enter Tryd.func29, Tryd.ntmps29
        go_wp2
        go_ret
        exact ⟨rfl, bself _⟩
      · have heq := run_eql_ptr_other (P := Tryd.prog) w (j := Tryd.t45) (a := ⟨(pl P n).p, 0, none⟩) (b := ⟨(pl P d).p, 0, none⟩) Tryd.underlying42 (by kernel_rfl) (by decide) (fun e => hnd (ht.one hn hd (by simpa using e))) ((ht.node n hn).1 hk1).1 ((ht.node d hd).1 hdk).1
        have hpne : (pl P n).p ≠ (pl P d).p := fun e => hnd (ht.one hn hd e)
        have hpb : ((pl P n).p == (pl P d).p) = false := by simpa using hpne
        have HNE : Hid (∀ c, tr.kid W n c = true → tr.On W c d → b = true) := Lib.hid (fun c h1 h2 => hb.2 (tr.on_iff.2 (.inr ⟨c, h1, h2⟩)))
        have HALL : Hid ((∀ c, tr.kid W n c = true → ¬ tr.On W c d) → b = false) := Lib.hid (fun h => by
          cases hbb : b with
          | false => rfl
          | true =>
            obtain ⟨c, c1, c2⟩ := tr.on_kid (hb.1 hbb) hnd
            exact absurd c2 (h c c1))
        have HKEY : Hid (∀ c, tr.kid W n c = true → keyOf Tryd.prog 9 (.string (strOf (tr.it W c).name)) = some (.string (tr.it W c).name) ∧ nmap (kidV W P n) (.string (tr.it W c).name) = some (nv (tr.it W c).kind (pl P c).p)) := Lib.hid (fun c hc => by
          obtain ⟨h1, h2, h3⟩ := tr.kid_iff.1 hc
          refine ⟨keyN Tryd.underlying9 (by have := hI.name c h1 h2; unfold maxLen; omega), ?_⟩
          show kidV W P n _ = _
          unfold kidV
          rw [tr.kid_child hI hc]
          rfl)
        have HLV : Hid (∀ kl v, nmap (kidV W P n) kl = some v → ∃ c, tr.kid W n c = true ∧ kl = .string (tr.it W c).name ∧ v = nv (tr.it W c).kind (pl P c).p) := Lib.hid (fun kl v h => by
          cases kl with
          | string s =>
            obtain ⟨j, j1, j2, j3⟩ := kidV_live ht h
            obtain ⟨e1, e2, e3, e4⟩ := tr.child_live j1
            exact ⟨j, tr.kid_iff.2 ⟨e1, e2, e3⟩, by rw [e4], j3⟩
          | _ => cases h)
        have HST : Hid (∀ wq left cnt, MapR wq Tryd.prog 9 (pl P n).q w.heap.size M (nmap (kidV W P n)) left cnt → (∀ kl, WideAt.IsKeyLit kl → nmap (kidV W P n) kl ≠ none → left kl = true) → w.grownBy wq none → Hid (MapR wq Tryd.prog 9 (pl P n).q w.heap.size M (nmap (kidV W P n)) left cnt ∧ Below w.heap.size w wq ∧ ∀ c, tr.kid W n c = true → tr.On W c d → left (.string (tr.it W c).name) = true)) := Lib.hid (fun wq left cnt h1 h2 h3 => Lib.hid ⟨h1, (Below.refl _ w).grown h3 (Nat.le_refl _) (fun j hj => by cases hj), fun c hc _ => by
          obtain ⟨e1, e2⟩ := HKEY.out c hc
          exact h2 _ (keyedS.key e1) (by rw [e2]; simp)⟩)
        have hqr : (pl P n).q < w.heap.size := hm2.lt
        clear ht hb hp hk hm2 HF HBW hD hI
        go_enter Tryd.func29, Tryd.ntmps29
        go_wp2_with (at_range; refine wp_mrange _ rfl _ _ rfl _ keyedS Tryd.underlying43 rfl HM.out ?_; intro wq0 left0 cnt0 hrg hleft hg hsz; have HRG := HST.out wq0 left0 cnt0 hrg hleft hg; clear hrg hleft hg hsz)
        try go_frame
        go_loopw [8] (fun _ wq => ∃ left cnt, Hid (MapR wq Tryd.prog 9 (pl P n).q w.heap.size M (nmap (kidV W P n)) left cnt ∧ Below w.heap.size w wq ∧ ∀ c, tr.kid W n c = true → tr.On W c d → left (.string (tr.it W c).name) = true)) (fun _ wq => wq.rangeLeft (pl P n).q w.heap.size)
        case atStart => exact ⟨_, _, HRG⟩
        case round =>
          obtain ⟨left, cnt, HRX⟩ := hrel
          rename World => wq
          go_wp2_with (at_next; refine wp_mnext _ rfl _ rfl keyedS (fun s : List UInt8 => Value.string (strOf s)) (fun v : Value => v) (fun key kl u hk hu => ?_) (fun kl u hu => ⟨u, rfl⟩) rfl HRX.out.1 ?_ ?_)
          · obtain ⟨c, c1, rfl, c3⟩ := HLV.out kl u hu
            exact ⟨(tr.it W c).name, keyedS.inj hk (HKEY.out c c1).1⟩
          · intro hl0
            have hbf : b = false := HALL.out fun c c1 c2 => by
              have := HRX.out.2.2 c c1 c2
              rw [hl0] at this
              cases this
            subst hbf
            have HB1 := Lib.hid HRX.out.2.1
            clear HRX hl0
            go_wp2
            go_ret
            exact ⟨rfl, HB1.out⟩
          · intro x v kl w1 cnt1 hkey hlk hmk hrg1 hlt hg1 hs1 hen
            obtain ⟨c, c1, rfl, rfl⟩ := HLV.out kl v hmk
            have hB1 : Below w.heap.size w w1 := HRX.out.2.1.grown hg1 HRX.out.2.1.size (fun j hj => by cases hj; exact Nat.le_refl _)
            have HB1 := Lib.hid hB1
            have HLE : Hid (wq.rangeLeft (pl P n).q w.heap.size = cnt ∧ cnt1 < cnt) := Lib.hid ⟨HRX.out.1.left_eq, hlt⟩
            obtain ⟨bc, hbc⟩ : ∃ bc : Bool, bc = true ↔ tr.On W c d := by
              by_cases h : tr.On W c d
              · exact ⟨true, by simp [h]⟩
              · exact ⟨false, by simp [h]⟩
            have HC := Lib.hid (fun w2 h => HIH.out c w2 c1 h bc hbc)
            have HNXT : Hid (bc = false → ∀ w2, Below w1.heap.size w1 w2 → Hid (MapR w2 Tryd.prog 9 (pl P n).q w.heap.size M (nmap (kidV W P n)) (fun z => left z && !z.sameKey (.string (tr.it W c).name)) cnt1 ∧ Below w.heap.size w w2 ∧ ∀ c', tr.kid W n c' = true → tr.On W c' d → (fun z => left z && !z.sameKey (.string (tr.it W c).name)) (.string (tr.it W c').name) = true)) := Lib.hid (fun hbf w2 hb2 => Lib.hid ⟨hrg1.next hb2, bnext hB1 hb2, fun c' k1 k2 => by
              have h1 := HRX.out.2.2 c' k1 k2
              have hne : (tr.it W c').name ≠ (tr.it W c).name := fun e => by
                have e1 := tr.kid_child HI.out k1
                rw [e, tr.kid_child HI.out c1] at e1
                cases e1
                rw [hbc.2 k2] at hbf
                cases hbf
              show (left _ && !Lit.sameKey _ _) = true
              rw [h1]
              simp [Lit.sameKey, hne]⟩)
            have HON := Lib.hid (fun h => HNE.out c c1 (hbc.1 h))
            clear hs1 hkey hlk hmk hrg1 hg1 hB1 hlt HRX hbc
            generalize nv (tr.it W c).kind (pl P c).p = vc at *
            cases bc with
            | true =>
              obtain rfl := HON.out rfl
              go_wp2_with (first
                | (go_at_call 29; ((with_reducible refine (HC.out _ HB1.out).mono ?_); rintro e w3 ⟨rfl, hb3⟩; have HB3 := Lib.hid hb3; clear hb3))
                | fail)
              go_ret
              exact ⟨rfl, bnext HB1.out HB3.out⟩
            | false =>
              have HN2 := Lib.hid (HNXT.out rfl)
              go_wp2_with (first
                | (go_at_call 29; ((with_reducible refine (HC.out _ HB1.out).mono ?_); rintro e w3 ⟨rfl, hb3⟩; have HB3 := Lib.hid hb3; clear hb3))
                | fail)
              refine ⟨⟨_, cnt1, HN2.out _ HB3.out⟩, ?_⟩
              rw [(HN2.out _ HB3.out).out.1.left_eq, HLE.out.1]
              exact HLE.out.2
    · have hnk : ¬ tr.On W n d := fun h => by
        by_cases e : n = d
        · subst e; exact hk1 hdk
        · obtain ⟨c, c1, _⟩ := tr.on_kid h e
          rw [tr.no_kid hI hk1 c] at c1
          cases c1
      obtain rfl : b = false := by cases b; rfl; exact absurd (hb.1 rfl) hnk
      rcases hI.kind n hn with h | h | h
      · exact absurd h hk1
      · rw [h, nv_file]
        have ha := as_dir2 (pl P n).p
        clear ht hb hp hk hD hI HF HBW HIH
        go_enter Tryd.func29, Tryd.ntmps29
        go_wp2
        go_ret
        exact ⟨rfl, bself _⟩
      · rw [h, nv_link]
        have ha := as_dir3 (pl P n).p
        clear ht hb hp hk hD hI HF HBW HIH
        go_enter Tryd.func29, Tryd.ntmps29
        go_wp2
        go_ret
        exact ⟨rfl, bself _⟩
end Go.Proofs.YtlcjdlnhniemcaaDoor
end
section
namespace Go.Proofs.YtlcjdlnhniemcaaDoor
open Go.RowKit Go.Maps Go.WideShapes Go.ChangeMaps Go.MapKept Go.WideElems
set_option linter.unusedSimpArgs false
set_option linter.unusedVariables false

theorem tr.kids_nodup (W : List tr.Item) (d : Nat) : (tr.kids W d).Nodup := List.Pairwise.filter _ List.nodup_range
theorem tr.mem_kids {W : List tr.Item} {d i : Nat} : i ∈ tr.kids W d ↔ tr.kid W d i = true := by
  unfold tr.kids
  rw [List.mem_filter, List.mem_range]
  exact ⟨fun h => h.2, fun h => ⟨(tr.kid_iff.1 h).2.1.lt, h⟩⟩
theorem tr.names_nodup {W : List tr.Item} (hI : tr.Inv W) (d : Nat) : (tr.namesIn W d).Nodup := by
  unfold tr.namesIn
  refine List.pairwise_map.2 ((tr.kids_nodup W d).imp_of_mem fun {a b} ha hb hne e => hne ?_)
  obtain ⟨a1, a2, a3⟩ := tr.kid_iff.1 (tr.mem_kids.1 ha)
  obtain ⟨b1, b2, b3⟩ := tr.kid_iff.1 (tr.mem_kids.1 hb)
  exact hI.one a b a1 b1 a2 b2 (a3.trans b3.symm) e
theorem tr.mem_names {W : List tr.Item} {P : List NA} (hI : tr.Inv W) {d : Nat} {x : List UInt8} : x ∈ tr.namesIn W d ↔ kidV W P d x ≠ none := by
  unfold tr.namesIn kidV
  rw [List.mem_map]
  constructor
  · rintro ⟨i, hi, rfl⟩
    rw [tr.kid_child hI (tr.mem_kids.1 hi)]
    simp
  · intro h
    cases e : tr.child W d x with
    | none => rw [e] at h; exact absurd rfl h
    | some i =>
      obtain ⟨h1, h2, h3, h4⟩ := tr.child_live e
      exact ⟨i, tr.mem_kids.2 (tr.kid_iff.2 ⟨h1, h2, h3⟩), h4⟩
theorem tr.names_len {W : List tr.Item} {d : Nat} : (tr.namesIn W d).length = (tr.kids W d).length := by unfold tr.namesIn; rw [List.length_map]
theorem tr.names_short {W : List tr.Item} (hI : tr.Inv W) {d : Nat} : ∀ x ∈ tr.namesIn W d, x.length ≤ 16 := fun x hx => by
  unfold tr.namesIn at hx
  obtain ⟨i, hi, rfl⟩ := List.mem_map.1 hx
  obtain ⟨h1, h2, _⟩ := tr.kid_iff.1 (tr.mem_kids.1 hi)
  exact hI.name i h1 h2
section
variable {w : World} {B Tb M : Nat} {W : List tr.Item} {P : List NA}
/-- the map of a directory, by its names -/
theorem TAt.keys (h : TAt w B Tb M W P) {n : Nat} (hn : tr.Live W n) (hk : (tr.it W n).kind = 1) : ∃ D : DataW Value, w.ownsMap Tryd.prog 9 selfElem (pl P n).q M D ∧ Maps.size D = (tr.kids W n).length ∧ (Go.strKeys D).Perm (tr.namesIn W n) := by
  obtain ⟨D, h1, h2, h3⟩ := ((h.node n hn).1 hk).2.keysN Tryd.underlying9 (tr.names_nodup h.inv n) (fun x => tr.mem_names (P := P) h.inv) (fun x hx => by have := tr.names_short h.inv x hx; unfold maxLen; omega)
  exact ⟨D, h1, by rw [h2, tr.names_len], h3⟩
theorem TAt.count (h : TAt w B Tb M W P) {n : Nat} (hn : tr.Live W n) (hk : (tr.it W n).kind = 1) (ty : TypeId) : (Builtin.len_ #[43] ty #[.map (some (pl P n).q)]).run Tryd.prog w = .ok (.int .i64 ((tr.kids W n).length : Int)) w := by
  obtain ⟨D, h1, h2, _⟩ := h.keys hn hk
  rw [h1.len Tryd.underlying43, h2]
theorem TAt.few (h : TAt w B Tb M W P) (n : Nat) : (tr.kids W n).length ≤ W.length := by
  unfold tr.kids
  exact Nat.le_trans (List.length_filter_le _ _) (by rw [List.length_range]; exact Nat.le_refl _)
end
theorem as_dirN (k : Int) (p : Nat) (hk : k = 1 ∨ k = 2 ∨ k = 3) : ∃ pv b, (∀ W, (Instr.typeAssert (nv k p) 61 42 true).run Tryd.prog W = .ok (.tuple #[pv, .bool b]) W) ∧ (b = true → k = 1 ∧ pv = .pointer (some ⟨p, 0, none⟩)) ∧ (b = false → k ≠ 1) := by
  rcases hk with rfl | rfl | rfl
  · exact ⟨_, true, fun W => as_dir1 p W, fun _ => ⟨rfl, rfl⟩, fun h => by cases h⟩
  · exact ⟨_, false, fun W => as_dir2 p W, (fun h => by cases h), (fun _ => by decide)⟩
  · exact ⟨_, false, fun W => as_dir3 p W, (fun h => by cases h), (fun _ => by decide)⟩
theorem tr.off_it {W : List tr.Item} {n : Nat} : (tr.it W n).off.gone = true := rfl
theorem tr.place_of_find {W : List tr.Item} {L : List (List UInt8)} {n : Nat} (hL : L ≠ []) (h : tr.find W false 8 L = .ok n) : ∃ d, tr.place W L = .ok d ∧ (tr.it W d).kind = 1 ∧ tr.child W d (L.getLast?.getD []) = some n := by
  obtain ⟨d, h1, h2, h3⟩ := tr.find_place hL h
  exact ⟨d, by unfold tr.place; rw [h1]; exact if_pos h2, h2, h3⟩
/-- the last of the names, as the code reads it -/
theorem NmRep.last {w : World} {A : Option Addr} {c : Nat} {L : List (List UInt8)} (h : NmRep w A c L) (hL : 0 < L.length) : ∃ b o, A = some ⟨b, o, none⟩ ∧ b < w.heap.size ∧ w.cell? ⟨b, o + (L.length - 1), none⟩ = some (.string (strOf (L.getLast?.getD []))) := by
  obtain ⟨b, o, e, hb, hc⟩ := h.at (k := L.length - 1) (by omega)
  rw [show L.getD (L.length - 1) [] = L.getLast?.getD [] by rw [List.getLast?_eq_getElem?, List.getD_eq_getElem?_getD]] at hc
  exact ⟨b, o, e, hb, hc⟩

set_option maxRecDepth 100000 in
set_option maxHeartbeats 2000000 in
theorem tree_remove {B Tb M : Nat} {W : List tr.Item} {P : List NA} (L : List (List UInt8)) (A : Option Addr) (c : Nat) (w : World) (ht : TAt w B Tb M W P) (hl : NmRep w A c L) (hn : Nms L) :
    Calls Tryd.prog 16 #[.pointer (some ⟨Tb, 0, none⟩), .slice A L.length c] w fun e w' => e = .returned (.int .i64 (tr.remove W L).2) ∧ TOut w w' B Tb W P (tr.remove W L).1 M (fun _ => False) := by
  obtain ⟨R, hR⟩ : ∃ R, R = tr.remove W L := ⟨_, rfl⟩
  rw [← hR]
  have HTS := Lib.hid (fun w' (hb : Below w.heap.size w w') => TOut.same (X := fun _ => False) ht hb (Nat.le_refl M))
  by_cases h0 : L = []
  · subst h0
    have HE : Hid (R = (W, 14)) := Lib.hid (hR.trans (if_pos rfl))
    clear hR ht hl hn
    go_enter Tryd.func16, Tryd.ntmps16
    go_wp2
    go_ret
    rw [HE.out]
    exact ⟨rfl, HTS.out _ (bself _)⟩
  · have hpos : 0 < L.length := by rcases Nat.eq_zero_or_pos L.length with h | h; exact absurd (List.length_eq_zero_iff.1 h) h0; exact h
    have hne : ((L.length : Int) == 0) = false := beq_eq_false_iff_ne.2 (by omega)
    have H := tree_find L A c false w ht hl hn
    cases hf : tr.find W false 8 L with
    | error q =>
      rw [hf] at H
      have HC := Lib.hid H
      have hq : (q != 0) = true := by simpa using tr.find_err_ne hf
      have HE : Hid (R = (W, q)) := Lib.hid (by rw [hR]; unfold tr.remove; rw [if_neg h0, hf])
      clear H hf hR ht hl hn h0
      go_enter Tryd.func16, Tryd.ntmps16
      go_wp2_with (go_at_call 18; refine HC.out.mono ?_; rintro e w2 ⟨hb2, rfl⟩)
      go_ret
      rw [HE.out]
      exact ⟨rfl, HTS.out _ hb2⟩
    | ok n =>
      rw [hf] at H
      obtain ⟨d, hp, hdk, hch⟩ := tr.place_of_find h0 hf
      obtain ⟨n0, nl, npar, nnm⟩ := tr.child_live hch
      obtain ⟨hd1, hd2⟩ := tr.place_live ht.inv hp
      by_cases hkn : tr.kids W n = []
      · have HE : Hid (R = (W.set n (tr.it W n).off, 0)) := Lib.hid (by rw [hR]; unfold tr.remove; rw [if_neg h0, hf]; exact if_neg (fun h => h hkn))
        have hnok : ∀ i, tr.kid W n i = false := fun i => by
          cases e : tr.kid W n i with
          | false => rfl
          | true => have := tr.mem_kids.2 e; rw [hkn] at this; cases this
        -- what is done when nothing is in it
        have HPL : Hid (∀ w2, Below w.heap.size w w2 → Calls Tryd.prog 28 #[.pointer (some ⟨Tb, 0, none⟩), .slice A L.length c] w2 fun e w' => Below w2.heap.size w2 w' ∧ e = .returned (.tuple #[.pointer (some ⟨(pl P d).p, 0, none⟩), .int .i64 0])) := Lib.hid (fun w2 hb => by
          have h := tree_place L A c w2 (ht.next hb) (hl.next hb) hn hpos
          rw [hp] at h
          exact h)
        have HT := Lib.hid ht
        have hqT : (pl P d).q ≠ Tb := (ht.lo d hd1 _ (.inr (.inl ⟨hd2, rfl⟩))).2
        have hkey : keyOf Tryd.prog 9 (.string (strOf (L.getLast?.getD []))) = some (.string (L.getLast?.getD [])) := keyN Tryd.underlying9 (by have := hn.last; unfold maxLen; omega)
        have HDEL : Hid (∀ w5, Below w.heap.size w w5 → ∃ w6, (Builtin.delete_ #[43, 9] 0 #[.map (some (pl P d).q), .string (strOf (L.getLast?.getD []))]).run Tryd.prog w5 = .ok (.tuple #[]) w6 ∧
            w6.cell? ⟨Tb, 1, none⟩ = some (.int .i64 (tr.liveN W : Int)) ∧ w6.frozen? ⟨Tb, 1, none⟩ = false ∧ Tb < w6.heap.size ∧ Hid (TOut w (w6.setCell ⟨Tb, 1, none⟩ (.int .i64 ((tr.liveN W : Int) - 1))) B Tb W P (W.set n (tr.it W n).off) M (fun _ => False))) := Lib.hid (fun w5 hb => by
          obtain ⟨w6, hr, hm6, hg6⟩ := ((ht.node d hd1).1 hd2).2.next hb |>.del (ty := 0) keyedS Tryd.underlying43 hkey
          have ht6 := (ht.top.next hb).kept hg6 (fun e => hqT (Option.some.inj e))
          have hS : Stays w (w6.setCell ⟨Tb, 1, none⟩ (.int .i64 ((tr.liveN W : Int) - 1))) (fun k => k = (pl P d).q ∨ k = Tb) :=
            ((Stays.of_below hb _).comp ((Stays.grown hg6).mono fun _ _ h => .inl h)).comp ((Stays.set w6 Tb 1 _).mono fun _ _ h => .inr h)
          refine ⟨w6, hr, ht6.get 1, ht6.frozen 1, ht6.lt, Lib.hid ⟨P, ht.del n0 nl _ tr.off_it npar hnok hS ?_ (ht6.set 1 _), hS.mono ?_, ?_⟩⟩
          · refine MapV.setCell ?_ (fun e => hqT e.symm) _
            rw [nmap_del, ← nnm] at hm6
            exact hm6
          · rintro k _ (rfl | rfl)
            · exact .inr ⟨d, hd1, .inr (.inl ⟨hd2, rfl⟩)⟩
            · exact .inl rfl
          · rintro k (rfl | ⟨i, hi, hfi⟩)
            · exact .inl (.inl rfl)
            · rw [tr.live_set nl.lt] at hi
              split at hi
              · cases hi
              · next hni =>
                rw [tr.it_set nl.lt, if_neg hni] at hfi
                exact .inl (.inr ⟨i, hi, hfi⟩))
        obtain ⟨bb, oo, rfl, hbb, hcl⟩ := hl.last hpos
        have hw1 : IntKind.i64.wrap ((L.length : Int) - 1) = (L.length : Int) - 1 := IntWalk.i64_in _ (by have := hn.1; omega)
        have hw2 : IntKind.i64.wrap ((tr.liveN W : Int) - 1) = (tr.liveN W : Int) - 1 := IntWalk.i64_in _ (by have := ht.inv.few; omega)
        have hidx : ((L.length : Int) - 1).toNat = L.length - 1 := by omega
        have hge : 0 ≤ (L.length : Int) - 1 := by omega
        have hge1 : 1 ≤ (L.length : Int) := by omega
        have hlt : (L.length : Int) - 1 < (L.length : Int) := by omega
        obtain ⟨hm1, hm2, hm3⟩ := ht.dir hd1 hd2
        have HSS : Hid (∀ wx, Below w.heap.size w wx → wx.cell? ⟨(pl P d).p, 0, none⟩ = some (.map (some (pl P d).q)) ∧ wx.cell? ⟨bb, oo + (L.length - 1), none⟩ = some (.string (strOf (L.getLast?.getD [])))) := Lib.hid (fun wx hb => ⟨(hb.cell (p := ⟨(pl P d).p, 0, none⟩) hm3).trans hm1, (hb.cell (p := ⟨bb, oo + (L.length - 1), none⟩) hbb).trans hcl⟩)
        have HK : Hid ((tr.it W n).kind = 1 → ∃ (x : Unit), (∀ w2, Below w.heap.size w w2 → (Builtin.len_ #[43] 3 #[.map (some (pl P n).q)]).run Tryd.prog w2 = .ok (.int .i64 0) w2) ∧ w.cell? ⟨(pl P n).p, 0, none⟩ = some (.map (some (pl P n).q)) ∧ (pl P n).p < w.heap.size) := Lib.hid (fun hk1 => ⟨(), fun w2 hb => by
          have h := (ht.next hb).count nl hk1 3
          rw [hkn] at h
          exact h, (ht.dir nl hk1).1, (ht.dir nl hk1).2.2⟩)
        obtain ⟨pv, b, ha, hb1, _⟩ := as_dirN (tr.it W n).kind (pl P n).p (ht.inv.kind n nl)
        have HB := Lib.hid hb1
        have HC : Hid (Calls Tryd.prog 18 #[.pointer (some ⟨Tb, 0, none⟩), .slice (some ⟨bb, oo, none⟩) L.length c, .bool false] w fun e w' => Below w.heap.size w w' ∧ e = .returned (.tuple #[nv (tr.it W n).kind (pl P n).p, .int .i64 0])) := Lib.hid H
        generalize nv (tr.it W n).kind (pl P n).p = v at *
        clear hb1
        generalize L.getLast?.getD [] = nm at *
        generalize tr.liveN W = lv at *
        clear hf hR ht hl hn h0 hm2 hp hch hnok hkn hdk hd1 hd2 n0 nl npar nnm hqT hkey H
        go_enter Tryd.func16, Tryd.ntmps16
        go_upto_region 7 with (first
          | (go_at_call 18; refine HC.out.mono ?_; rintro e w2 ⟨hb2, rfl⟩; have HB2 := Lib.hid hb2; clear hb2)
          | fail)
        go_cut [36] (fun s36 wx => s36 = .bool false ∧ w2 = wx)
        case first =>
          cases b
          · go_wp2
            go_meet
            exact ⟨rfl, rfl⟩
          · obtain ⟨k1, rfl⟩ := HB.out rfl
            obtain ⟨_, k2, k3, k4⟩ := HK.out k1
            have hm4 := (HB2.out.cell (p := ⟨(pl P n).p, 0, none⟩) k4).trans k3
            have hln := k2 _ HB2.out
            clear k2
            go_wp2
            go_meet
            exact ⟨rfl, rfl⟩
        case rest =>
          obtain ⟨rfl, rfl⟩ := hcut
          go_upto_region 10 with (first
            | (go_at_call 28; ((with_reducible refine (HPL.out _ HB2.out).mono ?_); rintro e w3 ⟨hb3, rfl⟩; have HB3 : Hid (Below w.heap.size w w3) := Lib.hid (bnext HB2.out hb3); clear hb3))
            | fail)
          obtain ⟨w6, hdel, c6, f6, l6, HO6⟩ := HDEL.out w3.drew (Below.drew HB3.out)
          --<rm
          refine wp_region_tail [10] (fun wx => wx.cell? ⟨(pl P d).p, 0, none⟩ = some (.map (some (pl P d).q)) ∧ wx.cell? ⟨bb, oo + (L.length - 1), none⟩ = some (.string (strOf nm))) (by kernel_rfl) (HSS.out w3 HB3.out) ?_
          intro hHeld
          refine wpAnyT_pure (i := 0) (v := ?_) rfl (by kernel_rfl) (by kernel_rfl) (by kernel_rfl) (fun _ _ _ h => h) (.inl ⟨by kernel_rfl, ?_⟩) (fun _ => hHeld) ?_ (by decide)
          rotate_left
          · intro w9; go_simp; try with_reducible rfl
          try simp only [Act.put, List.getElem_toArray, List.getElem_cons_succ, List.getElem_cons_zero, List.setIfInBounds_toArray, List.set_cons_zero, List.set_cons_succ]
          refine wpAnyT_pure (i := 1) (v := ?_) rfl (by kernel_rfl) (by kernel_rfl) (by kernel_rfl) (fun _ _ _ h => h) (.inl ⟨by kernel_rfl, ?_⟩) (fun _ => hHeld) ?_ (by decide)
          rotate_left
          · intro w9; go_simp; try with_reducible rfl
          try simp only [Act.put, List.getElem_toArray, List.getElem_cons_succ, List.getElem_cons_zero, List.setIfInBounds_toArray, List.set_cons_zero, List.set_cons_succ]
          refine wpAnyT_pure (i := 2) (v := ?_) rfl (by kernel_rfl) (by kernel_rfl) (by kernel_rfl) (fun _ _ _ h => h) (.inl ⟨by kernel_rfl, ?_⟩) (fun _ => hHeld) ?_ (by decide)
          rotate_left
          · intro w9; go_simp; try with_reducible rfl
          try simp only [Act.put, List.getElem_toArray, List.getElem_cons_succ, List.getElem_cons_zero, List.setIfInBounds_toArray, List.set_cons_zero, List.set_cons_succ]
          refine wpAnyT_pure (i := 4) (v := ?_) rfl (by kernel_rfl) (by kernel_rfl) (by kernel_rfl) (fun _ _ _ h => h) (.inl ⟨by kernel_rfl, ?_⟩) (fun _ => hHeld) ?_ (by decide)
          rotate_left
          · intro w9; go_simp; try with_reducible rfl
          try simp only [Act.put, List.getElem_toArray, List.getElem_cons_succ, List.getElem_cons_zero, List.setIfInBounds_toArray, List.set_cons_zero, List.set_cons_succ]
          refine wpAnyT_pure (i := 5) (v := ?_) rfl (by kernel_rfl) (by kernel_rfl) (by kernel_rfl) (fun _ _ _ h => h) (.inl ⟨by kernel_rfl, ?_⟩) (fun _ => hHeld) ?_ (by decide)
          rotate_left
          · intro w9; go_simp; try with_reducible rfl
          try simp only [Act.put, List.getElem_toArray, List.getElem_cons_succ, List.getElem_cons_zero, List.setIfInBounds_toArray, List.set_cons_zero, List.set_cons_succ]
          refine wpAnyT_pure (i := 6) (v := ?_) rfl (by kernel_rfl) (by kernel_rfl) (by kernel_rfl) (fun _ _ _ h => h) (.inl ⟨by kernel_rfl, ?_⟩) (fun _ => hHeld) ?_ (by decide)
          rotate_left
          · intro w9; go_simp; try with_reducible rfl
          try simp only [Act.put, List.getElem_toArray, List.getElem_cons_succ, List.getElem_cons_zero, List.setIfInBounds_toArray, List.set_cons_zero, List.set_cons_succ]
          refine wpAnyT_pure (i := 7) (v := ?_) rfl (by kernel_rfl) (by kernel_rfl) (by kernel_rfl) (fun _ _ _ h => h) (.inl ⟨by kernel_rfl, ?_⟩) (fun _ => hHeld) ?_ (by decide)
          rotate_left
          · intro w9; go_simp; try with_reducible rfl
          try simp only [Act.put, List.getElem_toArray, List.getElem_cons_succ, List.getElem_cons_zero, List.setIfInBounds_toArray, List.set_cons_zero, List.set_cons_succ]
          refine wpAnyT_pure (i := 8) (v := ?_) rfl (by kernel_rfl) (by kernel_rfl) (by kernel_rfl) (fun _ _ _ h => h) (.inl ⟨by kernel_rfl, ?_⟩) (fun _ => hHeld) ?_ (by decide)
          rotate_left
          · intro w9; go_simp; try with_reducible rfl
          try simp only [Act.put, List.getElem_toArray, List.getElem_cons_succ, List.getElem_cons_zero, List.setIfInBounds_toArray, List.set_cons_zero, List.set_cons_succ]
          refine wpAnyT_take (i := 3) [10] (v := ?_) rfl (by kernel_rfl) (by kernel_rfl) (by kernel_rfl) (by kernel_rfl) (fun _ _ _ h => h) (.inl ⟨by kernel_rfl, ?_⟩) hHeld ?_
          rotate_left
          · intro w9 hS9; (try dsimp only at hS9); obtain ⟨q1, q2⟩ := hS9; go_simp; try with_reducible rfl
          try simp only [Act.put, List.getElem_toArray, List.getElem_cons_succ, List.getElem_cons_zero, List.setIfInBounds_toArray, List.set_cons_zero, List.set_cons_succ]
          refine wpAnyT_take (i := 9) [10] (v := ?_) rfl (by kernel_rfl) (by kernel_rfl) (by kernel_rfl) (by kernel_rfl) (fun _ _ _ h => h) (.inl ⟨by kernel_rfl, ?_⟩) hHeld ?_
          rotate_left
          · intro w9 hS9; (try dsimp only at hS9); obtain ⟨q1, q2⟩ := hS9; go_simp; try with_reducible rfl
          try simp only [Act.put, List.getElem_toArray, List.getElem_cons_succ, List.getElem_cons_zero, List.setIfInBounds_toArray, List.set_cons_zero, List.set_cons_succ]
          refine wpAnyT_next (i := 10) (by kernel_rfl) rfl ?_
          intro K hK
          go_simp
          refine hK.out _ _ (fun h => absurd ((by kernel_rfl : false = _).trans h) Bool.false_ne_true) ?_
          clear hK K
          try simp only [Act.put, List.getElem_toArray, List.getElem_cons_succ, List.getElem_cons_zero, List.setIfInBounds_toArray, List.set_cons_zero, List.set_cons_succ]
          refine wpAnyT_done (by kernel_rfl) ?_ _
          go_wp2
          go_ret
          rw [HE.out]
          exact ⟨rfl, HO6.out⟩
          --rm>
      · have HE : Hid (R = (W, 16)) := Lib.hid (by rw [hR]; unfold tr.remove; rw [if_neg h0, hf]; exact if_pos hkn)
        have hkd : (tr.it W n).kind = 1 := Classical.byContradiction fun h => hkn (List.eq_nil_iff_forall_not_mem.2 fun i hi => by
          have := tr.no_kid ht.inv h i
          rw [tr.mem_kids.1 hi] at this
          cases this)
        have HC : Hid (Calls Tryd.prog 18 #[.pointer (some ⟨Tb, 0, none⟩), .slice A L.length c, .bool false] w fun e w' => Below w.heap.size w w' ∧ e = .returned (.tuple #[.iface 42 (.pointer (some ⟨(pl P n).p, 0, none⟩)), .int .i64 0])) := Lib.hid (H.mono fun e w' h => ⟨h.1, by have h2 : e = .returned (.tuple #[nv (tr.it W n).kind (pl P n).p, .int .i64 0]) := h.2; rw [hkd] at h2; exact h2⟩)
        have ha := as_dir1 (pl P n).p
        obtain ⟨hm1, hm2, hm3⟩ := ht.dir nl hkd
        have hlen := fun w2 (hb : Below w.heap.size w w2) => (ht.next hb).count nl hkd 3
        have hkp : 0 < (tr.kids W n).length := List.length_pos_iff.2 hkn
        have HLEN := Lib.hid hlen
        generalize (tr.kids W n).length = kl at *
        have hkp' : (0 : Int) < (kl : Int) := by omega
        clear H hf hR ht hl hn h0 hm2 hlen hp hch
        go_enter Tryd.func16, Tryd.ntmps16
        go_wp2_with (first
          | (go_at_call 18; refine HC.out.mono ?_; rintro e w2 ⟨hb2, rfl⟩; have hm4 := (hb2.cell (p := ⟨(pl P n).p, 0, none⟩) hm3).trans hm1; have hln := HLEN.out _ hb2)
          | fail)
        go_ret
        rw [HE.out]
        exact ⟨rfl, HTS.out _ hb2⟩
end Go.Proofs.YtlcjdlnhniemcaaDoor
end
