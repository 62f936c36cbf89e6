/- Package tree: look, walked. No condition. -/
import Derived.Test.YtlcjdlnhniemcaaDoorTree2
namespace Go.Proofs.YtlcjdlnhniemcaaDoor
open Go.RowKit Go.Maps Go.MapKept
set_option linter.unusedSimpArgs false
set_option linter.unusedVariables false

/-- what look answers -/
def LkNo (c : Int) (e : Ending) : Prop := e = .returned (.tuple #[.nilIface, .pointer none, .int .i64 c])
def LkOn (o : List (List UInt8)) (e : Ending) (w' : World) : Prop := ∃ g A c, e = .returned (.tuple #[.nilIface, .pointer (some ⟨g, 0, none⟩), .int .i64 0]) ∧ w'.cell? ⟨g, 0, none⟩ = some (.slice A o.length c) ∧ g < w'.heap.size ∧ NmRep w' A c o
def LkFollow (loop : Bool) (R : Except Int (List (List UInt8))) (rest : List (List UInt8)) (e : Ending) (w' : World) : Prop :=
  if loop = true then LkNo 13 e else match R with
    | .error c => LkNo c e
    | .ok o => if 12 < (o ++ rest).length then LkNo 9 e else LkOn (o ++ rest) e w'
def LkRes (W : List tr.Item) (P : List NA) (loop : Bool) (r : tr.Look) (e : Ending) (w' : World) : Prop :=
  match r with
  | .done n => e = .returned (.tuple #[nv (tr.it W n).kind (pl P n).p, .pointer none, .int .i64 0])
  | .err c => LkNo c e
  | .on pre n rest => LkFollow loop (pa.follow pre (tr.it W n).to) rest e w'

/-- names that were followed, in a box of their own -/
def FoMid (w wx : World) (g : Nat) (o : List (List UInt8)) (A2 : Option Addr) (c2 : Nat) : Prop :=
  BlkA wx g 29 #[.slice A2 o.length c2] ∧ Own wx w.heap.size 9 1 A2 o.length c2 (o.map pa.sv) ∧ Below w.heap.size w wx ∧ w.heap.size ≤ g
theorem FoMid.first {w w6 : World} {o : List (List UInt8)} {A2 : Option Addr} {c2 : Nat} {B0 : Nat} (hB : w.heap.size ≤ B0) (h1 : BlkA w6 w.heap.size 29 #[.slice none 0 0]) (hb : Below w.heap.size w w6) (ho : Own w6 B0 9 1 A2 o.length c2 (o.map pa.sv)) :
    FoMid w (w6.setCell ⟨w.heap.size, 0, none⟩ (.slice A2 o.length c2)) w.heap.size o A2 c2 :=
  ⟨h1.set 0 _, (ho.base_le hB).setCell (h1.apart ho (by decide)) _, bset hb (Nat.le_refl _) _, Nat.le_refl _⟩
theorem FoMid.second {w w6 : World} {o : List (List UInt8)} {A2 : Option Addr} {c2 B0 : Nat} (hB : w.heap.size ≤ B0) (hb : Below w.heap.size w w6) (ho : Own w6 B0 9 1 A2 o.length c2 (o.map pa.sv)) :
    FoMid w (w6.alloc (.cells #[.slice A2 o.length c2] 29)) w6.heap.size o A2 c2 :=
  ⟨BlkA.new w6 _ _, (ho.base_le hB).alloc _, balloc hb _, hb.size⟩
theorem pa.follow_err {o : List (List UInt8)} {p : List UInt8} {c : Int} (h : pa.follow o p = .error c) : c ≠ 0 := by
  have hst : ∀ {ps : List (List UInt8)} {o : List (List UInt8)}, playTo pa.step o ps = .error c → c ≠ 0 := fun {ps} => by
    induction ps with
    | nil => intro o h; cases h
    | cons p ps ih =>
      intro o h
      rw [playTo_cons] at h
      cases e : pa.step o p with
      | ok o1 => rw [e] at h; exact ih h
      | error c' =>
        rw [e] at h
        cases h
        unfold pa.step at e
        split at e
        · cases e
        · split at e
          · cases e
          · split at e
            · cases e; decide
            · split at e
              · cases e; decide
              · cases e
  have hw : ∀ {o : List (List UInt8)}, pa.walk o p = .error c → c ≠ 0 := fun {o} h => by
    unfold pa.walk at h
    split at h
    · cases h; decide
    · exact hst h
  unfold pa.follow at h
  split at h
  · split at h
    · exact hw h
    · exact hw h
  · next hf => cases h; exact hf
theorem pa.elemN : ElemT Tryd.prog 29 9 1 16 := ElemT.of Tryd.underlying29 (z := .string ⟨#[]⟩) (by kernel_rfl) rfl (by decide)

set_option maxRecDepth 100000 in
set_option maxHeartbeats 4000000 in
theorem tree_look {B Tb M : Nat} {W : List tr.Item} {P : List NA} (L : List (List UInt8)) (A : Option Addr) (c : Nat) (follow loop : Bool) (w : World) (ht : TAt w B Tb M W P) (hl : NmRep w A c L) (hn : Nms L) :
    Calls Tryd.prog 30 #[.pointer (some ⟨Tb, 0, none⟩), .slice A L.length c, .bool follow, .bool loop] w fun e w' => Below w.heap.size w w' ∧ LkRes W P loop (tr.look W follow 0 [] L) e w' := by
  have HT := Lib.hid ht
  have HL := Lib.hid hl
  have HN := Lib.hid hn
  have h12 : L.length ≤ 12 := hn.1
  have hr0 := ht.root
  have hTb := ht.top.lt
  have hlive0 : tr.Live W 0 := ht.inv.root.2.1
  have hk0 := ht.inv.root.1
  obtain ⟨R, hR⟩ : ∃ R, R = tr.look W follow 0 [] L := ⟨_, rfl⟩
  have HFD : Hid (∀ n, R = .done n → LkRes W P loop R (.returned (.tuple #[nv (tr.it W n).kind (pl P n).p, .pointer none, .int .i64 0])) w) := Lib.hid (fun n e => by subst e; rfl)
  have HFE : Hid (∀ c, R = .err c → LkRes W P loop R (.returned (.tuple #[.nilIface, .pointer none, .int .i64 c])) w) := Lib.hid (fun n e => by subst e; rfl)
  have HFO : Hid (∀ pre n rest e w', R = .on pre n rest → LkFollow loop (pa.follow pre (tr.it W n).to) rest e w' → LkRes W P loop R e w') := Lib.hid (fun pre n rest e w' e1 h => by subst e1; exact h)
  rw [← hR]
  have HR := Lib.hid hR
  clear ht hl hn hR
  have hnv0 : Hid (nv (tr.it W 0).kind (pl P 0).p = .iface 42 (.pointer (some ⟨(pl P 0).p, 0, none⟩))) := Lib.hid (by rw [hk0]; rfl)
  clear hk0
  go_enter Tryd.func30, Tryd.ntmps30
  go_upto_region 2 with (fail)
  rw [← hnv0.out]
  go_wp2
  go_loopw [11, 28] (fun s11 s28 wr => ∃ (k cur : Nat), k ≤ L.length ∧ s28 = .int .i64 (k : Int) ∧ s11 = nv (tr.it W cur).kind (pl P cur).p ∧ w = wr ∧ Hid (tr.Live W cur ∧ tr.Path W cur (L.take k) ∧ tr.look W follow cur (L.take k) (L.drop k) = R)) (fun _ s28 _ => L.length - (intOf s28).toNat)
  case atStart => exact ⟨0, 0, by omega, rfl, rfl, rfl, Lib.hid ⟨hlive0, .root, HR.out.symm⟩⟩
  case round =>
    obtain ⟨k, cur, hk, rfl, rfl, rfl, HJ⟩ := hrel
    by_cases hlt : k < L.length
    · have hlt' : (k : Int) < (L.length : Int) := by omega
      have hki := HT.out.inv.kind cur HJ.out.1
      obtain ⟨bb, oo, rfl, hbb, hc1⟩ := HL.out.at hlt
      have HD := Lib.hid (drop_getD L [] hlt)
      have HTK : Hid (L.take (k + 1) = L.take k ++ [L.getD k []]) := Lib.hid (by rw [List.take_add_one, List.getElem?_eq_getElem hlt, List.getD_eq_getElem?_getD, List.getElem?_eq_getElem hlt]; rfl)
      have hnl : (L.getD k []).length ≤ 16 := HN.out.2 _ (by rw [List.getD_eq_getElem?_getD, List.getElem?_eq_getElem hlt]; exact List.getElem_mem hlt)
      generalize L.getD k [] = nm at *
      have HLK : Hid (tr.look W follow cur (L.take k) (nm :: L.drop (k + 1)) = R) := Lib.hid (by rw [← HD.out]; exact HJ.out.2.2)
      by_cases hd : (tr.it W cur).kind = 1
      · have hds := HT.out.dir HJ.out.1 hd
        obtain ⟨hm1, hm2, hm3⟩ := hds
        have HM := Lib.hid hm2
        clear hm2
        rw [hd, nv_dir]
        have ha := as_dir1 (pl P cur).p
        have hkey : keyOf Tryd.prog 9 (.string (strOf nm)) = some (.string nm) := keyN Tryd.underlying9 (by unfold maxLen; omega)
        cases hch : tr.child W cur nm with
        | none =>
          have HE := Lib.hid (HFE.out 7 (by rw [← HLK.out]; exact tr.look_none hd hch))
          have hkv : nmap (kidV W P cur) (.string nm) = none := by show kidV W P cur nm = none; unfold kidV; rw [hch]; rfl
          have HKV := Lib.hid hkv
          clear hkv
          go_wp2_with (first
            | (refine wp_mlook_ok _ rfl _ _ _ rfl keyedS Tryd.underlying43 (zeroNode _) rfl HM.out _ rfl hkey ?_; rw [HKV.out])
            | fail)
          go_ret3
          exact ⟨bself _, HE.out⟩
        | some n =>
          obtain ⟨n1, n2, n3, n4⟩ := tr.child_live hch
          have hpath : tr.Path W n (L.take (k + 1)) := by rw [HTK.out, ← n4]; exact .step n1 n2 n3 HJ.out.2.1
          have HPT := Lib.hid hpath
          have hkn := HT.out.inv.kind n n2
          clear hpath
          by_cases hl3 : (tr.it W n).kind = 3
          · have hkv : nmap (kidV W P cur) (.string nm) = some (.iface 55 (.pointer (some ⟨(pl P n).p, 0, none⟩))) := by show kidV W P cur nm = _; unfold kidV; rw [hch]; show some (nv (tr.it W n).kind (pl P n).p) = _; rw [hl3]; rfl
            have HKV := Lib.hid hkv
            have ha3 := as_link3 (pl P n).p
            clear hkv
            by_cases hon : follow = true ∨ k + 1 < L.length
            · have hne : follow = true ∨ L.drop (k + 1) ≠ [] := hon.imp id fun h e => by
                have := congrArg List.length e
                rw [List.length_drop] at this
                simp at this
                omega
              have HFIN := Lib.hid (fun e w' => HFO.out (L.take k) n (L.drop (k + 1)) e w' (by rw [← HLK.out]; exact tr.look_on hd hch ⟨hl3, hne⟩))
              obtain ⟨hlk1, hlk2⟩ := HT.out.link n2 hl3
              have htg : (tr.it W n).to.length ≤ 140737488351232 := by have := HT.out.inv.to n n2; omega
              generalize (tr.it W n).to = tg at *
              clear hne hkn hl3 HFD HFE HFO HLK
              go_upto_region 12 with (first
                | (refine wp_mlook_ok _ rfl _ _ _ rfl keyedS Tryd.underlying43 (zeroNode _) rfl HM.out _ rfl hkey ?_; rw [HKV.out])
                | fail)
              go_cut [66] (fun s66 wx => s66 = .bool true ∧ w = wx)
              case first =>
                cases follow
                · have hr : k + 1 < L.length := by rcases hon with h | h; exact absurd h (by decide); exact h
                  have hr' : (k : Int) + 1 < (L.length : Int) := by omega
                  go_wp2
                  go_meet
                  exact ⟨rfl, rfl⟩
                · go_wp2
                  go_meet
                  exact ⟨rfl, rfl⟩
              case rest =>
                obtain ⟨rfl, rfl⟩ := hcut
                cases loop
                · have hsl := run_cut_h (P := Tryd.prog) pa.elemN (some ⟨bb, oo, none⟩) L.length c k (by have := HL.out.1; rw [List.length_map] at this; omega) (k : Int) rfl
                  have HFW : Hid (∀ wx, Below w.heap.size w wx → Calls Tryd.prog 42 #[.slice (some ⟨bb, oo, none⟩) k c, .string (strOf tg)] wx (StrsRes (pa.follow (L.take k) tg) wx)) := Lib.hid (fun wx hb => by
                    have hll : ((L.take k).map strOf).length = k := by rw [List.length_map, List.length_take]; omega
                    have h := path_Follow ((L.take k).map strOf) (some ⟨bb, oo, none⟩) c tg wx (by rw [List.map_take]; exact (SlRep.next HL.out hb).take k) (by omega) (fun s hs => by
                      obtain ⟨x, hx, rfl⟩ := List.mem_map.1 hs
                      have := HN.out.2 x (List.mem_of_mem_take hx)
                      show (strOf x).size ≤ _
                      simp [strOf, ByteArray.size]
                      omega) htg
                    rw [pa.lists_map, hll] at h
                    exact h)
                  have HSS : Hid (∀ wx, Below w.heap.size w wx → wx.cell? ⟨(pl P n).p, 0, none⟩ = some (.string (strOf tg))) := Lib.hid (fun wx hb => (hb.cell (p := ⟨(pl P n).p, 0, none⟩) hlk2).trans hlk1)
                  have HER := Lib.hid (fun c => pa.follow_err (o := L.take k) (p := tg) (c := c))
                  have HNM := Lib.hid (fun o (h : pa.follow (L.take k) tg = .ok o) => pa.follow_nms h (HN.out.take k))
                  generalize pa.follow (L.take k) tg = r at *
                  cases r with
                  | error ec =>
                    have hec : ec ≠ 0 := HER.out ec rfl
                    have hec1 : (ec != 0) = true := by simpa using hec
                    have HE := Lib.hid (fun w' => HFIN.out (.returned (.tuple #[.nilIface, .pointer none, .int .i64 ec])) w' rfl)
                    clear hon HNM HER hec
                    have HFW : Hid (∀ wx, Below w.heap.size w wx → Calls Tryd.prog 42 #[.slice (some ⟨bb, oo, none⟩) k c, .string (strOf tg)] wx fun e w' => ∃ A2 c2, e = .returned (.tuple #[.slice A2 0 c2, .int .i64 ec]) ∧ True ∧ Below wx.heap.size wx w') := Lib.hid (fun wx hb => (HFW.out wx hb).mono (fun e w' ⟨A2, c2, h1, _, h3⟩ => ⟨A2, c2, h1, trivial, h3⟩))
                    go_upto_region 15 with (fail)
                    go_cut [20] (fun s20 wx => s20 = .int .i64 ec ∧ Hid (Below w.heap.size w wx))
                    case first =>
                      --<ra
                      refine wp_region_tail [12] (fun wx => wx.cell? ⟨(pl P n).p, 0, none⟩ = some (.string (strOf tg))) (by kernel_rfl) (HSS.out w (bself _)) ?_
                      intro hHeld
                      refine wpAnyT_pure (i := 0) (v := ?_) rfl (by kernel_rfl) (by kernel_rfl) (by kernel_rfl) (fun _ _ _ h => h) (.inl ⟨by kernel_rfl, ?_⟩) (fun _ => hHeld) ?_ (by decide)
                      rotate_left
                      · intro w9; go_simp; try with_reducible rfl
                      try simp only [Act.put, List.getElem_toArray, List.getElem_cons_succ, List.getElem_cons_zero, List.setIfInBounds_toArray, List.set_cons_zero, List.set_cons_succ]
                      refine wpAnyT_pure (i := 1) (v := ?_) rfl (by kernel_rfl) (by kernel_rfl) (by kernel_rfl) (fun _ _ _ h => h) (.inl ⟨by kernel_rfl, ?_⟩) (fun _ => hHeld) ?_ (by decide)
                      rotate_left
                      · intro w9; go_simp; try with_reducible rfl
                      try simp only [Act.put, List.getElem_toArray, List.getElem_cons_succ, List.getElem_cons_zero, List.setIfInBounds_toArray, List.set_cons_zero, List.set_cons_succ]
                      refine wpAnyT_pure (i := 2) (v := ?_) rfl (by kernel_rfl) (by kernel_rfl) (by kernel_rfl) (fun _ _ _ h => h) (.inl ⟨by kernel_rfl, ?_⟩) (fun _ => hHeld) ?_ (by decide)
                      rotate_left
                      · intro w9; go_simp; try with_reducible rfl
                      try simp only [Act.put, List.getElem_toArray, List.getElem_cons_succ, List.getElem_cons_zero, List.setIfInBounds_toArray, List.set_cons_zero, List.set_cons_succ]
                      refine wpAnyT_pure (i := 3) (v := ?_) rfl (by kernel_rfl) (by kernel_rfl) (by kernel_rfl) (fun _ _ _ h => h) (.inl ⟨by kernel_rfl, ?_⟩) (fun _ => hHeld) ?_ (by decide)
                      rotate_left
                      · intro w9; go_simp; try with_reducible rfl
                      try simp only [Act.put, List.getElem_toArray, List.getElem_cons_succ, List.getElem_cons_zero, List.setIfInBounds_toArray, List.set_cons_zero, List.set_cons_succ]
                      refine wpAnyT_pure (i := 4) (v := ?_) rfl (by kernel_rfl) (by kernel_rfl) (by kernel_rfl) (fun _ _ _ h => h) (.inl ⟨by kernel_rfl, ?_⟩) (fun _ => hHeld) ?_ (by decide)
                      rotate_left
                      · intro w9; go_simp; try with_reducible rfl
                      try simp only [Act.put, List.getElem_toArray, List.getElem_cons_succ, List.getElem_cons_zero, List.setIfInBounds_toArray, List.set_cons_zero, List.set_cons_succ]
                      refine wpAnyT_pure (i := 5) (v := ?_) rfl (by kernel_rfl) (by kernel_rfl) (by kernel_rfl) (fun _ _ _ h => h) (.inl ⟨by kernel_rfl, ?_⟩) (fun _ => hHeld) ?_ (by decide)
                      rotate_left
                      · intro w9; go_simp; try with_reducible rfl
                      try simp only [Act.put, List.getElem_toArray, List.getElem_cons_succ, List.getElem_cons_zero, List.setIfInBounds_toArray, List.set_cons_zero, List.set_cons_succ]
                      refine wpAnyT_take (i := 6) [7, 8, 9, 10, 12, 13] (v := ?_) rfl (by kernel_rfl) (by kernel_rfl) (by kernel_rfl) (by kernel_rfl) (fun _ _ _ h => h) (.inl ⟨by kernel_rfl, ?_⟩) hHeld ?_
                      rotate_left
                      · intro w9 hS9; (try dsimp only at hS9); have q1 := hS9; go_simp; try with_reducible rfl
                      try simp only [Act.put, List.getElem_toArray, List.getElem_cons_succ, List.getElem_cons_zero, List.setIfInBounds_toArray, List.set_cons_zero, List.set_cons_succ]
                      refine wpAnyT_fork (i := 7) (j := 11) (by kernel_rfl) rfl rfl ?_ ?_
                      · intro K hK
                        go_simp
                        go_at_call 42
                        refine (HFW.out _ (by exact (by repeat (first | (with_reducible exact Below.refl _ _) | (with_reducible assumption) | (with_reducible refine bset ?_ ?_ _) | (with_reducible refine balloc ?_ _) | (with_reducible refine Below.drew ?_) | (with_reducible refine bdrewN ?_ _) | (with_reducible refine bnext ?_ (by with_reducible assumption)) | exact Nat.le_refl _ | (simp; done) | omega | (simp; omega))))).mono ?_
                        rintro e w6 ⟨A2, c2, rfl, ho6, hb6⟩
                        have HO6 := Lib.hid ho6
                        have HB6 : Hid (Below w.heap.size w w6) := Lib.hid (by refine bnext ?_ hb6; exact (by repeat (first | (with_reducible exact Below.refl _ _) | (with_reducible assumption) | (with_reducible refine bset ?_ ?_ _) | (with_reducible refine balloc ?_ _) | (with_reducible refine Below.drew ?_) | (with_reducible refine bdrewN ?_ _) | (with_reducible refine bnext ?_ (by with_reducible assumption)) | exact Nat.le_refl _ | (simp; done) | omega | (simp; omega))))
                        (try have HBA : Hid (BlkA w6 w.heap.size 29 #[.slice none 0 0]) := Lib.hid (by first | exact (after_allocD hb6).1 | exact (after_alloc hb6).1))
                        (try have f6 := HBA.out.frozen 0)
                        (try have l6 := HBA.out.lt)
                        (try have c6 := (HBA.out.get 0))
                        have hs6 := HSS.out w6 HB6.out
                        clear ho6 hb6
                        go_simp
                        have hHeld2 := hs6
                        refine hK.out _ _ (fun _ => hHeld2) ?_
                        clear hK K hHeld
                        have hHeld := hHeld2
                        clear hHeld2
                        try simp only [Act.put, List.getElem_toArray, List.getElem_cons_succ, List.getElem_cons_zero, List.setIfInBounds_toArray, List.set_cons_zero, List.set_cons_succ]
                        refine wpAnyT_pure (i := 8) (v := ?_) rfl (by kernel_rfl) (by kernel_rfl) (by kernel_rfl) (fun _ _ _ h => h) (.inl ⟨by kernel_rfl, ?_⟩) (fun _ => hHeld) ?_ (by decide)
                        rotate_left
                        · intro w9; go_simp; try with_reducible rfl
                        try simp only [Act.put, List.getElem_toArray, List.getElem_cons_succ, List.getElem_cons_zero, List.setIfInBounds_toArray, List.set_cons_zero, List.set_cons_succ]
                        refine wpAnyT_pure (i := 9) (v := ?_) rfl (by kernel_rfl) (by kernel_rfl) (by kernel_rfl) (fun _ _ _ h => h) (.inl ⟨by kernel_rfl, ?_⟩) (fun _ => hHeld) ?_ (by decide)
                        rotate_left
                        · intro w9; go_simp; try with_reducible rfl
                        try simp only [Act.put, List.getElem_toArray, List.getElem_cons_succ, List.getElem_cons_zero, List.setIfInBounds_toArray, List.set_cons_zero, List.set_cons_succ]
                        refine wpAnyT_pure (i := 10) (v := ?_) rfl (by kernel_rfl) (by kernel_rfl) (by kernel_rfl) (fun _ _ _ h => h) (.inl ⟨by kernel_rfl, ?_⟩) (fun _ => hHeld) ?_ (by decide)
                        rotate_left
                        · intro w9; go_simp; try with_reducible rfl
                        try simp only [Act.put, List.getElem_toArray, List.getElem_cons_succ, List.getElem_cons_zero, List.setIfInBounds_toArray, List.set_cons_zero, List.set_cons_succ]
                        refine wpAnyT_next (i := 11) (by kernel_rfl) rfl ?_
                        intro K hK
                        go_simp
                        refine hK.out _ _ (fun _ => (HSS.out _ (by first | exact (balloc HB6.out _) | exact (Below.drew (balloc HB6.out _)) | exact (by repeat (first | (with_reducible exact Below.refl _ _) | (with_reducible assumption) | (with_reducible refine bset ?_ ?_ _) | (with_reducible refine balloc ?_ _) | (with_reducible refine Below.drew ?_) | (with_reducible refine bdrewN ?_ _) | (with_reducible refine bnext ?_ (by with_reducible assumption)) | exact Nat.le_refl _ | (simp; done) | omega | (simp; omega)))))) ?_
                        clear hK K
                        try simp only [Act.put, List.getElem_toArray, List.getElem_cons_succ, List.getElem_cons_zero, List.setIfInBounds_toArray, List.set_cons_zero, List.set_cons_succ]
                        refine wpAnyT_next (i := 12) (by kernel_rfl) rfl ?_
                        intro K hK
                        go_simp
                        refine hK.out _ _ (fun h => absurd ((by kernel_rfl : false = _).trans h) Bool.false_ne_true) ?_
                        clear hK K
                        refine wpAnyT_pure (i := 13) (v := ?_) rfl (by kernel_rfl) (by kernel_rfl) (by kernel_rfl) (fun _ _ _ h => h) (.inl ⟨by kernel_rfl, ?_⟩) (fun h => absurd ((by kernel_rfl : false = _).trans h) Bool.false_ne_true) ?_ (by decide)
                        rotate_left
                        · intro w9; go_simp; try with_reducible rfl
                        try simp only [Act.put, List.getElem_toArray, List.getElem_cons_succ, List.getElem_cons_zero, List.setIfInBounds_toArray, List.set_cons_zero, List.set_cons_succ]
                        refine wpAnyT_done (by kernel_rfl) ?_ _
                        go_wp2
                        go_meet
                        first
                          | (with_reducible exact ⟨rfl, Lib.hid (bset HB6.out (Nat.le_refl _) _)⟩)
                          | (with_reducible exact ⟨rfl, Lib.hid (balloc HB6.out _)⟩)
                          | trace_state
                      · intro K hK
                        go_simp
                        refine hK.out _ _ (fun _ => (HSS.out _ (by first | exact (balloc HB6.out _) | exact (Below.drew (balloc HB6.out _)) | exact (by repeat (first | (with_reducible exact Below.refl _ _) | (with_reducible assumption) | (with_reducible refine bset ?_ ?_ _) | (with_reducible refine balloc ?_ _) | (with_reducible refine Below.drew ?_) | (with_reducible refine bdrewN ?_ _) | (with_reducible refine bnext ?_ (by with_reducible assumption)) | exact Nat.le_refl _ | (simp; done) | omega | (simp; omega)))))) ?_
                        clear hK K
                        try simp only [Act.put, List.getElem_toArray, List.getElem_cons_succ, List.getElem_cons_zero, List.setIfInBounds_toArray, List.set_cons_zero, List.set_cons_succ]
                        refine wpAnyT_next (i := 7) (by kernel_rfl) rfl ?_
                        intro K hK
                        go_simp
                        go_at_call 42
                        refine (HFW.out _ (by exact (by repeat (first | (with_reducible exact Below.refl _ _) | (with_reducible assumption) | (with_reducible refine bset ?_ ?_ _) | (with_reducible refine balloc ?_ _) | (with_reducible refine Below.drew ?_) | (with_reducible refine bdrewN ?_ _) | (with_reducible refine bnext ?_ (by with_reducible assumption)) | exact Nat.le_refl _ | (simp; done) | omega | (simp; omega))))).mono ?_
                        rintro e w6 ⟨A2, c2, rfl, ho6, hb6⟩
                        have HO6 := Lib.hid ho6
                        have HB6 : Hid (Below w.heap.size w w6) := Lib.hid (by refine bnext ?_ hb6; exact (by repeat (first | (with_reducible exact Below.refl _ _) | (with_reducible assumption) | (with_reducible refine bset ?_ ?_ _) | (with_reducible refine balloc ?_ _) | (with_reducible refine Below.drew ?_) | (with_reducible refine bdrewN ?_ _) | (with_reducible refine bnext ?_ (by with_reducible assumption)) | exact Nat.le_refl _ | (simp; done) | omega | (simp; omega))))
                        (try have HBA : Hid (BlkA w6 w.heap.size 29 #[.slice none 0 0]) := Lib.hid (by first | exact (after_allocD hb6).1 | exact (after_alloc hb6).1))
                        (try have f6 := HBA.out.frozen 0)
                        (try have l6 := HBA.out.lt)
                        (try have c6 := (HBA.out.get 0))
                        have hs6 := HSS.out w6 HB6.out
                        clear ho6 hb6
                        go_simp
                        have hHeld2 := hs6
                        refine hK.out _ _ (fun _ => hHeld2) ?_
                        clear hK K hHeld
                        have hHeld := hHeld2
                        clear hHeld2
                        try simp only [Act.put, List.getElem_toArray, List.getElem_cons_succ, List.getElem_cons_zero, List.setIfInBounds_toArray, List.set_cons_zero, List.set_cons_succ]
                        refine wpAnyT_pure (i := 8) (v := ?_) rfl (by kernel_rfl) (by kernel_rfl) (by kernel_rfl) (fun _ _ _ h => h) (.inl ⟨by kernel_rfl, ?_⟩) (fun _ => hHeld) ?_ (by decide)
                        rotate_left
                        · intro w9; go_simp; try with_reducible rfl
                        try simp only [Act.put, List.getElem_toArray, List.getElem_cons_succ, List.getElem_cons_zero, List.setIfInBounds_toArray, List.set_cons_zero, List.set_cons_succ]
                        refine wpAnyT_pure (i := 9) (v := ?_) rfl (by kernel_rfl) (by kernel_rfl) (by kernel_rfl) (fun _ _ _ h => h) (.inl ⟨by kernel_rfl, ?_⟩) (fun _ => hHeld) ?_ (by decide)
                        rotate_left
                        · intro w9; go_simp; try with_reducible rfl
                        try simp only [Act.put, List.getElem_toArray, List.getElem_cons_succ, List.getElem_cons_zero, List.setIfInBounds_toArray, List.set_cons_zero, List.set_cons_succ]
                        refine wpAnyT_pure (i := 10) (v := ?_) rfl (by kernel_rfl) (by kernel_rfl) (by kernel_rfl) (fun _ _ _ h => h) (.inl ⟨by kernel_rfl, ?_⟩) (fun _ => hHeld) ?_ (by decide)
                        rotate_left
                        · intro w9; go_simp; try with_reducible rfl
                        try simp only [Act.put, List.getElem_toArray, List.getElem_cons_succ, List.getElem_cons_zero, List.setIfInBounds_toArray, List.set_cons_zero, List.set_cons_succ]
                        refine wpAnyT_next (i := 12) (by kernel_rfl) rfl ?_
                        intro K hK
                        go_simp
                        refine hK.out _ _ (fun h => absurd ((by kernel_rfl : false = _).trans h) Bool.false_ne_true) ?_
                        clear hK K
                        refine wpAnyT_pure (i := 13) (v := ?_) rfl (by kernel_rfl) (by kernel_rfl) (by kernel_rfl) (fun _ _ _ h => h) (.inl ⟨by kernel_rfl, ?_⟩) (fun h => absurd ((by kernel_rfl : false = _).trans h) Bool.false_ne_true) ?_ (by decide)
                        rotate_left
                        · intro w9; go_simp; try with_reducible rfl
                        try simp only [Act.put, List.getElem_toArray, List.getElem_cons_succ, List.getElem_cons_zero, List.setIfInBounds_toArray, List.set_cons_zero, List.set_cons_succ]
                        refine wpAnyT_done (by kernel_rfl) ?_ _
                        go_wp2
                        go_meet
                        first
                          | (with_reducible exact ⟨rfl, Lib.hid (bset HB6.out (Nat.le_refl _) _)⟩)
                          | (with_reducible exact ⟨rfl, Lib.hid (balloc HB6.out _)⟩)
                          | trace_state
                      --ra>
                    case rest =>
                      obtain ⟨rfl, HB⟩ := hcut
                      go_wp2
                      go_ret3
                      exact ⟨HB.out, HE.out _⟩
                  | ok o =>
                    clear hon HER
                    have ho12 := (HNM.out o rfl).1
                    have HFW : Hid (∀ wx, Below w.heap.size w wx → Calls Tryd.prog 42 #[.slice (some ⟨bb, oo, none⟩) k c, .string (strOf tg)] wx fun e w' => ∃ A2 c2, e = .returned (.tuple #[.slice A2 o.length c2, .int .i64 0]) ∧ Own w' wx.heap.size 9 1 A2 o.length c2 (o.map pa.sv) ∧ Below wx.heap.size wx w') := Lib.hid (fun wx hb => HFW.out wx hb)
                    go_upto_region 15 with (fail)
                    go_cut [19, 20] (fun s19 s20 wx => ∃ g A2 c2, s19 = .pointer (some ⟨g, 0, none⟩) ∧ s20 = .int .i64 0 ∧ Hid (FoMid w wx g o A2 c2))
                    case first =>
                      --<rb
                      refine wp_region_tail [12] (fun wx => wx.cell? ⟨(pl P n).p, 0, none⟩ = some (.string (strOf tg))) (by kernel_rfl) (HSS.out w (bself _)) ?_
                      intro hHeld
                      refine wpAnyT_pure (i := 0) (v := ?_) rfl (by kernel_rfl) (by kernel_rfl) (by kernel_rfl) (fun _ _ _ h => h) (.inl ⟨by kernel_rfl, ?_⟩) (fun _ => hHeld) ?_ (by decide)
                      rotate_left
                      · intro w9; go_simp; try with_reducible rfl
                      try simp only [Act.put, List.getElem_toArray, List.getElem_cons_succ, List.getElem_cons_zero, List.setIfInBounds_toArray, List.set_cons_zero, List.set_cons_succ]
                      refine wpAnyT_pure (i := 1) (v := ?_) rfl (by kernel_rfl) (by kernel_rfl) (by kernel_rfl) (fun _ _ _ h => h) (.inl ⟨by kernel_rfl, ?_⟩) (fun _ => hHeld) ?_ (by decide)
                      rotate_left
                      · intro w9; go_simp; try with_reducible rfl
                      try simp only [Act.put, List.getElem_toArray, List.getElem_cons_succ, List.getElem_cons_zero, List.setIfInBounds_toArray, List.set_cons_zero, List.set_cons_succ]
                      refine wpAnyT_pure (i := 2) (v := ?_) rfl (by kernel_rfl) (by kernel_rfl) (by kernel_rfl) (fun _ _ _ h => h) (.inl ⟨by kernel_rfl, ?_⟩) (fun _ => hHeld) ?_ (by decide)
                      rotate_left
                      · intro w9; go_simp; try with_reducible rfl
                      try simp only [Act.put, List.getElem_toArray, List.getElem_cons_succ, List.getElem_cons_zero, List.setIfInBounds_toArray, List.set_cons_zero, List.set_cons_succ]
                      refine wpAnyT_pure (i := 3) (v := ?_) rfl (by kernel_rfl) (by kernel_rfl) (by kernel_rfl) (fun _ _ _ h => h) (.inl ⟨by kernel_rfl, ?_⟩) (fun _ => hHeld) ?_ (by decide)
                      rotate_left
                      · intro w9; go_simp; try with_reducible rfl
                      try simp only [Act.put, List.getElem_toArray, List.getElem_cons_succ, List.getElem_cons_zero, List.setIfInBounds_toArray, List.set_cons_zero, List.set_cons_succ]
                      refine wpAnyT_pure (i := 4) (v := ?_) rfl (by kernel_rfl) (by kernel_rfl) (by kernel_rfl) (fun _ _ _ h => h) (.inl ⟨by kernel_rfl, ?_⟩) (fun _ => hHeld) ?_ (by decide)
                      rotate_left
                      · intro w9; go_simp; try with_reducible rfl
                      try simp only [Act.put, List.getElem_toArray, List.getElem_cons_succ, List.getElem_cons_zero, List.setIfInBounds_toArray, List.set_cons_zero, List.set_cons_succ]
                      refine wpAnyT_pure (i := 5) (v := ?_) rfl (by kernel_rfl) (by kernel_rfl) (by kernel_rfl) (fun _ _ _ h => h) (.inl ⟨by kernel_rfl, ?_⟩) (fun _ => hHeld) ?_ (by decide)
                      rotate_left
                      · intro w9; go_simp; try with_reducible rfl
                      try simp only [Act.put, List.getElem_toArray, List.getElem_cons_succ, List.getElem_cons_zero, List.setIfInBounds_toArray, List.set_cons_zero, List.set_cons_succ]
                      refine wpAnyT_take (i := 6) [7, 8, 9, 10, 12, 13] (v := ?_) rfl (by kernel_rfl) (by kernel_rfl) (by kernel_rfl) (by kernel_rfl) (fun _ _ _ h => h) (.inl ⟨by kernel_rfl, ?_⟩) hHeld ?_
                      rotate_left
                      · intro w9 hS9; (try dsimp only at hS9); have q1 := hS9; go_simp; try with_reducible rfl
                      try simp only [Act.put, List.getElem_toArray, List.getElem_cons_succ, List.getElem_cons_zero, List.setIfInBounds_toArray, List.set_cons_zero, List.set_cons_succ]
                      refine wpAnyT_fork (i := 7) (j := 11) (by kernel_rfl) rfl rfl ?_ ?_
                      · intro K hK
                        go_simp
                        go_at_call 42
                        refine (HFW.out _ (by exact (by repeat (first | (with_reducible exact Below.refl _ _) | (with_reducible assumption) | (with_reducible refine bset ?_ ?_ _) | (with_reducible refine balloc ?_ _) | (with_reducible refine Below.drew ?_) | (with_reducible refine bdrewN ?_ _) | (with_reducible refine bnext ?_ (by with_reducible assumption)) | exact Nat.le_refl _ | (simp; done) | omega | (simp; omega))))).mono ?_
                        rintro e w6 ⟨A2, c2, rfl, ho6, hb6⟩
                        have HO6 := Lib.hid ho6
                        have HB6 : Hid (Below w.heap.size w w6) := Lib.hid (by refine bnext ?_ hb6; exact (by repeat (first | (with_reducible exact Below.refl _ _) | (with_reducible assumption) | (with_reducible refine bset ?_ ?_ _) | (with_reducible refine balloc ?_ _) | (with_reducible refine Below.drew ?_) | (with_reducible refine bdrewN ?_ _) | (with_reducible refine bnext ?_ (by with_reducible assumption)) | exact Nat.le_refl _ | (simp; done) | omega | (simp; omega))))
                        (try have HBA : Hid (BlkA w6 w.heap.size 29 #[.slice none 0 0]) := Lib.hid (by first | exact (after_allocD hb6).1 | exact (after_alloc hb6).1))
                        (try have f6 := HBA.out.frozen 0)
                        (try have l6 := HBA.out.lt)
                        (try have c6 := (HBA.out.get 0))
                        have hs6 := HSS.out w6 HB6.out
                        clear ho6 hb6
                        go_simp
                        have hHeld2 := hs6
                        refine hK.out _ _ (fun _ => hHeld2) ?_
                        clear hK K hHeld
                        have hHeld := hHeld2
                        clear hHeld2
                        try simp only [Act.put, List.getElem_toArray, List.getElem_cons_succ, List.getElem_cons_zero, List.setIfInBounds_toArray, List.set_cons_zero, List.set_cons_succ]
                        refine wpAnyT_pure (i := 8) (v := ?_) rfl (by kernel_rfl) (by kernel_rfl) (by kernel_rfl) (fun _ _ _ h => h) (.inl ⟨by kernel_rfl, ?_⟩) (fun _ => hHeld) ?_ (by decide)
                        rotate_left
                        · intro w9; go_simp; try with_reducible rfl
                        try simp only [Act.put, List.getElem_toArray, List.getElem_cons_succ, List.getElem_cons_zero, List.setIfInBounds_toArray, List.set_cons_zero, List.set_cons_succ]
                        refine wpAnyT_pure (i := 9) (v := ?_) rfl (by kernel_rfl) (by kernel_rfl) (by kernel_rfl) (fun _ _ _ h => h) (.inl ⟨by kernel_rfl, ?_⟩) (fun _ => hHeld) ?_ (by decide)
                        rotate_left
                        · intro w9; go_simp; try with_reducible rfl
                        try simp only [Act.put, List.getElem_toArray, List.getElem_cons_succ, List.getElem_cons_zero, List.setIfInBounds_toArray, List.set_cons_zero, List.set_cons_succ]
                        refine wpAnyT_pure (i := 10) (v := ?_) rfl (by kernel_rfl) (by kernel_rfl) (by kernel_rfl) (fun _ _ _ h => h) (.inl ⟨by kernel_rfl, ?_⟩) (fun _ => hHeld) ?_ (by decide)
                        rotate_left
                        · intro w9; go_simp; try with_reducible rfl
                        try simp only [Act.put, List.getElem_toArray, List.getElem_cons_succ, List.getElem_cons_zero, List.setIfInBounds_toArray, List.set_cons_zero, List.set_cons_succ]
                        refine wpAnyT_next (i := 11) (by kernel_rfl) rfl ?_
                        intro K hK
                        go_simp
                        refine hK.out _ _ (fun _ => (HSS.out _ (by first | exact (balloc HB6.out _) | exact (Below.drew (balloc HB6.out _)) | exact (by repeat (first | (with_reducible exact Below.refl _ _) | (with_reducible assumption) | (with_reducible refine bset ?_ ?_ _) | (with_reducible refine balloc ?_ _) | (with_reducible refine Below.drew ?_) | (with_reducible refine bdrewN ?_ _) | (with_reducible refine bnext ?_ (by with_reducible assumption)) | exact Nat.le_refl _ | (simp; done) | omega | (simp; omega)))))) ?_
                        clear hK K
                        try simp only [Act.put, List.getElem_toArray, List.getElem_cons_succ, List.getElem_cons_zero, List.setIfInBounds_toArray, List.set_cons_zero, List.set_cons_succ]
                        refine wpAnyT_next (i := 12) (by kernel_rfl) rfl ?_
                        intro K hK
                        go_simp
                        refine hK.out _ _ (fun h => absurd ((by kernel_rfl : false = _).trans h) Bool.false_ne_true) ?_
                        clear hK K
                        refine wpAnyT_pure (i := 13) (v := ?_) rfl (by kernel_rfl) (by kernel_rfl) (by kernel_rfl) (fun _ _ _ h => h) (.inl ⟨by kernel_rfl, ?_⟩) (fun h => absurd ((by kernel_rfl : false = _).trans h) Bool.false_ne_true) ?_ (by decide)
                        rotate_left
                        · intro w9; go_simp; try with_reducible rfl
                        try simp only [Act.put, List.getElem_toArray, List.getElem_cons_succ, List.getElem_cons_zero, List.setIfInBounds_toArray, List.set_cons_zero, List.set_cons_succ]
                        refine wpAnyT_done (by kernel_rfl) ?_ _
                        go_wp2
                        go_meet
                        first
                          | exact ⟨_, _, _, rfl, rfl, Lib.hid (FoMid.first (by simp) HBA.out HB6.out HO6.out)⟩
                          | exact ⟨_, _, _, rfl, rfl, Lib.hid (FoMid.second (by exact Nat.le_refl _) HB6.out HO6.out)⟩
                          | trace_state
                      · intro K hK
                        go_simp
                        refine hK.out _ _ (fun _ => (HSS.out _ (by first | exact (balloc HB6.out _) | exact (Below.drew (balloc HB6.out _)) | exact (by repeat (first | (with_reducible exact Below.refl _ _) | (with_reducible assumption) | (with_reducible refine bset ?_ ?_ _) | (with_reducible refine balloc ?_ _) | (with_reducible refine Below.drew ?_) | (with_reducible refine bdrewN ?_ _) | (with_reducible refine bnext ?_ (by with_reducible assumption)) | exact Nat.le_refl _ | (simp; done) | omega | (simp; omega)))))) ?_
                        clear hK K
                        try simp only [Act.put, List.getElem_toArray, List.getElem_cons_succ, List.getElem_cons_zero, List.setIfInBounds_toArray, List.set_cons_zero, List.set_cons_succ]
                        refine wpAnyT_next (i := 7) (by kernel_rfl) rfl ?_
                        intro K hK
                        go_simp
                        go_at_call 42
                        refine (HFW.out _ (by exact (by repeat (first | (with_reducible exact Below.refl _ _) | (with_reducible assumption) | (with_reducible refine bset ?_ ?_ _) | (with_reducible refine balloc ?_ _) | (with_reducible refine Below.drew ?_) | (with_reducible refine bdrewN ?_ _) | (with_reducible refine bnext ?_ (by with_reducible assumption)) | exact Nat.le_refl _ | (simp; done) | omega | (simp; omega))))).mono ?_
                        rintro e w6 ⟨A2, c2, rfl, ho6, hb6⟩
                        have HO6 := Lib.hid ho6
                        have HB6 : Hid (Below w.heap.size w w6) := Lib.hid (by refine bnext ?_ hb6; exact (by repeat (first | (with_reducible exact Below.refl _ _) | (with_reducible assumption) | (with_reducible refine bset ?_ ?_ _) | (with_reducible refine balloc ?_ _) | (with_reducible refine Below.drew ?_) | (with_reducible refine bdrewN ?_ _) | (with_reducible refine bnext ?_ (by with_reducible assumption)) | exact Nat.le_refl _ | (simp; done) | omega | (simp; omega))))
                        (try have HBA : Hid (BlkA w6 w.heap.size 29 #[.slice none 0 0]) := Lib.hid (by first | exact (after_allocD hb6).1 | exact (after_alloc hb6).1))
                        (try have f6 := HBA.out.frozen 0)
                        (try have l6 := HBA.out.lt)
                        (try have c6 := (HBA.out.get 0))
                        have hs6 := HSS.out w6 HB6.out
                        clear ho6 hb6
                        go_simp
                        have hHeld2 := hs6
                        refine hK.out _ _ (fun _ => hHeld2) ?_
                        clear hK K hHeld
                        have hHeld := hHeld2
                        clear hHeld2
                        try simp only [Act.put, List.getElem_toArray, List.getElem_cons_succ, List.getElem_cons_zero, List.setIfInBounds_toArray, List.set_cons_zero, List.set_cons_succ]
                        refine wpAnyT_pure (i := 8) (v := ?_) rfl (by kernel_rfl) (by kernel_rfl) (by kernel_rfl) (fun _ _ _ h => h) (.inl ⟨by kernel_rfl, ?_⟩) (fun _ => hHeld) ?_ (by decide)
                        rotate_left
                        · intro w9; go_simp; try with_reducible rfl
                        try simp only [Act.put, List.getElem_toArray, List.getElem_cons_succ, List.getElem_cons_zero, List.setIfInBounds_toArray, List.set_cons_zero, List.set_cons_succ]
                        refine wpAnyT_pure (i := 9) (v := ?_) rfl (by kernel_rfl) (by kernel_rfl) (by kernel_rfl) (fun _ _ _ h => h) (.inl ⟨by kernel_rfl, ?_⟩) (fun _ => hHeld) ?_ (by decide)
                        rotate_left
                        · intro w9; go_simp; try with_reducible rfl
                        try simp only [Act.put, List.getElem_toArray, List.getElem_cons_succ, List.getElem_cons_zero, List.setIfInBounds_toArray, List.set_cons_zero, List.set_cons_succ]
                        refine wpAnyT_pure (i := 10) (v := ?_) rfl (by kernel_rfl) (by kernel_rfl) (by kernel_rfl) (fun _ _ _ h => h) (.inl ⟨by kernel_rfl, ?_⟩) (fun _ => hHeld) ?_ (by decide)
                        rotate_left
                        · intro w9; go_simp; try with_reducible rfl
                        try simp only [Act.put, List.getElem_toArray, List.getElem_cons_succ, List.getElem_cons_zero, List.setIfInBounds_toArray, List.set_cons_zero, List.set_cons_succ]
                        refine wpAnyT_next (i := 12) (by kernel_rfl) rfl ?_
                        intro K hK
                        go_simp
                        refine hK.out _ _ (fun h => absurd ((by kernel_rfl : false = _).trans h) Bool.false_ne_true) ?_
                        clear hK K
                        refine wpAnyT_pure (i := 13) (v := ?_) rfl (by kernel_rfl) (by kernel_rfl) (by kernel_rfl) (fun _ _ _ h => h) (.inl ⟨by kernel_rfl, ?_⟩) (fun h => absurd ((by kernel_rfl : false = _).trans h) Bool.false_ne_true) ?_ (by decide)
                        rotate_left
                        · intro w9; go_simp; try with_reducible rfl
                        try simp only [Act.put, List.getElem_toArray, List.getElem_cons_succ, List.getElem_cons_zero, List.setIfInBounds_toArray, List.set_cons_zero, List.set_cons_succ]
                        refine wpAnyT_done (by kernel_rfl) ?_ _
                        go_wp2
                        go_meet
                        first
                          | exact ⟨_, _, _, rfl, rfl, Lib.hid (FoMid.first (by simp) HBA.out HB6.out HO6.out)⟩
                          | exact ⟨_, _, _, rfl, rfl, Lib.hid (FoMid.second (by exact Nat.le_refl _) HB6.out HO6.out)⟩
                          | trace_state
                      --rb>
                    case rest =>
                      obtain ⟨g, A2, c2, rfl, rfl, HF⟩ := hcut
                      rename World => w5
                      have hcap := HL.out.1
                      rw [List.length_map] at hcap
                      have HB5 := Lib.hid HF.out.2.2.1
                      have hsl2 := run_cut_l (P := Tryd.prog) pa.elemN (some ⟨bb, oo, none⟩) L.length c (k + 1) (by omega) ((k : Int) + 1) rfl
                      have hw1 : IntKind.i64.wrap ((k : Int) + 1) = (k : Int) + 1 := IntWalk.i64_in _ (by omega)
                      have HSS5 : Hid (w5.cell? ⟨g, 0, none⟩ = some (.slice A2 o.length c2)) := Lib.hid (HF.out.1.get 0)
                      have HLN : Hid (((L.drop (k + 1)).map pa.sv).length = (L.length - (k + 1)) * 1) := Lib.hid (by rw [List.length_map, List.length_drop, Nat.mul_one])
                      have HCE : Hid (Cells w5 (cutA (some ⟨bb, oo, none⟩) c (k + 1) 1) ((L.drop (k + 1)).map pa.sv)) := Lib.hid (by
                        have h := pa.str_cells ((SlRep.next HL.out HB5.out).drop (f := k + 1) (by rw [List.length_map]; omega))
                        have e : ((L.map strOf).drop (k + 1)).map Value.string = (L.drop (k + 1)).map pa.sv := by
                          rw [← List.map_drop, List.map_map]
                          rfl
                        rw [e] at h
                        exact h)
                      have HO5 := Lib.hid HF.out.2.1
                      have hgl := HF.out.1.lt
                      have HLE : Hid ((o ++ L.drop (k + 1)).length = o.length + (L.length - (k + 1))) := Lib.hid (by rw [List.length_append, List.length_drop])
                      have HSZ := Lib.hid HF.out.2.2.1.size
                      have HMID : Hid (∀ A8 c8 w8, Own w8 w.heap.size 9 1 A8 (o.length + (L.length - (k + 1))) c8 (o.map pa.sv ++ (L.drop (k + 1)).map pa.sv) → Grew w5.drew w8 A2 A8 → w8.frozen? ⟨g, 0, none⟩ = false ∧ g < w8.heap.size ∧ w8.cell? ⟨g, 0, none⟩ = some (.slice A2 o.length c2) ∧ FoMid w (w8.setCell ⟨g, 0, none⟩ (.slice A8 (o.length + (L.length - (k + 1))) c8)) g (o ++ L.drop (k + 1)) A8 c8) := Lib.hid (fun A8 c8 w8 ho hg => by
                        have hb1 := HF.out.1.drew.stays (Stays.grew hg) (fun e => (HF.out.1.apart HF.out.2.1 (by decide)) e)
                        refine ⟨hb1.frozen 0, hb1.lt, hb1.get 0, ?_, ?_, ?_, HF.out.2.2.2⟩
                        · rw [HLE.out]; exact hb1.set 0 _
                        · rw [HLE.out, List.map_append]
                          exact Own.setCell ho (hb1.apart ho (by decide)) _
                        · exact bset (Grew.step (Below.drew HF.out.2.2.1) hg (fun q hq => (HF.out.2.1.lt q hq).1)) HF.out.2.2.2 _)
                      clear HF
                      go_upto_region 18 with (fail)
                      go_cut [] (fun wx => ∃ A8 c8, Hid (FoMid w wx g (o ++ L.drop (k + 1)) A8 c8))
                      case first =>
                        --<rc
                        refine wp_region_tail [5, 6] (fun wx => wx.cell? ⟨g, 0, none⟩ = some (.slice A2 o.length c2)) (by kernel_rfl) (HSS5.out) ?_
                        intro hHeld
                        refine wpAnyT_pure (i := 1) (v := ?_) rfl (by kernel_rfl) (by kernel_rfl) (by kernel_rfl) (fun _ _ _ h => h) (.inl ⟨by kernel_rfl, ?_⟩) (fun _ => hHeld) ?_ (by decide)
                        rotate_left
                        · intro w9; go_simp; try with_reducible rfl
                        try simp only [Act.put, List.getElem_toArray, List.getElem_cons_succ, List.getElem_cons_zero, List.setIfInBounds_toArray, List.set_cons_zero, List.set_cons_succ]
                        refine wpAnyT_pure (i := 2) (v := ?_) rfl (by kernel_rfl) (by kernel_rfl) (by kernel_rfl) (fun _ _ _ h => h) (.inl ⟨by kernel_rfl, ?_⟩) (fun _ => hHeld) ?_ (by decide)
                        rotate_left
                        · intro w9; go_simp; try with_reducible rfl
                        try simp only [Act.put, List.getElem_toArray, List.getElem_cons_succ, List.getElem_cons_zero, List.setIfInBounds_toArray, List.set_cons_zero, List.set_cons_succ]
                        refine wpAnyT_pure (i := 3) (v := ?_) rfl (by kernel_rfl) (by kernel_rfl) (by kernel_rfl) (fun _ _ _ h => h) (.inl ⟨by kernel_rfl, ?_⟩) (fun _ => hHeld) ?_ (by decide)
                        rotate_left
                        · intro w9; go_simp; try with_reducible rfl
                        try simp only [Act.put, List.getElem_toArray, List.getElem_cons_succ, List.getElem_cons_zero, List.setIfInBounds_toArray, List.set_cons_zero, List.set_cons_succ]
                        refine wpAnyT_pure (i := 4) (v := ?_) rfl (by kernel_rfl) (by kernel_rfl) (by kernel_rfl) (fun _ _ _ h => h) (.inl ⟨by kernel_rfl, ?_⟩) (fun _ => hHeld) ?_ (by decide)
                        rotate_left
                        · intro w9; go_simp; try with_reducible rfl
                        try simp only [Act.put, List.getElem_toArray, List.getElem_cons_succ, List.getElem_cons_zero, List.setIfInBounds_toArray, List.set_cons_zero, List.set_cons_succ]
                        refine wpAnyT_take (i := 0) [5, 6] (v := ?_) rfl (by kernel_rfl) (by kernel_rfl) (by kernel_rfl) (by kernel_rfl) (fun _ _ _ h => h) (.inl ⟨by kernel_rfl, ?_⟩) hHeld ?_
                        rotate_left
                        · intro w9 hS9; (try dsimp only at hS9); have q1 := hS9; go_simp; try with_reducible rfl
                        try simp only [Act.put, List.getElem_toArray, List.getElem_cons_succ, List.getElem_cons_zero, List.setIfInBounds_toArray, List.set_cons_zero, List.set_cons_succ]
                        refine wpAnyT_next (i := 5) (by kernel_rfl) rfl ?_
                        intro K hK
                        refine step_app _ (by rfl) _ _ _ (by rfl) pa.elemN w.heap.size A2 o.length c2 _ (by rfl) HO5.out (cutA (some ⟨bb, oo, none⟩) c (k + 1) 1) (L.length - (k + 1)) (c - (k + 1)) ((L.drop (k + 1)).map pa.sv) (by rfl) HLN.out HCE.out (pa.one _) (by omega) (by unfold maxLen; omega) HSZ.out ?_
                        intro A8 c8 w8 hO8 hg8
                        obtain ⟨f8, l8, c8c, m8⟩ := HMID.out A8 c8 w8 hO8 hg8
                        have HM8 := Lib.hid m8
                        clear hO8 hg8 m8
                        go_simp
                        refine hK.out _ _ (fun h => absurd ((by kernel_rfl : false = _).trans h) Bool.false_ne_true) ?_
                        clear hK K
                        try simp only [Act.put, List.getElem_toArray, List.getElem_cons_succ, List.getElem_cons_zero, List.setIfInBounds_toArray, List.set_cons_zero, List.set_cons_succ]
                        refine wpAnyT_next (i := 6) (by kernel_rfl) rfl ?_
                        intro K hK
                        go_simp
                        refine hK.out _ _ (fun h => absurd ((by kernel_rfl : false = _).trans h) Bool.false_ne_true) ?_
                        clear hK K
                        refine wpAnyT_done (by kernel_rfl) ?_ _
                        go_wp2
                        go_meet
                        exact ⟨_, _, HM8⟩
                        --rc>
                      case rest =>
                        obtain ⟨A8, c8, HF⟩ := hcut
                        rename World => w9
                        have hg9 := HF.out.1.get 0
                        simp only [List.getElem?_toArray, List.getElem?_cons_zero] at hg9
                        have hgl9 := HF.out.1.lt
                        have HB9 := Lib.hid HF.out.2.2.1
                        have HFN : Hid (LkOn (o ++ L.drop (k + 1)) (.returned (.tuple #[.nilIface, .pointer (some ⟨g, 0, none⟩), .int .i64 0])) w9) := Lib.hid ⟨g, A8, c8, rfl, hg9, hgl9, (NmRep.of HF.out.2.1).2⟩
                        clear HF
                        by_cases h13 : 12 < (o ++ L.drop (k + 1)).length
                        · have HE := Lib.hid (HFIN.out (.returned (.tuple #[.nilIface, .pointer none, .int .i64 9])) w9 (by show (if 12 < (o ++ L.drop (k + 1)).length then _ else _); rw [if_pos h13]; rfl))
                          generalize (o ++ L.drop (k + 1)).length = nn at *
                          have h13' : (12 : Int) < (nn : Int) := by omega
                          go_wp2
                          go_ret3
                          exact ⟨HB9.out, HE.out⟩
                        · have HE := Lib.hid (HFIN.out _ w9 (by show (if 12 < (o ++ L.drop (k + 1)).length then _ else _); rw [if_neg h13]; exact HFN.out))
                          generalize (o ++ L.drop (k + 1)).length = nn at *
                          have h13' : ¬ (12 : Int) < (nn : Int) := by omega
                          go_wp2
                          go_ret3
                          exact ⟨HB9.out, HE.out⟩
                · have HE := Lib.hid (HFIN.out (.returned (.tuple #[.nilIface, .pointer none, .int .i64 13])) w rfl)
                  go_wp2
                  go_ret3
                  exact ⟨bself _, HE.out⟩
            · have hf : follow = false := by cases follow; rfl; exact absurd (.inl rfl) hon
              subst hf
              have hr : ¬ (k : Int) + 1 < (L.length : Int) := fun h => hon (.inr (by omega))
              have HE : Hid (tr.look W false n (L.take (k + 1)) (L.drop (k + 1)) = R) := Lib.hid (by
                rw [HTK.out, ← tr.look_go hd hch (fun h => hon ?_)]
                · exact HLK.out
                · rcases h.2 with e | e
                  · exact absurd e (by decide)
                  · exact .inr (by
                      rcases Nat.lt_or_ge (k + 1) L.length with h1 | h1
                      · exact h1
                      · exact absurd (List.drop_eq_nil_of_le h1) e))
              have HNV : Hid (.iface 55 (.pointer (some ⟨(pl P n).p, 0, none⟩)) = nv (tr.it W n).kind (pl P n).p) := Lib.hid (by rw [hl3]; rfl)
              clear hkn hl3
              go_wp2_with (first
                | (refine wp_mlook_ok _ rfl _ _ _ rfl keyedS Tryd.underlying43 (zeroNode _) rfl HM.out _ rfl hkey ?_; rw [HKV.out])
                | fail)
              go_roundw
              case rel => exact ⟨k + 1, n, by omega, by go_num, HNV.out, trivial, Lib.hid ⟨n2, HPT.out, HE.out⟩⟩
              case measure => simp [intOf]; omega
          · have HE : Hid (tr.look W follow n (L.take (k + 1)) (L.drop (k + 1)) = R) := Lib.hid (by rw [HTK.out, ← tr.look_go hd hch (fun h => hl3 h.1)]; exact HLK.out)
            rcases hkn with hkn | hkn | hkn
            · have hkv : nmap (kidV W P cur) (.string nm) = some (.iface 42 (.pointer (some ⟨(pl P n).p, 0, none⟩))) := by show kidV W P cur nm = _; unfold kidV; rw [hch]; show some (nv (tr.it W n).kind (pl P n).p) = _; rw [hkn]; rfl
              have HKV := Lib.hid hkv
              have ha3 := as_link1 (pl P n).p
              have HNV : Hid (.iface 42 (.pointer (some ⟨(pl P n).p, 0, none⟩)) = nv (tr.it W n).kind (pl P n).p) := Lib.hid (by rw [hkn]; rfl)
              clear hkv hkn hl3
              go_wp2_with (first
                | (refine wp_mlook_ok _ rfl _ _ _ rfl keyedS Tryd.underlying43 (zeroNode _) rfl HM.out _ rfl hkey ?_; rw [HKV.out])
                | fail)
              go_roundw
              case rel => exact ⟨k + 1, n, by omega, by go_num, HNV.out, trivial, Lib.hid ⟨n2, HPT.out, HE.out⟩⟩
              case measure => simp [intOf]; omega
            · have hkv : nmap (kidV W P cur) (.string nm) = some (.iface 52 (.pointer (some ⟨(pl P n).p, 0, none⟩))) := by show kidV W P cur nm = _; unfold kidV; rw [hch]; show some (nv (tr.it W n).kind (pl P n).p) = _; rw [hkn]; rfl
              have HKV := Lib.hid hkv
              have ha3 := as_link2 (pl P n).p
              have HNV : Hid (.iface 52 (.pointer (some ⟨(pl P n).p, 0, none⟩)) = nv (tr.it W n).kind (pl P n).p) := Lib.hid (by rw [hkn]; rfl)
              clear hkv hkn hl3
              go_wp2_with (first
                | (refine wp_mlook_ok _ rfl _ _ _ rfl keyedS Tryd.underlying43 (zeroNode _) rfl HM.out _ rfl hkey ?_; rw [HKV.out])
                | fail)
              go_roundw
              case rel => exact ⟨k + 1, n, by omega, by go_num, HNV.out, trivial, Lib.hid ⟨n2, HPT.out, HE.out⟩⟩
              case measure => simp [intOf]; omega
            · exact absurd hkn hl3
      · have HE := Lib.hid (HFE.out 15 (by rw [← HLK.out]; exact tr.look_file hd))
        rcases hki with hki | hki | hki
        · exact absurd hki hd
        · rw [hki, nv_file]
          have ha := as_dir2 (pl P cur).p
          go_wp2
          go_ret3
          exact ⟨bself _, HE.out⟩
        · rw [hki, nv_link]
          have ha := as_dir3 (pl P cur).p
          go_wp2
          go_ret3
          exact ⟨bself _, HE.out⟩
    · obtain rfl : k = L.length := by omega
      have HE := Lib.hid (HFD.out cur (by rw [← HJ.out.2.2, List.drop_length]; rfl))
      generalize nv (tr.it W cur).kind (pl P cur).p = v at *
      go_wp2
      go_ret3
      exact ⟨bself _, HE.out⟩
end Go.Proofs.YtlcjdlnhniemcaaDoor
