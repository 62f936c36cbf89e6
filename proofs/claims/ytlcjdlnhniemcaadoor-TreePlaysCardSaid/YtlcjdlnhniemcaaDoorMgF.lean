/- Texts in one: Tree4, Tree5. No condition. -/
import Derived.Test.YtlcjdlnhniemcaaDoorTree3
section
namespace Go.Proofs.YtlcjdlnhniemcaaDoor
open Go.RowKit Go.Maps Go.MapKept
set_option linter.unusedSimpArgs false
set_option linter.unusedVariables false

theorem tr.look_err {W : List tr.Item} {f : Bool} {c : Int} : ∀ {L : List (List UInt8)} {d : Nat} {pre : List (List UInt8)}, tr.look W f d pre L = .err c → c = 7 ∨ c = 15
  | [], d, pre, h => by cases h
  | nm :: rest, d, pre, h => by
    by_cases h1 : (tr.it W d).kind = 1
    · cases hc : tr.child W d nm with
      | none => rw [tr.look_none h1 hc] at h; cases h; exact .inl rfl
      | some n =>
        by_cases h2 : (tr.it W n).kind = 3 ∧ (f = true ∨ rest ≠ [])
        · rw [tr.look_on h1 hc h2] at h; cases h
        · rw [tr.look_go h1 hc h2] at h; exact tr.look_err h
    · rw [tr.look_file h1] at h; cases h; exact .inr rfl
theorem tr.look_pre {W : List tr.Item} {f : Bool} {n : Nat} {pre' rest' : List (List UInt8)} : ∀ {L : List (List UInt8)} {d : Nat} {pre : List (List UInt8)}, tr.look W f d pre L = .on pre' n rest' → ∃ nm, pre ++ L = pre' ++ nm :: rest'
  | [], d, pre, h => by cases h
  | nm :: rest, d, pre, h => by
    by_cases h1 : (tr.it W d).kind = 1
    · cases hc : tr.child W d nm with
      | none => rw [tr.look_none h1 hc] at h; cases h
      | some m =>
        by_cases h2 : (tr.it W m).kind = 3 ∧ (f = true ∨ rest ≠ [])
        · rw [tr.look_on h1 hc h2] at h; cases h; exact ⟨nm, rfl⟩
        · rw [tr.look_go h1 hc h2] at h
          obtain ⟨x, hx⟩ := tr.look_pre h
          exact ⟨x, by rw [← hx]; simp⟩
    · rw [tr.look_file h1] at h; cases h
theorem tr.find_err_ne {W : List tr.Item} {f : Bool} {c : Int} : ∀ {j : Nat} {L : List (List UInt8)}, tr.find W f j L = .error c → c ≠ 0 := by
  intro j
  induction j with
  | zero =>
    intro L h
    cases hl : tr.look W f 0 [] L with
    | done m => rw [tr.find_done hl] at h; cases h
    | err e => rw [tr.find_err hl] at h; cases h; rcases tr.look_err hl with rfl | rfl <;> decide
    | on pre m rest => rw [tr.find_loop hl] at h; cases h; decide
  | succ j ih =>
    intro L h
    cases hl : tr.look W f 0 [] L with
    | done m => rw [tr.find_done hl] at h; cases h
    | err e => rw [tr.find_err hl] at h; cases h; rcases tr.look_err hl with rfl | rfl <;> decide
    | on pre m rest =>
      cases h2 : pa.follow pre (tr.it W m).to with
      | error e => rw [tr.find_no hl h2] at h; cases h; exact pa.follow_err h2
      | ok o =>
        by_cases h3 : 12 < (o ++ rest).length
        · rw [tr.find_full hl h2 h3] at h; cases h; decide
        · rw [tr.find_on hl h2 h3] at h; exact ih h
theorem Nms.split {L pre rest : List (List UInt8)} {nm : List UInt8} (h : Nms L) (e : L = pre ++ nm :: rest) : Nms pre ∧ ∀ s ∈ rest, s.length ≤ 16 := by
  subst e
  refine ⟨⟨by have := h.1; rw [List.length_append] at this; omega, fun s hs => h.2 s (List.mem_append.2 (.inl hs))⟩, fun s hs => h.2 s (List.mem_append.2 (.inr (List.mem_cons_of_mem _ hs)))⟩
/-- look, told by what find makes of it -/
theorem tree_look3 {B Tb M : Nat} {W : List tr.Item} {P : List NA} (L : List (List UInt8)) (A : Option Addr) (c : Nat) (follow : Bool) (j : Nat) (w : World) (ht : TAt w B Tb M W P) (hl : NmRep w A c L) (hn : Nms L) (loop : Bool) (hj : loop = decide (j = 0)) :
    (∃ n, tr.find W follow j L = .ok n ∧ Calls Tryd.prog 30 #[.pointer (some ⟨Tb, 0, none⟩), .slice A L.length c, .bool follow, .bool loop] w fun e w' => Below w.heap.size w w' ∧ e = .returned (.tuple #[nv (tr.it W n).kind (pl P n).p, .pointer none, .int .i64 0])) ∨
    (∃ q, tr.find W follow j L = .error q ∧ q ≠ 0 ∧ Calls Tryd.prog 30 #[.pointer (some ⟨Tb, 0, none⟩), .slice A L.length c, .bool follow, .bool loop] w fun e w' => Below w.heap.size w w' ∧ LkNo q e) ∨
    (∃ j' o, j = j' + 1 ∧ Nms o ∧ tr.find W follow j L = tr.find W follow j' o ∧ Calls Tryd.prog 30 #[.pointer (some ⟨Tb, 0, none⟩), .slice A L.length c, .bool follow, .bool loop] w fun e w' => Below w.heap.size w w' ∧ LkOn o e w') := by
  have H := tree_look L A c follow loop w ht hl hn
  cases hk : tr.look W follow 0 [] L with
  | done n =>
    refine .inl ⟨n, tr.find_done hk, H.mono fun e w' h => ⟨h.1, ?_⟩⟩
    have := h.2; rw [hk] at this; exact this
  | err q =>
    refine .inr (.inl ⟨q, tr.find_err hk, by rcases tr.look_err hk with rfl | rfl <;> decide, H.mono fun e w' h => ⟨h.1, ?_⟩⟩)
    have := h.2; rw [hk] at this; exact this
  | on pre n rest =>
    rw [hk] at H
    change Calls _ _ _ _ (fun e w' => _ ∧ LkFollow loop _ rest e w') at H
    obtain ⟨nm, hnm⟩ := tr.look_pre hk
    obtain ⟨s1, s2⟩ := hn.split hnm
    cases j with
    | zero =>
      subst hj
      exact .inr (.inl ⟨13, tr.find_loop hk, by decide, H.mono fun e w' h => ⟨h.1, h.2⟩⟩)
    | succ j =>
      obtain rfl : loop = false := by rw [hj]; simp
      cases h2 : pa.follow pre (tr.it W n).to with
      | error q =>
        rw [h2] at H
        exact .inr (.inl ⟨q, tr.find_no hk h2, pa.follow_err h2, H.mono fun e w' h => ⟨h.1, h.2⟩⟩)
      | ok o =>
        rw [h2] at H
        by_cases h3 : 12 < (o ++ rest).length
        · refine .inr (.inl ⟨9, tr.find_full hk h2 h3, by decide, H.mono fun e w' h => ⟨h.1, ?_⟩⟩)
          have := h.2; unfold LkFollow at this; simp only [Bool.false_eq_true, if_false] at this; rw [if_pos h3] at this; exact this
        · refine .inr (.inr ⟨j, o ++ rest, rfl, ⟨by omega, fun s hs => ?_⟩, tr.find_on hk h2 h3, H.mono fun e w' h => ⟨h.1, ?_⟩⟩)
          · rcases List.mem_append.1 hs with hs | hs
            · exact (pa.follow_nms h2 s1).2 s hs
            · exact s2 s hs
          · have := h.2; unfold LkFollow at this; simp only [Bool.false_eq_true, if_false] at this; rw [if_neg h3] at this; exact this

def FiRes (W : List tr.Item) (P : List NA) (r : Except Int Nat) (e : Ending) : Prop := match r with
  | .ok n => e = .returned (.tuple #[nv (tr.it W n).kind (pl P n).p, .int .i64 0])
  | .error c => e = .returned (.tuple #[.nilIface, .int .i64 c])

set_option maxHeartbeats 1000000 in
theorem tree_find {B Tb M : Nat} {W : List tr.Item} {P : List NA} (L : List (List UInt8)) (A : Option Addr) (c : Nat) (follow : Bool) (w : World) (ht : TAt w B Tb M W P) (hl : NmRep w A c L) (hn : Nms L) :
    Calls Tryd.prog 18 #[.pointer (some ⟨Tb, 0, none⟩), .slice A L.length c, .bool follow] w fun e w' => Below w.heap.size w w' ∧ FiRes W P (tr.find W follow 8 L) e := by
  have HT := Lib.hid ht
  obtain ⟨R, hR⟩ : ∃ R, R = tr.find W follow 8 L := ⟨_, rfl⟩
  have HRok : Hid (∀ n, R = .ok n → FiRes W P R (.returned (.tuple #[nv (tr.it W n).kind (pl P n).p, .int .i64 0]))) := Lib.hid (fun n e => by subst e; rfl)
  have HRno : Hid (∀ q, R = .error q → FiRes W P R (.returned (.tuple #[.nilIface, .int .i64 q]))) := Lib.hid (fun n e => by subst e; rfl)
  rw [← hR]
  have HI : Hid (NmRep w A c L ∧ Nms L ∧ Below w.heap.size w w ∧ tr.find W follow 8 L = R) := Lib.hid ⟨hl, hn, bself _, hR.symm⟩
  clear ht hl hn hR
  go_enter Tryd.func18, Tryd.ntmps18
  go_wp2
  go_loopw [1, 8] (fun s1 s8 wr => ∃ (k : Nat) (L1 : List (List UInt8)) (A1 : Option Addr) (c1 : Nat), k ≤ 8 ∧ s1 = .slice A1 L1.length c1 ∧ s8 = .int .i64 (k : Int) ∧ Hid (NmRep wr A1 c1 L1 ∧ Nms L1 ∧ Below w.heap.size w wr ∧ tr.find W follow (8 - k) L1 = R)) (fun _ s8 _ => 8 - (intOf s8).toNat)
  case atStart => exact ⟨0, L, A, c, by omega, rfl, rfl, HI⟩
  case round =>
    obtain ⟨k, L1, A1, c1, hk, rfl, rfl, HJ⟩ := hrel
    rename World => wr
    have H3 := tree_look3 L1 A1 c1 follow (8 - k) wr (HT.out.next HJ.out.2.2.1) HJ.out.1 HJ.out.2.1 (decide ((k : Int) = 8)) (by simp; omega)
    obtain ⟨b, hb⟩ : ∃ b, b = decide ((k : Int) = 8) := ⟨_, rfl⟩
    have hb8 : ((k : Int) == 8) = b := by rw [hb]; rfl
    rw [← hb] at H3
    rcases H3 with ⟨n, h1, h2⟩ | ⟨q, h1, hq, h2⟩ | ⟨j', o, hj, ho, h1, h2⟩
    · have HC := Lib.hid h2
      have HE := Lib.hid (HRok.out n (HJ.out.2.2.2.symm.trans h1))
      clear h1 h2 hb
      go_wp2_with (go_at_call 30; refine HC.out.mono ?_; rintro e w2 ⟨hb2, rfl⟩)
      go_ret2
      exact ⟨bnext HJ.out.2.2.1 hb2, HE.out⟩
    · have HC := Lib.hid h2
      have HE := Lib.hid (HRno.out q (HJ.out.2.2.2.symm.trans h1))
      have hq1 : (q != 0) = true := by simpa using hq
      clear h1 h2 hb hq
      go_wp2_with (go_at_call 30; refine HC.out.mono ?_; rintro e w2 ⟨hb2, rfl⟩)
      go_ret2
      exact ⟨bnext HJ.out.2.2.1 hb2, HE.out⟩
    · have HC := Lib.hid h2
      have hk7 : k < 8 := by omega
      have HJ' : Hid (tr.find W follow (8 - (k + 1)) o = R) := Lib.hid (by rw [show 8 - (k + 1) = j' by omega, ← h1]; exact HJ.out.2.2.2)
      have HO := Lib.hid ho
      clear h1 h2 hb hj ho
      go_wp2_with (go_at_call 30; refine HC.out.mono ?_; rintro e w2 ⟨hb2, g2, A2, c2, rfl, hc2, hg2, hn2⟩)
      go_roundw
      case rel => exact ⟨k + 1, o, A2, c2, by omega, rfl, by go_num, Lib.hid ⟨hn2, HO.out, bnext HJ.out.2.2.1 hb2, HJ'.out⟩⟩
      case measure => simp [intOf]; omega

def tr.place (W : List tr.Item) (L : List (List UInt8)) : Except Int Nat := match tr.find W true 8 L.dropLast with
  | .error e => .error e
  | .ok d => if (tr.it W d).kind = 1 then .ok d else .error 15
theorem tr.place_live {W : List tr.Item} (hI : tr.Inv W) {L : List (List UInt8)} {d : Nat} (h : tr.place W L = .ok d) : tr.Live W d ∧ (tr.it W d).kind = 1 := by
  unfold tr.place at h
  cases hf : tr.find W true 8 L.dropLast with
  | error e => rw [hf] at h; cases h
  | ok m =>
    rw [hf] at h
    simp only at h
    split at h
    · next hk => cases h; exact ⟨(tr.find_live hI hf).1, hk⟩
    · cases h
theorem tr.place_err {W : List tr.Item} {L : List (List UInt8)} {c : Int} (h : tr.place W L = .error c) : c ≠ 0 := by
  unfold tr.place at h
  cases hf : tr.find W true 8 L.dropLast with
  | error e => rw [hf] at h; cases h; exact tr.find_err_ne hf
  | ok m =>
    rw [hf] at h
    simp only at h
    split at h
    · cases h
    · cases h; decide
def PlRes (P : List NA) (r : Except Int Nat) (e : Ending) : Prop := match r with
  | .ok d => e = .returned (.tuple #[.pointer (some ⟨(pl P d).p, 0, none⟩), .int .i64 0])
  | .error c => e = .returned (.tuple #[.pointer none, .int .i64 c])
set_option maxHeartbeats 1000000 in
theorem tree_place {B Tb M : Nat} {W : List tr.Item} {P : List NA} (L : List (List UInt8)) (A : Option Addr) (c : Nat) (w : World) (ht : TAt w B Tb M W P) (hl : NmRep w A c L) (hn : Nms L) (hne : 0 < L.length) :
    Calls Tryd.prog 28 #[.pointer (some ⟨Tb, 0, none⟩), .slice A L.length c] w fun e w' => Below w.heap.size w w' ∧ PlRes P (tr.place W L) e := by
  have hlen : L.dropLast.length = L.length - 1 := List.length_dropLast
  have hl' : NmRep w A c L.dropLast := by
    unfold NmRep
    rw [List.dropLast_eq_take, List.map_take]
    exact SlRep.take hl _
  have H := tree_find L.dropLast A c true w ht hl' hn.front
  rw [hlen] at H
  have HI := Lib.hid ht.inv
  have hcc : L.length ≤ c := by have := hl.1; rw [List.length_map] at this; exact this
  have hsl := run_cut_h (P := Tryd.prog) pa.elemN A L.length c (L.length - 1) (by omega) ((L.length : Int) - 1) (by omega)
  have hw1 : IntKind.i64.wrap ((L.length : Int) - 1) = (L.length : Int) - 1 := IntWalk.i64_in _ (by have := hn.1; omega)
  obtain ⟨R, hR⟩ : ∃ R, R = tr.place W L := ⟨_, rfl⟩
  rw [← hR]
  cases hf : tr.find W true 8 L.dropLast with
  | error q =>
    rw [hf] at H
    have HC := Lib.hid H
    have hq : (q != 0) = true := by simpa using tr.find_err_ne hf
    have HE : Hid (R = .error q) := Lib.hid (by rw [hR]; unfold tr.place; rw [hf])
    clear H hf hR ht hl hl' hn
    go_enter Tryd.func28, Tryd.ntmps28
    go_wp2_with (go_at_call 18; refine HC.out.mono ?_; rintro e w2 ⟨hb2, rfl⟩)
    go_ret2
    rw [HE.out]
    exact ⟨hb2, rfl⟩
  | ok d =>
    rw [hf] at H
    have HC := Lib.hid H
    by_cases hk : (tr.it W d).kind = 1
    · have HE : Hid (R = .ok d) := Lib.hid (by rw [hR]; unfold tr.place; rw [hf]; exact if_pos hk)
      have HC : Hid (Calls Tryd.prog 18 #[.pointer (some ⟨Tb, 0, none⟩), .slice A (L.length - 1) c, .bool true] w fun e w' => Below w.heap.size w w' ∧ e = .returned (.tuple #[.iface 42 (.pointer (some ⟨(pl P d).p, 0, none⟩)), .int .i64 0])) := Lib.hid (HC.out.mono fun e w' h => ⟨h.1, by have h2 : e = .returned (.tuple #[nv (tr.it W d).kind (pl P d).p, .int .i64 0]) := h.2; rw [hk] at h2; exact h2⟩)
      have ha := as_dir1 (pl P d).p
      clear H hf hR ht hl hl' hn
      go_enter Tryd.func28, Tryd.ntmps28
      go_wp2_with (go_at_call 18; refine HC.out.mono ?_; rintro e w2 ⟨hb2, rfl⟩)
      go_ret2
      rw [HE.out]
      exact ⟨hb2, rfl⟩
    · have HE : Hid (R = .error 15) := Lib.hid (by rw [hR]; unfold tr.place; rw [hf]; exact if_neg hk)
      obtain ⟨hk2, hk3⟩ := tr.find_live HI.out hf
      have hk4 : (tr.it W d).kind = 2 := by
        rcases HI.out.kind d hk2 with h | h | h
        · exact absurd h hk
        · exact h
        · exact absurd h (hk3 rfl)
      have HC : Hid (Calls Tryd.prog 18 #[.pointer (some ⟨Tb, 0, none⟩), .slice A (L.length - 1) c, .bool true] w fun e w' => Below w.heap.size w w' ∧ e = .returned (.tuple #[.iface 52 (.pointer (some ⟨(pl P d).p, 0, none⟩)), .int .i64 0])) := Lib.hid (HC.out.mono fun e w' h => ⟨h.1, by have h2 : e = .returned (.tuple #[nv (tr.it W d).kind (pl P d).p, .int .i64 0]) := h.2; rw [hk4] at h2; exact h2⟩)
      have ha := as_dir2 (pl P d).p
      clear H hf hR ht hl hl' hn hk hk3
      go_enter Tryd.func28, Tryd.ntmps28
      go_wp2_with (go_at_call 18; refine HC.out.mono ?_; rintro e w2 ⟨hb2, rfl⟩)
      go_ret2
      rw [HE.out]
      exact ⟨hb2, rfl⟩

theorem tr.spot_nil {W : List tr.Item} : tr.spot W [] = .error 8 := if_pos rfl
theorem tr.spot_err {W : List tr.Item} {L : List (List UInt8)} (hL : L ≠ []) {c : Int} (h : tr.place W L = .error c) : tr.spot W L = .error c := by
  unfold tr.spot
  rw [if_neg hL]
  unfold tr.place at h
  cases hf : tr.find W true 8 L.dropLast with
  | error e => rw [hf] at h; cases h; rfl
  | ok m =>
    rw [hf] at h
    simp only at h ⊢
    split at h
    · cases h
    · next hk => cases h; exact if_neg hk
theorem tr.spot_at {W : List tr.Item} {L : List (List UInt8)} (hL : L ≠ []) {d : Nat} (h : tr.place W L = .ok d) : tr.spot W L = if (tr.child W d (L.getLast?.getD [])).isSome then .error 8 else .ok (d, L.getLast?.getD []) := by
  unfold tr.spot
  rw [if_neg hL]
  unfold tr.place at h
  cases hf : tr.find W true 8 L.dropLast with
  | error e => rw [hf] at h; cases h
  | ok m =>
    rw [hf] at h
    simp only at h ⊢
    split at h
    · next hk => cases h; exact if_pos hk
    · cases h
def FrRes (P : List NA) (r : Except Int (Nat × List UInt8)) (e : Ending) : Prop := match r with
  | .ok x => e = .returned (.tuple #[.pointer (some ⟨(pl P x.1).p, 0, none⟩), .string (strOf x.2), .int .i64 0])
  | .error c => e = .returned (.tuple #[.pointer none, .string ⟨#[]⟩, .int .i64 c])
theorem Nms.last {L : List (List UInt8)} (h : Nms L) : (L.getLast?.getD []).length ≤ 16 := by
  cases hl : L.getLast? with
  | none => simp
  | some x => exact h.2 x (List.mem_of_getLast? hl)
set_option maxRecDepth 100000 in
set_option maxHeartbeats 1000000 in
theorem tree_free {B Tb M : Nat} {W : List tr.Item} {P : List NA} (L : List (List UInt8)) (A : Option Addr) (c : Nat) (w : World) (ht : TAt w B Tb M W P) (hl : NmRep w A c L) (hn : Nms L) :
    Calls Tryd.prog 27 #[.pointer (some ⟨Tb, 0, none⟩), .slice A L.length c] w fun e w' => Below w.heap.size w w' ∧ FrRes P (tr.spot W L) e := by
  obtain ⟨R, hR⟩ : ∃ R, R = tr.spot W L := ⟨_, rfl⟩
  rw [← hR]
  by_cases h0 : L = []
  · subst h0
    have HE : Hid (R = .error 8) := Lib.hid (hR.trans tr.spot_nil)
    clear hR ht hl hn
    go_enter Tryd.func27, Tryd.ntmps27
    go_wp2
    go_ret3
    rw [HE.out]
    exact ⟨bself _, rfl⟩
  · have hpos : 0 < L.length := by rcases Nat.eq_zero_or_pos L.length with h | h; exact absurd (List.length_eq_zero_iff.1 h) h0; exact h
    have H := tree_place L A c w ht hl hn hpos
    have hne : ((L.length : Int) == 0) = false := beq_eq_false_iff_ne.2 (by omega)
    have hw1 : IntKind.i64.wrap ((L.length : Int) - 1) = (L.length : Int) - 1 := IntWalk.i64_in _ (by have := hn.1; omega)
    have HT := Lib.hid ht
    obtain ⟨bb, oo, rfl, hbb, hcl⟩ := NmRep.at hl (k := L.length - 1) (by omega)
    have hlast : L.getD (L.length - 1) [] = L.getLast?.getD [] := by rw [List.getLast?_eq_getElem?, List.getD_eq_getElem?_getD]
    rw [hlast] at hcl
    have hidx : ((L.length : Int) - 1).toNat = L.length - 1 := by omega
    have hge : 0 ≤ (L.length : Int) - 1 := by omega
    have hlt : (L.length : Int) - 1 < (L.length : Int) := by omega
    cases hp : tr.place W L with
    | error q =>
      rw [hp] at H
      have HC := Lib.hid H
      have hq : (q != 0) = true := by simpa using tr.place_err hp
      have HE : Hid (R = .error q) := Lib.hid (hR.trans (tr.spot_err h0 hp))
      clear H hp hR ht hl hn h0
      go_enter Tryd.func27, Tryd.ntmps27
      go_wp2_with (go_at_call 28; refine HC.out.mono ?_; rintro e w2 ⟨hb2, rfl⟩)
      go_ret3
      rw [HE.out]
      exact ⟨hb2, rfl⟩
    | ok d =>
      rw [hp] at H
      have HC := Lib.hid H
      obtain ⟨hd1, hd2⟩ := tr.place_live ht.inv hp
      have hkey : keyOf Tryd.prog 9 (.string (strOf (L.getLast?.getD []))) = some (.string (L.getLast?.getD [])) := keyN Tryd.underlying9 (by have := hn.last; unfold maxLen; omega)
      have hspot := hR.trans (tr.spot_at h0 hp)
      obtain ⟨hm1, hm2, hm3⟩ := ht.dir hd1 hd2
      have HM := Lib.hid hm2
      generalize L.getLast?.getD [] = nm at *
      cases hch : tr.child W d nm with
      | none =>
        have HE : Hid (R = .ok (d, nm)) := Lib.hid (by rw [hspot, hch]; rfl)
        have HKV : Hid (nmap (kidV W P d) (.string nm) = none) := Lib.hid (by show kidV W P d nm = none; unfold kidV; rw [hch]; rfl)
        clear H hp hR ht hl hn h0 hspot hm2 hch
        go_enter Tryd.func27, Tryd.ntmps27
        go_wp2_with (first
          | (go_at_call 28; refine HC.out.mono ?_; rintro e w2 ⟨hb2, rfl⟩; have hm4 := (hb2.cell (p := ⟨(pl P d).p, 0, none⟩) hm3).trans hm1; have hcl2 := (hb2.cell (p := ⟨bb, oo + (L.length - 1), none⟩) hbb).trans hcl; have HM2 := Lib.hid (HM.out.next hb2))
          | (refine wp_mlook_ok _ rfl _ _ _ rfl keyedS Tryd.underlying43 (zeroNode _) rfl HM2.out _ rfl hkey ?_; rw [HKV.out])
          | fail)
        go_ret3
        rw [HE.out]
        exact ⟨hb2, rfl⟩
      | some n =>
        have HE : Hid (R = .error 8) := Lib.hid (by rw [hspot, hch]; rfl)
        have HKV : Hid (nmap (kidV W P d) (.string nm) = some (nv (tr.it W n).kind (pl P n).p)) := Lib.hid (by show kidV W P d nm = _; unfold kidV; rw [hch]; rfl)
        clear H hp hR ht hl hn h0 hspot hm2 hch
        go_enter Tryd.func27, Tryd.ntmps27
        go_wp2_with (first
          | (go_at_call 28; refine HC.out.mono ?_; rintro e w2 ⟨hb2, rfl⟩; have hm4 := (hb2.cell (p := ⟨(pl P d).p, 0, none⟩) hm3).trans hm1; have hcl2 := (hb2.cell (p := ⟨bb, oo + (L.length - 1), none⟩) hbb).trans hcl; have HM2 := Lib.hid (HM.out.next hb2))
          | (refine wp_mlook_ok _ rfl _ _ _ rfl keyedS Tryd.underlying43 (zeroNode _) rfl HM2.out _ rfl hkey ?_; rw [HKV.out])
          | fail)
        go_ret3
        rw [HE.out]
        exact ⟨hb2, rfl⟩
end Go.Proofs.YtlcjdlnhniemcaaDoor
end
section
namespace Go.Proofs.YtlcjdlnhniemcaaDoor
open Go.RowKit Go.Maps Go.MapKept
set_option linter.unusedSimpArgs false
set_option linter.unusedVariables false

/-- the tree behind an act: where it lies now; what else stays -/
def TOut (w w' : World) (B Tb : Nat) (W : List tr.Item) (P : List NA) (W' : List tr.Item) (M' : Nat) (X : Nat → Prop) : Prop :=
  ∃ P', TAt w' B Tb M' W' P' ∧ Stays w w' (TF Tb W P) ∧ ∀ k, TF Tb W' P' k → TF Tb W P k ∨ X k
theorem TOut.same {w w' : World} {B Tb M M' : Nat} {W : List tr.Item} {P : List NA} {X : Nat → Prop} (h : TAt w B Tb M W P) (hb : Below w.heap.size w w') (hM : M ≤ M') : TOut w w' B Tb W P W M' X :=
  ⟨P, (h.next hb).mono hM, Stays.of_below hb _, fun k hk => .inl hk⟩
theorem tr.spot_ok {W : List tr.Item} (hI : tr.Inv W) {L : List (List UInt8)} {d : Nat} {nm : List UInt8} (h : tr.spot W L = .ok (d, nm)) : L ≠ [] ∧ tr.Live W d ∧ (tr.it W d).kind = 1 ∧ tr.child W d nm = none ∧ nm = L.getLast?.getD [] := by
  by_cases hL : L = []
  · subst hL; rw [tr.spot_nil] at h; cases h
  · cases hp : tr.place W L with
    | error c => rw [tr.spot_err hL hp] at h; cases h
    | ok d' =>
      rw [tr.spot_at hL hp] at h
      split at h
      · cases h
      · next hc =>
        cases h
        obtain ⟨h1, h2⟩ := tr.place_live hI hp
        refine ⟨hL, h1, h2, ?_, rfl⟩
        cases e : tr.child W d (L.getLast?.getD []) with
        | none => rfl
        | some n => rw [e] at hc; exact absurd rfl hc
theorem tr.spot_err_ne {W : List tr.Item} {L : List (List UInt8)} {c : Int} (h : tr.spot W L = .error c) : c ≠ 0 := by
  by_cases hL : L = []
  · subst hL; rw [tr.spot_nil] at h; cases h; decide
  · cases hp : tr.place W L with
    | error c => rw [tr.spot_err hL hp] at h; cases h; exact tr.place_err hp
    | ok d' =>
      rw [tr.spot_at hL hp] at h
      split at h
      · cases h; decide
      · cases h

theorem NF.put {x : tr.Item} {a : NA} {d : Nat} {nm : List UInt8} {k : Nat} : NF (x.put d nm) a k ↔ NF x a k := Iff.rfl
theorem NodeAt.put {w : World} {B M : Nat} {x : tr.Item} {a : NA} {f : List UInt8 → Option Value} {d : Nat} {nm : List UInt8} (h : NodeAt w B M x a f) : NodeAt w B M (x.put d nm) a f := h
set_option maxRecDepth 100000 in
set_option maxHeartbeats 1000000 in
theorem tree_make {B Tb M : Nat} {W : List tr.Item} {P : List NA} (L : List (List UInt8)) (A : Option Addr) (c : Nat) (x : tr.Item) (a : NA) (v : Value) (hv : v = nv x.kind a.p) (w : World) (ht : TAt w B Tb M W P) (hl : NmRep w A c L) (hn : Nms L) (hM : M < maxLen)
    (hk : x.kind = 1 ∨ x.kind = 2 ∨ x.kind = 3) (hda : x.data.length ≤ 2048) (hto : x.to.length ≤ 200) (hnode : NodeAt w B M x a (fun _ => none)) (hfar : ∀ k, NF x a k → B ≤ k ∧ ¬ TF Tb W P k) :
    Calls Tryd.prog 15 #[.pointer (some ⟨Tb, 0, none⟩), .slice A L.length c, v] w fun e w' => e = .returned (.int .i64 (tr.add W L x).2) ∧ TOut w w' B Tb W P (tr.add W L x).1 (M + 1) (fun k => NF x a k) := by
  subst hv
  have H := tree_free L A c w ht hl hn
  have HT := Lib.hid ht
  have HTS := Lib.hid (fun w' (hb : Below w.heap.size w w') => TOut.same (X := fun k => NF x a k) ht hb (Nat.le_succ M))
  obtain ⟨R, hR⟩ : ∃ R, R = tr.add W L x := ⟨_, rfl⟩
  rw [← hR]
  cases hs : tr.spot W L with
  | error q =>
    rw [hs] at H
    have HC := Lib.hid H
    have hq : (q != 0) = true := by simpa using tr.spot_err_ne hs
    have HE : Hid (R = (W, q)) := Lib.hid (by rw [hR]; unfold tr.add; rw [hs])
    clear H hs hR ht hl hn hnode hfar
    go_enter Tryd.func15, Tryd.ntmps15
    go_wp2_with (go_at_call 27; refine HC.out.mono ?_; rintro e w2 ⟨hb2, rfl⟩)
    go_ret
    rw [HE.out]
    exact ⟨rfl, HTS.out _ hb2⟩
  | ok dn =>
    obtain ⟨d, nm⟩ := dn
    rw [hs] at H
    have HC := Lib.hid H
    obtain ⟨s1, s2, s3, s4, s5⟩ := tr.spot_ok ht.inv hs
    obtain ⟨hm1, hm2, hm3⟩ := ht.dir s2 s3
    have HM := Lib.hid hm2
    have hc1 : w.cell? ⟨Tb, 1, none⟩ = some (.int .i64 (tr.liveN W : Int)) := ht.top.get 1
    have hTl := ht.top.lt
    by_cases h40 : 40 ≤ tr.liveN W
    · have HE : Hid (R = (W, 9)) := Lib.hid (by rw [hR]; unfold tr.add; rw [hs]; exact if_pos h40)
      have h40' : ((tr.liveN W : Int) == 40) = true := beq_iff_eq.2 (by have := ht.inv.few; omega)
      clear H hs hR ht hl hn hnode hfar hm2
      go_enter Tryd.func15, Tryd.ntmps15
      go_wp2_with (first
        | (go_at_call 27; refine HC.out.mono ?_; rintro e w2 ⟨hb2, rfl⟩; have hm4 := (hb2.cell (p := ⟨(pl P d).p, 0, none⟩) hm3).trans hm1; have hc2 := (hb2.cell (p := ⟨Tb, 1, none⟩) hTl).trans hc1)
        | fail)
      go_ret
      rw [HE.out]
      exact ⟨rfl, HTS.out _ hb2⟩
    · have HE : Hid (R = (W ++ [x.put d nm], 0)) := Lib.hid (by rw [hR]; unfold tr.add; rw [hs]; exact if_neg h40)
      have h40' : ((tr.liveN W : Int) == 40) = false := beq_eq_false_iff_ne.2 (by omega)
      have hkey : keyOf Tryd.prog 9 (.string (strOf nm)) = some (.string nm) := keyN Tryd.underlying9 (by have := hn.last; rw [s5]; unfold maxLen; omega)
      have hnl : nm.length ≤ 16 := by rw [s5]; exact hn.last
      have hqT : (pl P d).q ≠ Tb := (ht.lo d s2 _ (.inr (.inl ⟨s3, rfl⟩))).2
      have HTOP := Lib.hid ht.top
      have hw1 : IntKind.i64.wrap ((tr.liveN W : Int) + 1) = (tr.liveN W : Int) + 1 := IntWalk.i64_in _ (by omega)
      have HPUT : Hid (∀ w2 w3, Below w.heap.size w w2 → w2.grownBy w3 (some (pl P d).q) → MapV w3 Tryd.prog 9 (pl P d).q (M + 1) (mapPut (nmap (kidV W P d)) (.string nm) (nv x.kind a.p)) →
          TOut w (w3.setCell ⟨Tb, 1, none⟩ (.int .i64 ((tr.liveN W : Int) + 1))) B Tb W P (W ++ [x.put d nm]) (M + 1) (fun k => NF x a k)) := Lib.hid (fun w2 w3 hb hg hmv => by
        have hS : Stays w (w3.setCell ⟨Tb, 1, none⟩ (.int .i64 ((tr.liveN W : Int) + 1))) (fun k => k = (pl P d).q ∨ k = Tb) :=
          ((Stays.of_below hb _).comp ((Stays.grown hg).mono fun _ _ h => .inl h)).comp ((Stays.set w3 Tb 1 _).mono fun _ _ h => .inr h)
        refine ⟨P ++ [a], ht.put (x := x.put d nm) (a := a) rfl rfl s2 s3 s4 hk hnl hda hto (by omega) hnode hfar hS (w1 := w) ?_ ?_, hS.mono ?_, ?_⟩
        · refine MapV.setCell ?_ (fun e => hqT e.symm) _
          rw [nmap_put] at hmv
          exact hmv
        · have h3 := ((HTOP.out.next hb).kept hg (fun e => hqT (Option.some.inj e))).set 1 (.int .i64 ((tr.liveN W : Int) + 1))
          exact h3
        · rintro k _ (rfl | rfl)
          · exact .inr ⟨d, s2, .inr (.inl ⟨s3, rfl⟩)⟩
          · exact .inl rfl
        · rintro k (rfl | ⟨i, hi, hf⟩)
          · exact .inl (.inl rfl)
          · rcases tr.live_snoc.1 hi with ⟨rfl, _⟩ | hi2
            · rw [tr.it_snoc, if_pos rfl, pl_snoc, if_pos ht.len.symm] at hf
              exact .inr hf
            · rw [tr.it_snoc, if_neg (by have := hi2.lt; omega), pl_snoc, if_neg (by have := hi2.lt; have := ht.len; omega)] at hf
              exact .inl (.inr ⟨i, hi2, hf⟩))
      clear H hs hR ht hl hn hnode hfar hm2 s5
      go_enter Tryd.func15, Tryd.ntmps15
      go_wp2_with (first
        | (go_at_call 27; refine HC.out.mono ?_; rintro e w2 ⟨hb2, rfl⟩; have hm4 := (hb2.cell (p := ⟨(pl P d).p, 0, none⟩) hm3).trans hm1; have hc2 := (hb2.cell (p := ⟨Tb, 1, none⟩) hTl).trans hc1; have HM2 := Lib.hid (HM.out.next hb2); have HT2 := Lib.hid (HTOP.out.next hb2))
        | (at_mapUpdate; refine wp_mput _ rfl _ _ _ _ rfl keyedS Tryd.underlying43 rfl HM2.out hM (.string (strOf nm)) (nv x.kind a.p) rfl rfl hkey ?_; intro w3 hm5 hg5; have HM5 := Lib.hid hm5; have HG5 := Lib.hid hg5; have HT3 := Lib.hid (HT2.out.kept hg5 (fun e => hqT (Option.some.inj e))); have hc3 := HT3.out.get 1; simp only [List.getElem?_toArray, List.getElem?_cons_succ, List.getElem?_cons_zero] at hc3; have hf3 := HT3.out.frozen 1; have hl3 := HT3.out.lt; clear hm5 hg5)
        | fail)
      go_ret
      rw [HE.out]
      exact ⟨rfl, HPUT.out _ _ hb2 HG5.out HM5.out⟩
end Go.Proofs.YtlcjdlnhniemcaaDoor
end
