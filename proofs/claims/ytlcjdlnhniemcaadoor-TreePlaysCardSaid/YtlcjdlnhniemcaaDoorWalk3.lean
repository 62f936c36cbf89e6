/- Package path: Clean, Follow; the reference's pathFrom. No condition. -/
import Derived.Test.YtlcjdlnhniemcaaDoorWalk2
import Derived.Deep.RegionLaw
import Derived.Deep.DeepCutAuto
namespace Go.Proofs.YtlcjdlnhniemcaaDoor
open Go.RowKit

theorem path_walk (names : List ByteArray) (A : Option Addr) (c : Nat) (path : List UInt8) (w : World) (hl : SlRep Rep.str w (· < w.heap.size) names A c) (h12 : names.length ≤ 12) (hp : path.length ≤ 140737488351232) :
    Calls Tryd.prog 26 #[.slice A names.length c, .string (strOf path)] w (StrsRes (pa.walk (pa.lists names) path) w) := by
  by_cases h : 200 < path.length
  · exact callsIn_wide.1 (path_walk_long names A c path w hp h)
  · exact callsIn_wide.1 (path_walk_short names A c path w hl h12 h)
theorem pa.nil_rep (w : World) : SlRep Rep.str w (· < w.heap.size) [] none 0 := ⟨Nat.le_refl _, by decide, .inl rfl⟩
set_option maxHeartbeats 400000 in
theorem path_Clean (path : List UInt8) (w : World) (hp : path.length ≤ 140737488351232) : Calls Tryd.prog 14 #[.string (strOf path)] w (StrsRes (pa.walk [] path) w) := by
  have HW := Lib.hid (path_walk [] none 0 path w (pa.nil_rep w) (by simp) hp)
  go_enter Tryd.func14, Tryd.ntmps14
  go_wp2_with (go_at_call 26; refine HW.out.mono ?_; rintro e w2 ⟨A2, c2, rfl, ho2, hb2⟩)
  go_ret2
  exact ⟨A2, c2, rfl, ho2, hb2⟩

def pa.slash (p : List UInt8) : Bool := decide (p.head? = some 47)
theorem str_HasPrefix (p : List UInt8) (w : World) : Calls Tryd.prog 54 #[.string (strOf p), .string ⟨#[47]⟩] w fun e w' => e = .returned (.bool (pa.slash p)) ∧ w' = w := by
  cases p with
  | nil =>
    have HN : Hid (pa.slash [] = false) := Lib.hid rfl
    go_enter Tryd.func54, Tryd.ntmps54
    go_wp2
    go_ret
    exact ⟨by rw [HN.out]; rfl, rfl⟩
  | cons b t =>
    have hc : ∀ w, (Instr.slice 9 (.string (strOf (b :: t))) none (some (.int .i64 1)) none).run Tryd.prog w = .ok (.string (strOf [b])) w := fun w => run_str_to (P := Tryd.prog) 9 Tryd.underlying9 (b :: t) 1 1 rfl (by simp) w
    by_cases hb : b = 47
    · subst hb
      have HN : Hid (pa.slash (47 :: t) = true) := Lib.hid rfl
      go_enter Tryd.func54, Tryd.ntmps54
      go_wp2
      go_ret
      exact ⟨by rw [HN.out]; rfl, rfl⟩
    · have HN : Hid (pa.slash (b :: t) = false) := Lib.hid (decide_eq_false (by simp [hb]))
      have hq : ([b] == ([47] : List UInt8)) = false := pa.str_no (fun e => hb (List.cons.inj e).1)
      have hq2 : (b == 47) = false := beq_eq_false_iff_ne.2 hb
      clear hb
      go_enter Tryd.func54, Tryd.ntmps54
      go_wp2
      go_ret
      exact ⟨by rw [HN.out]; rfl, rfl⟩
theorem pa.follow_no {o : List (List UInt8)} {p : List UInt8} (h : ¬ pa.fault o = 0) : pa.follow o p = .error (pa.fault o) := if_neg h
theorem pa.follow_root {o : List (List UInt8)} {p : List UInt8} (h : pa.fault o = 0) (hs : pa.slash p = true) : pa.follow o p = pa.walk [] p := by
  unfold pa.follow
  rw [if_pos h, if_pos (of_decide_eq_true hs)]
theorem pa.follow_on {o : List (List UInt8)} {p : List UInt8} (h : pa.fault o = 0) (hs : pa.slash p = false) : pa.follow o p = pa.walk o p := by
  unfold pa.follow
  rw [if_pos h, if_neg (of_decide_eq_false hs)]
theorem pa.fault_len {l : List (List UInt8)} (h : pa.fault l = 0) : l.length ≤ 12 := by
  unfold pa.fault at h
  split at h
  · cases h
  · omega

set_option maxHeartbeats 1000000 in
theorem path_Follow (l : List ByteArray) (A : Option Addr) (c : Nat) (p : List UInt8) (w : World) (hl : SlRep Rep.str w (· < w.heap.size) l A c) (hn : l.length ≤ 140737488351232) (hs : ∀ s ∈ l, s.size ≤ 140737488351232) (hp : p.length ≤ 140737488351232) :
    Calls Tryd.prog 42 #[.slice A l.length c, .string (strOf p)] w (StrsRes (pa.follow (pa.lists l) p) w) := by
  have HF := Lib.hid (path_fault l A c w hl hn hs)
  have HL := Lib.hid hl
  clear hl hs
  by_cases hf : pa.fault (pa.lists l) = 0
  · have h12 : l.length ≤ 12 := by have := pa.fault_len hf; rwa [pa.lists_len] at this
    have HWK := Lib.hid (fun w1 (hb : Below w.heap.size w w1) => path_walk l A c p w1 (HL.out.next hb) h12 hp)
    have HCL := Lib.hid (fun w1 => path_Clean p w1 hp)
    have HSL := Lib.hid (str_HasPrefix p)
    cases hsl : pa.slash p with
    | true =>
      have HX := Lib.hid (pa.follow_root hf hsl)
      rw [hsl] at HSL
      generalize pa.follow (pa.lists l) p = r at *
      generalize pa.fault (pa.lists l) = er at *
      subst hf
      clear hsl
      go_enter Tryd.func42, Tryd.ntmps42
      go_wp2_with (first
        | (go_at_call 53; refine HF.out.mono ?_; rintro e w2 ⟨rfl, hb2⟩)
        | (go_at_call 54; refine (HSL.out _).mono ?_; rintro e w3 ⟨rfl, rfl⟩)
        | (go_at_call 14; refine (HCL.out _).mono ?_; rintro e w4 ⟨A4, c4, rfl, ho4, hb4⟩)
        | fail)
      go_ret2
      rw [HX.out]
      exact ⟨A4, c4, rfl, ho4.base_le hb2.size, bnext hb2 hb4⟩
    | false =>
      have HX := Lib.hid (pa.follow_on hf hsl)
      rw [hsl] at HSL
      generalize pa.follow (pa.lists l) p = r at *
      generalize pa.fault (pa.lists l) = er at *
      subst hf
      clear hsl
      go_enter Tryd.func42, Tryd.ntmps42
      go_wp2_with (first
        | (go_at_call 53; refine HF.out.mono ?_; rintro e w2 ⟨rfl, hb2⟩)
        | (go_at_call 54; refine (HSL.out _).mono ?_; rintro e w3 ⟨rfl, rfl⟩)
        | (go_at_call 26; refine (HWK.out _ hb2).mono ?_; rintro e w4 ⟨A4, c4, rfl, ho4, hb4⟩)
        | fail)
      go_ret2
      rw [HX.out]
      exact ⟨A4, c4, rfl, ho4.base_le hb2.size, bnext hb2 hb4⟩
  · have d1 : (pa.fault (pa.lists l) == 0) = false := beq_eq_false_iff_ne.2 hf
    have d2 : (pa.fault (pa.lists l) != 0) = true := bne_iff_ne.2 hf
    have HX := Lib.hid (pa.follow_no (p := p) hf)
    generalize pa.follow (pa.lists l) p = r at *
    generalize pa.fault (pa.lists l) = er at *
    clear hf
    go_enter Tryd.func42, Tryd.ntmps42
    go_wp2_with (go_at_call 53; refine HF.out.mono ?_; rintro e w2 ⟨rfl, hb2⟩)
    go_ret2
    exact StrsRes.no HX.out hb2

/-! ### The reference: byte by byte -/
def pa.At (R : Except Int (List (List UInt8))) (path : List UInt8) (i : Nat) (part : List UInt8) (o : List (List UInt8)) : Prop :=
  if i ≤ path.length then playTo pa.step o (pa.split part (path.drop i)) = R else R = .ok o
theorem pa.At.byte {R : Except Int (List (List UInt8))} {path part : List UInt8} {i : Nat} {o : List (List UInt8)} (h : pa.At R path i part o) (hi : i < path.length) (hx : path.getD i 0 ≠ 47) : pa.At R path (i + 1) (part ++ [path.getD i 0]) o := by
  unfold pa.At at *
  rw [if_pos (by omega)] at h ⊢
  rwa [pa.split_drop part hi, if_neg hx] at h
theorem pa.At.ok {R : Except Int (List (List UInt8))} {path part : List UInt8} {i : Nat} {o o' : List (List UInt8)} (h : pa.At R path i part o) (hi : i ≤ path.length) (hx : i < path.length → path.getD i 0 = 47) (hs : pa.step o part = .ok o') : pa.At R path (i + 1) [] o' := by
  unfold pa.At at *
  rw [if_pos hi] at h
  rcases Nat.lt_or_ge i path.length with hlt | hge
  · rw [if_pos (by omega)]
    rwa [pa.split_drop part hlt, if_pos (hx hlt), playTo_cons, hs] at h
  · rw [if_neg (by omega)]
    rw [List.drop_eq_nil_of_le hge] at h
    change playTo pa.step o [part] = R at h
    rw [playTo_cons, hs] at h
    exact h.symm
theorem pa.At.no {R : Except Int (List (List UInt8))} {path part : List UInt8} {i : Nat} {o : List (List UInt8)} {e : Int} (h : pa.At R path i part o) (hi : i ≤ path.length) (hx : i < path.length → path.getD i 0 = 47) (hs : pa.step o part = .error e) : R = .error e := by
  unfold pa.At at *
  rw [if_pos hi] at h
  rcases Nat.lt_or_ge i path.length with hlt | hge
  · rw [pa.split_drop part hlt, if_pos (hx hlt), playTo_cons, hs] at h
    exact h.symm
  · rw [List.drop_eq_nil_of_le hge] at h
    change playTo pa.step o [part] = R at h
    rw [playTo_cons, hs] at h
    exact h.symm
theorem run_str_mid {P : Program} (t : TypeId) (h : P.underlying t = some .string) (l : List UInt8) (k : Nat) (i j : Int) (hi : i = (k : Int)) (hj : j = (k : Int) + 1) (hk : k < l.length) (w : World) :
    (Instr.slice t (.string (strOf l)) (some (.int .i64 i)) (some (.int .i64 j)) none).run P w = .ok (.string (strOf [l.getD k 0])) w := by
  subst hi
  subst hj
  have e : (strOf l).extract k (k + 1) = strOf [l.getD k 0] := by
    have h : ((strOf l).extract k (k + 1)).data.toList = [l.getD k 0] := by
      rw [List.getD_eq_getElem?_getD, List.getElem?_eq_getElem hk]
      simp [strOf]
      rw [List.take_one, List.head?_drop, List.getElem?_eq_getElem hk]
      rfl
    rw [strOf_of ((strOf l).extract k (k + 1)), h]
  rw [← e]
  have hj : 0 ≤ (k : Int) ∧ (k : Int) + 1 ≤ ((strOf l).size : Int) := ⟨by omega, by rw [strOf_size]; omega⟩
  have hj2 : 0 ≤ (k : Int) + 1 := by omega
  simp [Instr.slice, Instr.sliceBounds, Instr.sliceBound, asIntOf, run_underlying h, hj, hj2, strOf_size]
  try omega

theorem pa.add_two (a b : List UInt8) : strOf a ++ strOf b = strOf (a ++ b) := by
  have h : (strOf a ++ strOf b).data.toList = a ++ b := by simp [strOf]
  rw [strOf_of (strOf a ++ strOf b), h]
theorem pa.fill_strs {w : World} {A : Option Addr} {c : Nat} {l : List ByteArray} (h : SlRep Rep.str w (· < w.heap.size) l A c) : Cells w A (l.map Value.string) := pa.str_cells h

set_option maxRecDepth 100000 in
set_option maxHeartbeats 8000000 in
theorem ref_pathFrom (names : List ByteArray) (A : Option Addr) (c : Nat) (path : List UInt8) (w : World) (hl : SlRep Rep.str w (· < w.heap.size) names A c) (h12 : names.length ≤ 12) (hp : path.length ≤ 140737488351232) :
    Calls Tryd.prog 34 #[.slice A names.length c, .string (strOf path)] w (StrsRes (pa.walk (pa.lists names) path) w) := by
  by_cases hlong : 200 < path.length
  · have d1 : decide ((path.length : Int) > 200) = true := by simp; omega
    have d1' : decide (200 < (path.length : Int)) = true := by simp; omega
    have HX : Hid (pa.walk (pa.lists names) path = .error 1) := Lib.hid (if_pos hlong)
    clear hlong hl
    go_enter Tryd.func34, Tryd.ntmps34
    go_wp2
    go_ret2
    exact StrsRes.no HX.out (Below.refl _ _)
  · have d1 : decide ((path.length : Int) > 200) = false := by simp; omega
    have d1' : decide (200 < (path.length : Int)) = false := by simp; omega
    have HX : Hid (pa.walk (pa.lists names) path = playTo pa.step (pa.lists names) (pa.split [] path)) := Lib.hid (if_neg hlong)
    have hp2 : path.length ≤ 200 := by omega
    have HC := Lib.hid (pa.str_cells hl)
    clear hlong hl
    generalize pa.walk (pa.lists names) path = R at *
    go_enter Tryd.func34, Tryd.ntmps34
    go_wp2_with (first
      | (at_builtin; refine wp_app _ rfl _ _ _ rfl elemStr w.heap.size none 0 0 [] rfl (Own.nil _ _ _ _) A names.length c (names.map Value.string) rfl (by simp) HC.out (by rw [← pa.sv_lists]; exact pa.one _) (by omega) (by unfold maxLen; omega) (Nat.le_refl _) ?_; intro A1 c1 w1 ho1 hg1; have HO1 := Lib.hid ho1; have HG1 := Lib.hid hg1; clear ho1 hg1)
      | fail)
    have HB1 : Hid (Below w.heap.size w w1) := Lib.hid (HG1.out.below (Nat.le_refl _) (fun k hk => by cases hk))
    have hn6 : names.length = (pa.lists names).length := (pa.lists_len names).symm
    rw [← pa.sv_lists, List.nil_append, Nat.zero_add, hn6] at HO1
    rw [hn6]
    go_loopw [6, 7, 8] (fun s6 s7 s8 wr => ∃ (i : Nat) (part : List UInt8) (o : List (List UInt8)) (Ao : Option Addr) (co : Nat), s6 = .slice Ao o.length co ∧ s7 = .string (strOf part) ∧ s8 = .int .i64 i ∧ i ≤ path.length + 1 ∧ o.length ≤ 12 ∧ part.length ≤ i ∧ Hid (pa.At R path i part o) ∧
      Hid (Own wr w.heap.size 9 1 Ao o.length co (o.map pa.sv) ∧ Below w.heap.size w wr)) (fun _ _ s8 _ => path.length + 1 - (intOf s8).toNat)
    case atStart => exact ⟨0, [], pa.lists names, A1, c1, rfl, rfl, rfl, by omega, by omega, by simp, Lib.hid (by unfold pa.At; rw [if_pos (Nat.zero_le _), List.drop_zero]; exact HX.out.symm), Lib.hid ⟨HO1.out, HB1.out⟩⟩
    case round =>
      obtain ⟨i, part, o, Ao, co, rfl, rfl, rfl, hi, ho12, hpi, HAT, HOW⟩ := hrel
      rename World => wr
      by_cases hle : i ≤ path.length
      · have hle' : (i : Int) ≤ (path.length : Int) := by omega
        by_cases hmid : i < path.length ∧ path.getD i 0 ≠ 47
        · obtain ⟨hlt, hx⟩ := hmid
          have hlt' : (i : Int) < (path.length : Int) := by omega
          have HA2 := Lib.hid (HAT.out.byte hlt hx)
          obtain ⟨x, hxe⟩ : ∃ x, x = path.getD i 0 := ⟨_, rfl⟩
          have hxi : ∀ h, path[i]'h = x := fun h => by rw [hxe, List.getD_eq_getElem?_getD, List.getElem?_eq_getElem h]; rfl
          have hmd : ∀ w, (Instr.slice 9 (.string (strOf path)) (some (.int .i64 i)) (some (.int .i64 ((i : Int) + 1))) none).run Tryd.prog w = .ok (.string (strOf [x])) w := fun w => by rw [hxe]; exact run_str_mid (P := Tryd.prog) 9 Tryd.underlying9 path i i ((i : Int) + 1) rfl rfl hlt w
          have had : ∀ w, (Op.stringOp .add (strOf part) (strOf [x])).run Tryd.prog w = .ok (.string (strOf (part ++ [x]))) w := fun w => by
            rw [run_string_add_sum _ _ _ (by rw [strOf_size, strOf_size]; simp; omega)]
            exact congrArg (fun s => Result.ok (Value.string s) w) (pa.add_two part [x])
          rw [← hxe] at hx HA2
          obtain ⟨k0, k0'⟩ := pa.u8_no 47 hx rfl
          clear hxe hx
          go_wp2
          go_roundw
          case rel => exact ⟨i + 1, part ++ [x], o, Ao, co, rfl, rfl, by go_num, by omega, ho12, by simp; omega, HA2, HOW⟩
          case measure => simp [intOf]; omega
        · have HEND : Hid (i < path.length → path.getD i 0 = 47) := Lib.hid (fun h => Classical.byContradiction fun h2 => hmid ⟨h, h2⟩)
          have HCASE : (∃ _ : i < path.length, ∀ h, path[i]'h = 47) ∨ ¬ (i : Int) < (path.length : Int) := by
            rcases Nat.lt_or_ge i path.length with h | h
            · exact .inl ⟨h, fun h' => by have := HEND.out h; rw [List.getD_eq_getElem?_getD, List.getElem?_eq_getElem h] at this; exact this⟩
            · exact .inr (by omega)
          clear hmid
          have h47 : i < path.length → (i : Int) < (path.length : Int) := fun h => by omega
          by_cases h0 : part = []
          · have HS := Lib.hid (HAT.out.ok hle HEND.out (pa.step_dot (.inl h0)))
            subst h0
            rcases HCASE with ⟨hlt, hxi⟩ | hge
            all_goals
              (try have hlt' := h47 hlt)
              go_wp2
              go_roundw
              case rel => exact ⟨i + 1, [], o, Ao, co, rfl, rfl, by go_num, by omega, ho12, by simp, HS, HOW⟩
              case measure => simp [intOf]; omega
          by_cases h1 : part = [46]
          · have HS := Lib.hid (HAT.out.ok hle HEND.out (pa.step_dot (.inr h1)))
            subst h1
            rcases HCASE with ⟨hlt, hxi⟩ | hge
            all_goals
              (try have hlt' := h47 hlt)
              go_wp2
              go_roundw
              case rel => exact ⟨i + 1, [], o, Ao, co, rfl, rfl, by go_num, by omega, ho12, by simp, HS, HOW⟩
              case measure => simp [intOf]; omega
          by_cases h2 : part = [46, 46]
          · subst h2
            have HS := Lib.hid (HAT.out.ok hle HEND.out pa.step_up)
            cases hol : o.length with
            | zero =>
              have hq : o.dropLast = o := by rw [List.eq_nil_of_length_eq_zero hol]; rfl
              rw [hq] at HS
              rcases HCASE with ⟨hlt, hxi⟩ | hge
              all_goals
                (try have hlt' := h47 hlt)
                go_wp2
                go_roundw
                case rel => exact ⟨i + 1, [], o, Ao, co, by rw [hol], rfl, by go_num, by omega, ho12, by simp, HS, HOW⟩
                case measure => simp [intOf]; omega
            | succ n =>
              have hcap := HOW.out.1.cap.1
              rw [hol] at hcap
              have hcut := run_cut_h (P := Tryd.prog) elemStr Ao (n + 1) co n (by omega) (n : Int) rfl
              have HDL : Hid (n = o.dropLast.length) := Lib.hid (by rw [List.length_dropLast, hol]; rfl)
              have HO2 : Hid (Own wr w.heap.size 9 1 Ao o.dropLast.length co (o.dropLast.map pa.sv)) := Lib.hid (by
                have := pa.own_front HOW.out.1 (k := o.length - 1) (by omega)
                rw [← List.map_take] at this
                rw [List.dropLast_eq_take, List.length_take, Nat.min_eq_left (by omega)]
                exact this)
              rcases HCASE with ⟨hlt, hxi⟩ | hge
              all_goals
                (try have hlt' := h47 hlt)
                go_wp2
                go_roundw
                case rel => exact ⟨i + 1, [], o.dropLast, Ao, co, by rw [← HDL.out], rfl, by go_num, by omega, by rw [List.length_dropLast]; omega, by simp, HS, Lib.hid ⟨HO2.out, HOW.out.2⟩⟩
                case measure => simp [intOf]; omega
          have q0 : (part == []) = false := pa.str_no h0
          have q0' : part.isEmpty = false := by cases part with | nil => exact absurd rfl h0 | cons a t => rfl
          have q1 : (part == [46]) = false := pa.str_no h1
          have q2 : (part == [46, 46]) = false := pa.str_no h2
          have HQ := Lib.hid (ref_nameMay part wr (by omega))
          clear h47
          cases hnm : pa.name part with
          | false =>
            have HS := Lib.hid (HAT.out.no hle HEND.out (pa.step_form h0 h1 h2 hnm))
            clear h0 h1 h2
            rcases HCASE with ⟨hlt, hxi⟩ | hge
            all_goals
              (try have hlt' : (i : Int) < (path.length : Int) := by omega)
              go_wp2_with (first
                | (go_at_call 49; refine HQ.out.mono ?_; rw [hnm]; rintro e w5 ⟨rfl, hb5⟩)
                | fail)
              go_ret2
              exact StrsRes.no HS.out (bnext HOW.out.2 hb5)
          | true =>
            by_cases h12 : o.length = 12
            · have HS := Lib.hid (HAT.out.no hle HEND.out (pa.step_full h0 h1 h2 hnm h12))
              have q12 : decide ((o.length : Int) ≥ 12) = true := by simp; omega
              have q12' : decide (12 ≤ (o.length : Int)) = true := by simp; omega
              clear h0 h1 h2
              rcases HCASE with ⟨hlt, hxi⟩ | hge
              all_goals
                (try have hlt' : (i : Int) < (path.length : Int) := by omega)
                go_wp2_with (first
                  | (go_at_call 49; refine HQ.out.mono ?_; rw [hnm]; rintro e w5 ⟨rfl, hb5⟩)
                  | fail)
                go_ret2
                exact StrsRes.no HS.out (bnext HOW.out.2 hb5)
            · have HS := Lib.hid (HAT.out.ok hle HEND.out (pa.step_on h0 h1 h2 hnm h12))
              have q12 : decide ((o.length : Int) ≥ 12) = false := by simp; omega
              have q12' : decide (12 ≤ (o.length : Int)) = false := by simp; omega
              clear h0 h1 h2
              rcases HCASE with ⟨hlt, hxi⟩ | hge
              all_goals
                (try have hlt' : (i : Int) < (path.length : Int) := by omega)
                go_wp2_with (first
                  | (go_at_call 49; refine HQ.out.mono ?_; rw [hnm]; rintro e w5 ⟨rfl, hb5⟩)
                  | (at_builtin; refine wp_app _ rfl _ _ _ rfl elemStr w.heap.size Ao o.length co _ rfl ((HOW.out.1.next hb5).alloc _) _ 1 1 [pa.sv part] rfl rfl (Cells.newAt _ _ _ rfl) (by simp [Value.oneCell', pa.sv]) (by omega) (by unfold maxLen; omega) (by have h5 := hb5.size; have h6 := HOW.out.2.size; rw [World.size_alloc]; omega) ?_; intro A7 c7 w7 ho7 hg7; have HO7 := Lib.hid ho7; have HG7 := Lib.hid hg7; clear ho7 hg7)
                  | fail)
                go_roundw
                case rel => exact ⟨i + 1, [], o ++ [part], A7, c7, by rw [List.length_append]; rfl, rfl, by go_num, by omega, by rw [List.length_append, List.length_singleton]; omega, by simp, HS, Lib.hid ⟨by rw [List.map_append, List.length_append]; exact HO7.out, Grew.step (bnext HOW.out.2 (balloc hb5 _)) HG7.out (fun j hj => (HOW.out.1.lt j hj).1)⟩⟩
                case measure => simp [intOf]; omega
      · have HE : Hid (R = .ok o) := Lib.hid (by have := HAT.out; unfold pa.At at this; rwa [if_neg hle] at this)
        have hle' : ¬ (i : Int) ≤ (path.length : Int) := by omega
        clear hle
        go_wp2
        go_ret2
        rw [HE.out]
        exact ⟨Ao, co, rfl, HOW.out.1, HOW.out.2⟩
end Go.Proofs.YtlcjdlnhniemcaaDoor
