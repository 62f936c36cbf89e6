/- Package glob: a set. No condition. -/
import Derived.Test.YtldoihbblgnpjaaGlob2
import Derived.Deep.WholeRow
import Derived.Deep.RegionHeld3
import Derived.Deep.QuietTactic
import Derived.Test.YtldoihbblgnpjaaTail
namespace Go.Proofs.Ytldoihbblgnpjaa
open Go.RowKit

def gl.inN (rs : List (UInt8 × UInt8)) (i : Nat) : Bool := rs.any fun r => decide (r.1.toNat ≤ i) && decide (i ≤ r.2.toNat)
theorem gl.inN_snoc (rs : List (UInt8 × UInt8)) (lo hi : UInt8) (i : Nat) : gl.inN (rs ++ [(lo, hi)]) i = (gl.inN rs i || (decide (lo.toNat ≤ i) && decide (i ≤ hi.toNat))) := by simp [gl.inN]
def gl.strLen : Value → Nat
  | .string s => s.size
  | _ => 0
def gl.itemF (it : gl.Item) (i : Nat) : Bool := it.takes (UInt8.ofNat i)
def gl.item (it : gl.Item) : List Value := gl.cells it.isRun (gl.itemF it)
def gl.setRes (s : List UInt8) : Value :=
  match gl.setOf s with
  | none => .tuple #[.agg (gl.cells false gl.no).toArray, .string (strOf []), .bool false]
  | some (it, r) => .tuple #[.agg (gl.item it).toArray, .string (strOf r), .bool true]
/-- the zero part's cells, under one name -/
def gl.zcs : Array Value := (gl.cells false gl.no).toArray
theorem gl.zc : gl.zcs = (gl.cells false gl.no).toArray := rfl
theorem gl.zcs_ne : gl.zcs ≠ #[] := by
  intro h
  have := congrArg Array.size h
  rw [gl.zc, gl.cells_size] at this
  cases this
theorem gl.zcs_info : (Try.prog.info? 47).map (fun i => (i.zero, i.size)) = some (some (.agg gl.zcs), 257) := by kernel_rfl
theorem gl.zv (w : World) : (zeroValue 47).run Try.prog w = .ok (.agg gl.zcs) w := (zero_of_info gl.zcs_info).1 w
attribute [go_sem] gl.zv
attribute [simp] gl.zcs_ne
theorem gl.setRes_no {s : List UInt8} (h : gl.setOf s = none) : gl.setRes s = .tuple #[.agg (gl.cells false gl.no).toArray, .string (strOf []), .bool false] := by unfold gl.setRes; rw [h]
theorem gl.setRes_ok {s r : List UInt8} {it : gl.Item} (h : gl.setOf s = some (it, r)) : gl.setRes s = .tuple #[.agg (gl.item it).toArray, .string (strOf r), .bool true] := by unfold gl.setRes; rw [h]
def gl.body (s : List UInt8) : List UInt8 := if gl.notB s = true then s.tail else s
theorem gl.setOf_no {s : List UInt8} (h : gl.ranges [] (gl.body s) = none) : gl.setOf s = none := by
  unfold gl.setOf
  show (match gl.ranges [] (gl.body s) with | none => none | some (rs, r) => _) = _
  rw [h]
theorem gl.setOf_bad {s r : List UInt8} {rs : List (UInt8 × UInt8)} (h : gl.ranges [] (gl.body s) = some (rs, r)) (hb : rs = [] ∨ r.head? ≠ some 93) : gl.setOf s = none := by
  unfold gl.setOf
  show (match gl.ranges [] (gl.body s) with | none => none | some (rs, r) => _) = _
  rw [h]
  exact if_pos hb
theorem gl.setOf_ok {s r : List UInt8} {rs : List (UInt8 × UInt8)} (h : gl.ranges [] (gl.body s) = some (rs, 93 :: r)) (hb : rs ≠ []) : gl.setOf s = some (.set rs (gl.notB s), r) := by
  unfold gl.setOf
  show (match gl.ranges [] (gl.body s) with | none => none | some (rs, r) => _) = _
  rw [h]
  show (if rs = [] ∨ (93 :: r).head? ≠ some 93 then none else some (gl.Item.set rs (gl.notB s), (93 :: r).tail)) = _
  rw [if_neg (by simpa using hb)]
  rfl
theorem gl.set_cells (rs : List (UInt8 × UInt8)) (no : Bool) : gl.cells false (fun i => gl.inN rs i != no) = gl.item (.set rs no) := by
  refine gl.cells_congr false fun i hi => ?_
  show _ = (gl.inRs rs (UInt8.ofNat i) != no)
  congr 1
  unfold gl.inN gl.inRs
  congr 1
  funext r
  have e : (UInt8.ofNat i).toNat = i := by rw [UInt8.toNat_ofNat']; omega
  simp only [UInt8.le_iff_toNat_le, e]
/-- what holds between the rounds of a set -/
structure gl.SetAt (w : World) (s1 : List UInt8) (wr : World) (f : Nat → Bool) : Prop where
  b1 : wr.rangeAt (w.heap.size + 1) 0 (gl.cells false f)
  t1 : wr.there (w.heap.size + 1) 0 257
  b0 : wr.rangeAt w.heap.size 0 (gl.cells false gl.no)
  t0 : wr.there w.heap.size 0 257
  bel : Below w.heap.size w wr
theorem gl.SetAt.drewN {w wr : World} {s1 : List UInt8} {f : Nat → Bool} (h : gl.SetAt w s1 wr f) (n : Nat) : gl.SetAt w s1 (wr.drewN n) f := ⟨h.b1, h.t1, h.b0, h.t0, bdrewN h.bel n⟩
theorem gl.SetAt.put {w wr : World} {s1 : List UInt8} {f : Nat → Bool} (h : gl.SetAt w s1 wr f) {i : Nat} (hi : i < 256) (v : Bool) : gl.SetAt w s1 (wr.setCell ⟨w.heap.size + 1, 1 + i, none⟩ (.bool v)) (fun j => if j = i then v else f j) := by
  refine ⟨?_, there_set h.t1 _ _, ?_, there_set h.t0 _ _, h.bel.setCell (p := ⟨w.heap.size + 1, _, none⟩) (Nat.le_succ _) _⟩
  · have := rangeAt_set h.b1 (1 + i) (.bool v)
    rwa [gl.cells_set _ _ _ hi] at this
  · intro j u hj
    rw [set_other _ (fun e => by simp at e)]
    exact h.b0 j u hj
theorem gl.SetAt.as {w wr : World} {s1 : List UInt8} {f g : Nat → Bool} (h : gl.SetAt w s1 wr f) (hg : ∀ i, i < 256 → g i = f i) : gl.SetAt w s1 wr g := ⟨by rw [gl.cells_congr false hg]; exact h.b1, h.t1, h.b0, h.t0, h.bel⟩
theorem gl.SetAt.cell {w wr : World} {s1 : List UInt8} {f : Nat → Bool} (h : gl.SetAt w s1 wr f) {i : Nat} (hi : i < 256) : wr.cell? ⟨w.heap.size + 1, 1 + i, none⟩ = some (.bool (f i)) ∧ wr.frozen? ⟨w.heap.size + 1, 1 + i, none⟩ = false := by
  have h1 := h.b1 (1 + i) _ (gl.cells_at _ _ hi)
  have h2 := (h.t1 (1 + i) (by omega)).2
  rw [Nat.zero_add] at h1 h2
  exact ⟨h1, h2⟩

set_option maxRecDepth 100000 in
set_option maxHeartbeats 4000000 in
theorem glob_set (s : List UInt8) (w : World) (hs : s.length ≤ 1000000) : Calls Try.prog 24 #[.string (strOf s)] w fun e w' => e = .returned (gl.setRes s) ∧ Below w.heap.size w w' := by
  obtain ⟨fs, hu⟩ := gl.isRow
  have HU := Lib.hid hu
  clear hu
  go_enter Try.func24, Try.ntmps24
  go_upto_region 2 with (first
    | ((with_reducible show wpList _ _ _ _ _ _); refine wpList_new rfl 47 rfl (gl.cells false gl.no) gl.zero ?_; simp only [Act.put, List.setIfInBounds_toArray, List.set_cons_zero, List.set_cons_succ])
    | fail)
  obtain ⟨w1, hw1⟩ : ∃ w1, w1 = (w.alloc (.cells (gl.cells false gl.no).toArray 47)).alloc (.cells (gl.cells false gl.no).toArray 47) := ⟨_, rfl⟩
  rw [← hw1]
  simp only [World.size_alloc]
  have HA : Hid (gl.SetAt w (gl.body s) w1 (gl.inN [])) := Lib.hid (by
    rw [hw1]
    have z : ∀ o : Obj, ((w.alloc (.cells (gl.cells false gl.no).toArray 47)).alloc o).heap[w.heap.size]? = (w.alloc (.cells (gl.cells false gl.no).toArray 47)).heap[w.heap.size]? := fun o => Below.heap_alloc _ _ _ (by simp)
    refine ⟨?_, ?_, rangeAt_block (rangeAt_new _ _ _) (z _), there_block (there_new _ (gl.cells false gl.no) _) (z _), (by repeat (first | (with_reducible exact Below.refl _ _) | (with_reducible assumption) | (with_reducible refine bset ?_ ?_ _) | (with_reducible refine balloc ?_ _) | (with_reducible refine Below.drew ?_) | (with_reducible refine bdrewN ?_ _) | (with_reducible refine bnext ?_ (by with_reducible assumption)) | exact Nat.le_refl _ | (simp; done) | omega | (simp; omega)))⟩
    · have := rangeAt_new (w.alloc (.cells (gl.cells false gl.no).toArray 47)) (gl.cells false gl.no) 47
      rw [World.size_alloc] at this
      exact this
    · have := there_new (w.alloc (.cells (gl.cells false gl.no).toArray 47)) (gl.cells false gl.no) 47
      rw [World.size_alloc] at this
      exact this)
  clear hw1
  go_cut [6] (fun s6 wx => s6 = .bool (gl.notB s) ∧ wx = w1)
  case first =>
    cases s with
    | nil =>
      go_wp2
      go_meet
      exact ⟨rfl, rfl⟩
    | cons a t =>
      have h0 := a.toNat_lt
      by_cases h1 : a = 94
      · subst h1
        go_wp2
        go_meet
        exact ⟨rfl, rfl⟩
      · have HX : Hid (gl.notB (a :: t) = false) := Lib.hid (by unfold gl.notB; simpa using h1)
        obtain ⟨k1, k1'⟩ := u8_no 94 h1 rfl
        clear h1
        go_wp2
        go_meet
        exact ⟨by rw [HX.out], rfl⟩
  case rest =>
    obtain ⟨rfl, rfl⟩ := hcut
    obtain ⟨no, HNO⟩ : ∃ no, Hid (gl.notB s = no) := ⟨_, Lib.hid rfl⟩
    rw [HNO.out]
    go_upto_if 19 with fail
    go_cut [0] (fun s0 wx => s0 = .string (strOf (gl.body s)) ∧ wx = wc)
    case first =>
      cases no with
      | false =>
        have HX : Hid (gl.body s = s) := Lib.hid (by unfold gl.body; rw [HNO.out]; rfl)
        go_wp2
        go_meet
        exact ⟨by rw [HX.out], rfl⟩
      | true =>
        obtain ⟨t, rfl⟩ : ∃ t, s = 94 :: t := by
          cases s with
          | nil => exact absurd HNO.out (by simp [gl.notB])
          | cons a t =>
            refine ⟨t, ?_⟩
            have : a = 94 := by simpa [gl.notB] using HNO.out
            rw [this]
        go_wp2
        go_meet
        exact ⟨rfl, rfl⟩
    case rest =>
      obtain ⟨rfl, rfl⟩ := hcut
      have hb : (gl.body s).length ≤ 1000000 := by
        unfold gl.body
        split
        · rw [List.length_tail]; omega
        · exact hs
      go_wp2
      go_loopw [0, 7, 8, 9, 10] (fun s0 s7 s8 s9 s10 wr => ∃ (acc : List (UInt8 × UInt8)) (cur : List UInt8), s0 = .string (strOf cur) ∧ s7 = .bool acc.isEmpty ∧ cur.length ≤ 1000000 ∧ Hid (gl.ranges acc cur = gl.ranges [] (gl.body s)) ∧ Hid (gl.SetAt w (gl.body s) wr (gl.inN acc))) (fun s0 _ _ _ _ _ => gl.strLen s0)
      case atStart => exact ⟨[], gl.body s, rfl, rfl, hb, Lib.hid rfl, HA⟩
      case round =>
        obtain ⟨acc, cur, rfl, rfl, hcl, HR, HS⟩ := hrel
        rename World => wr
        by_cases hp : gl.plainB cur = true
        · obtain ⟨a, t, rfl⟩ : ∃ a t, cur = a :: t := by
            cases cur with
            | nil => cases hp
            | cons a t => exact ⟨a, t, rfl⟩
          have HP := Lib.hid hp
          go_upto_region 11 with (first
            | (go_at_call 35; ((with_reducible refine (glob_plain _ _ (by first | assumption | (simp at hcl; omega))).mono ?_); rintro e w' ⟨rfl, rfl⟩))
            | fail)
          rw [List.length_cons] at hcl
          go_cut [40] (fun s40 wx => s40 = .bool (t.head? == some 45 && gl.plainB t.tail) ∧ wx = wr)
          case first =>
            cases t with
            | nil =>
              go_wp2
              go_meet
              exact ⟨rfl, rfl⟩
            | cons d u =>
              have h0 := d.toNat_lt
              by_cases h1 : d = 45
              · subst h1
                go_wp2_with (first
                  | (go_at_call 35; ((with_reducible refine (glob_plain _ _ (by first | assumption | (simp at hcl; omega))).mono ?_); rintro e w' ⟨rfl, rfl⟩))
                  | fail)
                go_meet
                exact ⟨rfl, rfl⟩
              · obtain ⟨k1, k1'⟩ := u8_no 45 h1 rfl
                have HX : Hid (((d :: u).head? == some 45 && gl.plainB (d :: u).tail) = false) := Lib.hid (by simp [h1])
                clear h1
                go_wp2
                go_meet
                exact ⟨by rw [HX.out], rfl⟩
          case rest =>
            obtain ⟨rfl, rfl⟩ := hcut
            obtain ⟨two, HTW⟩ : ∃ two, Hid ((t.head? == some 45 && gl.plainB t.tail) = two) := ⟨_, Lib.hid rfl⟩
            rw [HTW.out]
            go_upto_if 40 with fail
            obtain ⟨hi, rest, HRG⟩ : ∃ hi rest, Hid (gl.rng (a :: t) = ((a, hi), rest)) := by
              cases two with
              | true =>
                have h := HTW.out
                simp only [Bool.and_eq_true, beq_iff_eq] at h
                exact ⟨t.tail.headD 0, t.tail.tail, Lib.hid (by show (if t.head? = some 45 ∧ gl.plainB t.tail = true then _ else _) = _; rw [if_pos h])⟩
              | false =>
                have h := HTW.out
                refine ⟨a, t, Lib.hid (gl.rng_one a t (fun e => ?_))⟩
                rw [e.1, e.2] at h
                simp at h
            go_cut [0, 9] (fun s0 s9 wx => s0 = .string (strOf rest) ∧ s9 = .int .u8 (hi.toNat : Int) ∧ ∃ m, wx = wc.drewN m)
            case first =>
              cases two with
              | false =>
                have h := HTW.out
                have h2 := HRG.out
                rw [gl.rng_one a t (fun e => by rw [e.1, e.2] at h; simp at h)] at h2
                cases h2
                clear h
                go_wp2
                go_meet
                exact ⟨rfl, rfl, 0, rfl⟩
              | true =>
                obtain ⟨b, u, rfl, hb2⟩ : ∃ b u, t = 45 :: b :: u ∧ gl.plainB (b :: u) = true := by
                  have h := HTW.out
                  simp only [Bool.and_eq_true, beq_iff_eq] at h
                  cases t with
                  | nil => cases h.1
                  | cons d u =>
                    obtain rfl : d = 45 := by simpa using h.1
                    cases u with
                    | nil => cases h.2
                    | cons b u => exact ⟨b, u, rfl, h.2⟩
                have h2 := HRG.out
                rw [gl.rng_two a b u hb2] at h2
                cases h2
                clear hb2
                go_wp2
                go_quiet (fail)
                go_wp2
                go_meet
                exact ⟨rfl, rfl, _, rfl⟩
            case rest =>
              obtain ⟨rfl, rfl, m, rfl⟩ := hcut
              have HS6 := Lib.hid (HS.out.drewN m)
              obtain ⟨w6, hw6⟩ : ∃ w6, w6 = wc.drewN m := ⟨_, rfl⟩
              rw [← hw6] at HS6 ⊢
              clear hw6
              have hal := a.toNat_lt
              have hhl := hi.toNat_lt
              by_cases hlh : hi < a
              · have hd : decide (hi.toNat < a.toNat) = true := decide_eq_true (UInt8.lt_iff_toNat_lt.1 hlh)
                have HNOPE : Hid (gl.setOf s = none) := Lib.hid (gl.setOf_no (by rw [← HR.out]; exact gl.ranges_no acc HP.out (by rw [HRG.out]; exact hlh)))
                clear hlh
                go_wp2_with (first
                  | ((with_reducible show wpList _ _ _ _ _ _); refine wpList_store_mid rfl 47 _ _ rfl w.heap.size 0 (gl.cells false gl.no).toArray rfl (congrArg Value.agg gl.zc) (gl.thereA HS6.out.t0 _ _) (gl.sizeA _ _) (gl.oneA _ _) ?_)
                  | fail)
                have HR3 := Lib.hid (gl.stored HS6.out.t0 false gl.no)
                refine bodyPost_ret (v := .tuple #[.agg (gl.cells false gl.no).toArray, .string (strOf []), .bool false]) ?_ rfl ⟨?_, ?_⟩
                · exact results_three (a := 2) (t := 47) (r := 3) (s := 4) rfl w.heap.size _ _ rfl HR3.out HU.out rfl (gl.sizeL _ _) _ _ rfl rfl
                · rw [gl.setRes_no HNOPE.out]
                · exact below_setCells (Nat.le_refl _) _ _ HS6.out.bel
              · have hle : a.toNat ≤ hi.toNat := Nat.le_of_not_lt (fun e => hlh (UInt8.lt_iff_toNat_lt.2 e))
                have hd : decide (hi.toNat < a.toNat) = false := decide_eq_false (by omega)
                have HRN : Hid (gl.ranges (acc ++ [(a, hi)]) rest = gl.ranges [] (gl.body s)) := Lib.hid (by
                  rw [← HR.out, gl.ranges_on acc HP.out (by rw [HRG.out]; exact hlh), HRG.out])
                have hrl : rest.length < t.length + 1 := by have h := gl.rng_len HP.out; rw [HRG.out] at h; simpa using h
                clear hlh
                go_wp2_with fail
                go_loopw [10] (fun s10 w7 => ∃ k : Nat, a.toNat ≤ k ∧ k ≤ hi.toNat + 1 ∧ s10 = .int .i64 k ∧ Hid (gl.SetAt w (gl.body s) w7 (fun j => gl.inN acc j || (decide (a.toNat ≤ j) && decide (j < k))))) (fun s10 _ => 256 - (intOf s10).toNat)
                case atStart => exact ⟨a.toNat, Nat.le_refl _, by omega, rfl, Lib.hid (HS6.out.as (fun i _ => by
                  have e : (decide (a.toNat ≤ i) && decide (i < a.toNat)) = false := by
                    by_cases e : a.toNat ≤ i
                    · rw [decide_eq_false (by omega : ¬ i < a.toNat), Bool.and_false]
                    · rw [decide_eq_false e]; rfl
                  rw [e, Bool.or_false]))⟩
                case round =>
                  obtain ⟨k, hk1, hk2, rfl, HK⟩ := hrel
                  rename World => w7
                  by_cases hkl : k ≤ hi.toNat
                  · have hki : (k : Int) ≤ (hi.toNat : Int) := by omega
                    have hk256 : k < 256 := by omega
                    obtain ⟨hs1, hs2⟩ := HK.out.cell hk256
                    have HKN : Hid (gl.SetAt w (gl.body s) (w7.setCell ⟨w.heap.size + 1, 1 + k, none⟩ (.bool true)) (fun j => gl.inN acc j || (decide (a.toNat ≤ j) && decide (j < k + 1)))) := Lib.hid ((HK.out.put hk256 true).as (fun j _ => by
                      by_cases e : j = k
                      · subst e; rw [if_pos rfl]; simp [hk1]
                      · rw [if_neg e, show decide (j < k + 1) = decide (j < k) from decide_eq_decide.2 (by omega)]))
                    go_wp2
                    go_roundw
                    case rel => exact ⟨k + 1, by omega, by omega, by go_num, HKN⟩
                    case measure => simp [intOf]; omega
                  · obtain rfl : k = hi.toNat + 1 := by omega
                    have HKN : Hid (gl.SetAt w (gl.body s) w7 (gl.inN (acc ++ [(a, hi)]))) := Lib.hid (HK.out.as (fun j _ => by
                      rw [gl.inN_snoc, show decide (j ≤ hi.toNat) = decide (j < hi.toNat + 1) from decide_eq_decide.2 (by omega)]))
                    go_wp2
                    go_roundw
                    case rel => exact ⟨acc ++ [(a, hi)], rest, rfl, by simp, by omega, HRN, HKN⟩
                    case measure => simp [gl.strLen, strOf_size]; omega
        · have HP : Hid (gl.plainB cur = false) := Lib.hid (by simpa using hp)
          have hp2 := HP.out
          clear hp
          go_upto_region 19 with (first
            | (go_at_call 35; ((with_reducible refine (glob_plain _ _ (by first | assumption | (simp at hcl; omega))).mono ?_); rintro e w' ⟨rfl, rfl⟩))
            | fail)
          have HRE : Hid (gl.ranges [] (gl.body s) = some (acc, cur)) := Lib.hid (by rw [← HR.out]; exact gl.ranges_end acc HP.out)
          clear hp2
          obtain ⟨em, HEM⟩ : ∃ em, Hid (acc.isEmpty = em) := ⟨_, Lib.hid rfl⟩
          rw [HEM.out]
          go_cut [69] (fun s69 wx => s69 = .bool (em || !(cur.head? == some 93)) ∧ wx = wr)
          case first =>
            cases em with
            | true =>
              go_wp2
              go_meet
              exact ⟨rfl, rfl⟩
            | false =>
              cases cur with
              | nil =>
                go_wp2
                go_meet
                exact ⟨rfl, rfl⟩
              | cons d u =>
                have h0 := d.toNat_lt
                by_cases h1 : d = 93
                · subst h1
                  go_wp2
                  go_meet
                  exact ⟨rfl, rfl⟩
                · obtain ⟨k1, k1'⟩ := u8_no 93 h1 rfl
                  have HX : Hid ((false || !((d :: u).head? == some 93)) = true) := Lib.hid (by simp [h1])
                  clear h1
                  go_wp2
                  go_meet
                  exact ⟨by rw [HX.out], rfl⟩
          case rest =>
            obtain ⟨rfl, rfl⟩ := hcut
            obtain ⟨bad, HBD⟩ : ∃ bad, Hid ((em || !(cur.head? == some 93)) = bad) := ⟨_, Lib.hid rfl⟩
            rw [HBD.out]
            cases bad with
            | true =>
              have HNOPE : Hid (gl.setOf s = none) := Lib.hid (gl.setOf_bad HRE.out (by
                have h1 := HBD.out
                cases em with
                | true => exact .inl (by have := HEM.out; simpa using this)
                | false => exact .inr (by simpa using h1)))
              go_wp2_with (first
                | ((with_reducible show wpList _ _ _ _ _ _); refine wpList_store_mid rfl 47 _ _ rfl w.heap.size 0 (gl.cells false gl.no).toArray rfl (congrArg Value.agg gl.zc) (gl.thereA HS.out.t0 _ _) (gl.sizeA _ _) (gl.oneA _ _) ?_)
                | fail)
              have HR3 := Lib.hid (gl.stored HS.out.t0 false gl.no)
              refine bodyPost_ret (v := .tuple #[.agg (gl.cells false gl.no).toArray, .string (strOf []), .bool false]) ?_ rfl ⟨?_, ?_⟩
              · exact results_three (a := 2) (t := 47) (r := 3) (s := 4) rfl w.heap.size _ _ rfl HR3.out HU.out rfl (gl.sizeL _ _) _ _ rfl rfl
              · rw [gl.setRes_no HNOPE.out]
              · exact below_setCells (Nat.le_refl _) _ _ HS.out.bel
            | false =>
              have hne : acc ≠ [] := fun e => by
                have h1 := HBD.out
                have h2 := HEM.out
                rw [e] at h2
                rw [← h2] at h1
                simp at h1
              obtain ⟨u, rfl⟩ : ∃ u, cur = 93 :: u := by
                have h1 := HBD.out
                simp only [Bool.or_eq_false_iff, Bool.not_eq_false', beq_iff_eq] at h1
                cases cur with
                | nil => cases h1.2
                | cons d u => exact ⟨u, by have : d = 93 := by simpa using h1.2
                                           rw [this]⟩
              have HOK : Hid (gl.setOf s = some (.set acc no, u)) := Lib.hid (by rw [← HNO.out]; exact gl.setOf_ok HRE.out hne)
              clear hne
              go_wp2_with fail
              go_loopw [11, 71] (fun _ s71 w7 => ∃ k : Nat, k ≤ 256 ∧ s71 = .int .i64 k ∧ Hid (gl.SetAt w (gl.body s) w7 (fun j => if j < k then gl.inN acc j != no else gl.inN acc j))) (fun _ s71 _ => 256 - (intOf s71).toNat)
              case atStart => exact ⟨0, by omega, rfl, Lib.hid (HS.out.as (fun i _ => by simp))⟩
              case round =>
                obtain ⟨k, hk, rfl, HK⟩ := hrel
                rename World => w7
                by_cases hkl : k < 256
                · obtain ⟨hs1, hs2⟩ := HK.out.cell hkl
                  rw [if_neg (Nat.lt_irrefl k)] at hs1
                  have HKN : Hid (gl.SetAt w (gl.body s) (w7.setCell ⟨w.heap.size + 1, 1 + k, none⟩ (.bool (gl.inN acc k != no))) (fun j => if j < k + 1 then gl.inN acc j != no else gl.inN acc j)) := Lib.hid ((HK.out.put hkl (gl.inN acc k != no)).as (fun j _ => by
                    by_cases e : j = k
                    · subst e; simp
                    · rw [if_neg e]
                      by_cases e2 : j < k
                      · rw [if_pos e2, if_pos (by omega)]
                      · rw [if_neg e2, if_neg (by omega)]))
                  go_wp2
                  go_roundw
                  case rel => exact ⟨k + 1, by omega, by go_num, HKN⟩
                  case measure => simp [intOf]; omega
                · obtain rfl : k = 256 := by omega
                  have HKN : Hid (gl.SetAt w (gl.body s) w7 (fun i => gl.inN acc i != no)) := Lib.hid (HK.out.as (fun j hj => by rw [if_pos hj]))
                  have hul : u.length ≤ 1000000 := by simp at hcl; omega
                  have hsl1 : (1 : Int) ≤ (u.length : Int) + 1 := by omega
                  go_wp2_with fail
                  refine wp_region_tail [3] (fun wx => wx.rangeAt (w.heap.size + 1) 0 (gl.cells false (fun i => gl.inN acc i != no)) ∧ wx.there w.heap.size 0 257) (by kernel_rfl) (⟨HKN.out.b1, HKN.out.t0⟩) ?_
                  intro hHeld
                  refine wpAnyT_take (i := 0) [3] (v := .agg (gl.cells false (fun i => gl.inN acc i != no)).toArray) rfl (by kernel_rfl) (by kernel_rfl) (by kernel_rfl) (by kernel_rfl) (fun _ _ _ h => h) (yieldsIf_load_mid (by rfl) 47 _ rfl (w.heap.size + 1) 0 rfl _ _ (fun wx hx => hx.1) HU.out rfl (gl.sizeL _ _)) hHeld ?_
                  simp only [Act.put, List.setIfInBounds_toArray, List.set_cons_zero, List.set_cons_succ]
                  refine wpAnyT_pure (i := 1) (v := ?_) rfl (by kernel_rfl) (by kernel_rfl) (by kernel_rfl) (fun _ _ _ h => h) (.inl ⟨by rfl, ?_⟩) (fun _ => hHeld) ?_ (by decide)
                  rotate_left
                  · intro w9; go_simp; try with_reducible rfl
                  simp only [Act.put, List.setIfInBounds_toArray, List.set_cons_zero, List.set_cons_succ]
                  refine wpAnyT_pure (i := 2) (v := ?_) rfl (by kernel_rfl) (by kernel_rfl) (by kernel_rfl) (fun _ _ _ h => h) (.inl ⟨by rfl, ?_⟩) (fun _ => hHeld) ?_ (by decide)
                  rotate_left
                  · intro w9; go_simp; try with_reducible rfl
                  simp only [Act.put, List.setIfInBounds_toArray, List.set_cons_zero, List.set_cons_succ]
                  refine wpAnyT_next (i := 3) (by kernel_rfl) rfl ?_
                  intro K hK
                  rw [if_pos (by rfl)]
                  refine wp_store_mid 47 _ _ rfl w.heap.size 0 _ rfl rfl (gl.thereA hHeld.2 _ _) (gl.sizeA _ _) (gl.oneA _ _) ?_
                  refine hK.out _ _ (fun h => absurd ((by kernel_rfl : false = _).trans h) Bool.false_ne_true) ?_
                  clear hK K
                  simp only [Act.put, List.setIfInBounds_toArray, List.set_cons_zero, List.set_cons_succ]
                  refine wpAnyT_next (i := 4) (by kernel_rfl) rfl ?_
                  intro K hK
                  go_simp
                  refine hK.out _ _ (fun h => absurd ((by kernel_rfl : false = _).trans h) Bool.false_ne_true) ?_
                  clear hK K
                  refine wpAnyT_next (i := 5) (by kernel_rfl) rfl ?_
                  intro K hK
                  go_simp
                  refine hK.out _ _ (fun h => absurd ((by kernel_rfl : false = _).trans h) Bool.false_ne_true) ?_
                  clear hK K
                  refine wpAnyT_done (by kernel_rfl) ?_ _
                  go_wp2_with fail
                  have HR3 := Lib.hid (gl.stored hHeld.2 false (fun i => gl.inN acc i != no))
                  refine bodyPost_ret (v := .tuple #[.agg (gl.cells false (fun i => gl.inN acc i != no)).toArray, .string (strOf u), .bool true]) ?_ rfl ⟨?_, ?_⟩
                  · exact results_three (a := 2) (t := 47) (r := 3) (s := 4) rfl w.heap.size _ _ rfl HR3.out HU.out rfl (gl.sizeL _ _) _ _ rfl rfl
                  · rw [gl.setRes_ok HOK.out, gl.set_cells]
                  · exact below_setCells (Nat.le_refl _) _ _ (Below.drew HKN.out.bel)
end Go.Proofs.Ytldoihbblgnpjaa
