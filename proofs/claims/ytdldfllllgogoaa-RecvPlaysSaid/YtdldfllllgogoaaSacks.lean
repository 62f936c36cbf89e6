/- Package hole: Sacks: the plain law, and the reference. No condition. -/
import Derived.Test.YtdldfllllgogoaaHole2
import Derived.Test.YtdldfllllgogoaaSl
namespace Go.Proofs.Ytdldfllllgogoaa
open Go.RowKit

/-! ### The plain law -/
def hitB (last : Int) (r : Rng) : Bool := decide (r.lo ≤ last ∧ last < r.hi)
/-- what holds the place first; the others, the last ones first -/
def sackAll (last : Int) (l : List Rng) : List Rng := l.filter (hitB last) ++ l.reverse.filter (fun r => ! hitB last r)
def sacks (last n : Int) (l : List Rng) : List Rng := (sackAll last l).take n.toNat
theorem one_hit {done last : Int} {l : List Rng} (h : HoleMay done l) {i j : Nat} (hi : i < l.length) (hj : j < l.length) (h1 : hitB last (l.getD i Rng.z) = true) (h2 : hitB last (l.getD j Rng.z) = true) : i = j := by
  have hc := h.2.2.2.1
  have key : ∀ a b : Nat, a < b → b < l.length → (l.getD a Rng.z).hi ≤ (l.getD b Rng.z).lo := fun a b hab hb => by
    have h3 := Chain.le (n := b) (fun k hk => hc k (by omega)) (a + 1) (by omega)
    rw [endAt_succ] at h3
    have := (hc b hb).1
    omega
  simp only [hitB, decide_eq_true_eq] at h1 h2
  rcases Nat.lt_trichotomy i j with h3 | h3 | h3
  · have := key i j h3 hj; omega
  · exact h3
  · have := key j i h3 hi; omega
theorem mem_at {l : List Rng} {x : Rng} (h : x ∈ l) : ∃ i, i < l.length ∧ l.getD i Rng.z = x := by
  obtain ⟨i, hi, e⟩ := List.getElem_of_mem h
  exact ⟨i, hi, by rw [List.getD_eq_getElem?_getD, List.getElem?_eq_getElem hi]; exact e⟩
/-- whoever holds the place is the first one -/
theorem hit_head {done last : Int} {l : List Rng} (h : HoleMay done l) {i : Nat} (hi : i < l.length) (h1 : hitB last (l.getD i Rng.z) = true) : ∃ r, l.filter (hitB last) = l.getD i Rng.z :: r := by
  have hm : l.getD i Rng.z ∈ l.filter (hitB last) := List.mem_filter.2 ⟨by rw [List.getD_eq_getElem?_getD, List.getElem?_eq_getElem hi]; exact List.getElem_mem hi, h1⟩
  cases hf : l.filter (hitB last) with
  | nil => rw [hf] at hm; cases hm
  | cons x r =>
    have hx : x ∈ l.filter (hitB last) := by rw [hf]; exact List.mem_cons_self
    obtain ⟨hx1, hx2⟩ := List.mem_filter.1 hx
    obtain ⟨j, hj, rfl⟩ := mem_at hx1
    obtain rfl := one_hit h hi hj h1 hx2
    exact ⟨r, rfl⟩
/-- the reference's second way: j of the last ones have been gone through -/
def refTo (last : Int) (l : List Rng) (j : Nat) : List Rng := l.filter (hitB last) ++ (l.reverse.take j).filter (fun r => ! hitB last r)
theorem refTo_all (last : Int) (l : List Rng) : refTo last l l.length = sackAll last l := by
  unfold refTo sackAll
  rw [List.take_of_length_le (by simp)]
theorem refTo_zero (last : Int) (l : List Rng) : refTo last l 0 = l.filter (hitB last) := by simp [refTo]
theorem rev_take_succ (l : List Rng) (m j : Nat) (h : m + 1 + j = l.length) : l.reverse.take (j + 1) = l.reverse.take j ++ [l.getD m Rng.z] := by
  rw [List.take_add_one, List.getElem?_reverse (by omega), show l.length - 1 - j = m by omega, List.getD_eq_getElem?_getD, List.getElem?_eq_getElem (by omega)]
  rfl
theorem refTo_yes {last : Int} {l : List Rng} {m j : Nat} (h : m + 1 + j = l.length) (hh : hitB last (l.getD m Rng.z) = true) : refTo last l (j + 1) = refTo last l j := by
  unfold refTo
  rw [rev_take_succ l m j h, List.filter_append]
  generalize l.getD m Rng.z = r at *
  simp [hh]
theorem refTo_no {last : Int} {l : List Rng} {m j : Nat} (h : m + 1 + j = l.length) (hh : hitB last (l.getD m Rng.z) = false) : refTo last l (j + 1) = refTo last l j ++ [l.getD m Rng.z] := by
  unfold refTo
  rw [rev_take_succ l m j h, List.filter_append]
  generalize l.getD m Rng.z = r at *
  simp [hh]
theorem sackAll_length (last : Int) (l : List Rng) : (sackAll last l).length = l.length := by
  unfold sackAll
  rw [List.length_append]
  have : (l.reverse.filter (fun r => ! hitB last r)).length = (l.filter (fun r => ! hitB last r)).length := by rw [List.filter_reverse, List.length_reverse]
  rw [this]
  induction l with
  | nil => rfl
  | cons x r ih => cases h : hitB last x <;> simp_all <;> omega
theorem refTo_le (last : Int) (l : List Rng) (j : Nat) : (refTo last l j).length ≤ l.length := by
  rw [← sackAll_length last l]
  unfold refTo sackAll
  rw [List.length_append, List.length_append]
  have := ((List.take_sublist j l.reverse).filter (fun r => ! hitB last r)).length_le
  omega
theorem filt_succ (last : Int) (l : List Rng) (k : Nat) (h : k < l.length) : (l.take (k + 1)).filter (hitB last) = (l.take k).filter (hitB last) ++ (if hitB last (l.getD k Rng.z) = true then [l.getD k Rng.z] else []) := by
  rw [List.take_add_one, List.getElem?_eq_getElem h, List.filter_append, List.getD_eq_getElem?_getD, List.getElem?_eq_getElem h]
  cases hh : hitB last l[k] <;> simp [hh]
theorem filt_le (last : Int) (l : List Rng) (k : Nat) : ((l.take k).filter (hitB last)).length ≤ k := Nat.le_trans (List.length_filter_le _ _) (by rw [List.length_take]; omega)

def RngsRes (r : Except Int (List Rng)) (w : World) (e : Ending) (w' : World) : Prop :=
  ∃ A c, e = .returned (.tuple #[.slice A (exL r).length c, .int .i64 (exC r)]) ∧ SlRep Rng.rep w' (fun k => w.heap.size ≤ k ∧ k < w'.heap.size) (exL r) A c ∧ Below w.heap.size w w'

set_option maxRecDepth 100000 in
set_option maxHeartbeats 4000000 in
theorem ref_Sacks_ok (done : Int) (l : List Rng) (last n : Int) (A : Option Addr) (c : Nat) (w : World) (hl : SlRep Rng.rep w (· < w.heap.size) l A c) (h : holeMayB done l = true) (hn : 0 ≤ n ∧ n ≤ 16) :
    Calls Try.prog 44 #[.int .i64 done, .slice A l.length c, .int .i64 last, .int .i64 n] w (RngsRes (.ok (sacks last n l)) w) := by
  have hm : HoleMay done l := by simpa [holeMayB] using h
  have hn16 := hm.2.2.1
  have HMAY := Lib.hid hm
  have HL := Lib.hid hl
  clear hl hm
  go_enter Try.func44, Try.ntmps44
  go_wp2_with (go_at_call 75; refine (ref_HoleMay_yes done l A c _ HL.out (by omega) h).mono ?_; rintro e w1 ⟨rfl, hb1⟩)
  go_loopw [10, 26] (fun out i wr => ∃ (k : Nat) (A' : Option Addr) (c' : Nat), k ≤ l.length ∧ i = .int .i64 k ∧ out = .slice A' ((l.take k).filter (hitB last)).length c' ∧ Hid (Own wr w.heap.size 78 2 A' ((l.take k).filter (hitB last)).length c' (((l.take k).filter (hitB last)).flatMap Rng.cells)) ∧ Below w.heap.size w wr) (fun _ i _ => l.length - (intOf i).toNat)
  case atStart => exact ⟨0, none, 0, Nat.zero_le _, rfl, rfl, Lib.hid (Own.nil _ _ _ _), hb1⟩
  case round =>
    obtain ⟨k, A', c', hk, rfl, rfl, HO, hB⟩ := hrel
    rename World => wr
    by_cases hlt : k < l.length
    · obtain ⟨b, o, rfl, hb, hc1, hc2⟩ := Rng.cells_at Rng.z (HL.out.below hB) hlt
      have hbw : b < wr.heap.size := Nat.lt_of_lt_of_le hb hB.size
      have hsz := hB.size
      have HS := Lib.hid (filt_succ last l k hlt)
      have hle := filt_le last l k
      clear HL hb1
      by_cases hh : hitB last (l.getD k Rng.z) = true
      · have HG : Hid ((l.take (k + 1)).filter (hitB last) = (l.take k).filter (hitB last) ++ [l.getD k Rng.z]) := Lib.hid (by rw [HS.out, if_pos hh])
        have hh2 : (l.getD k Rng.z).lo ≤ last ∧ last < (l.getD k Rng.z).hi := by simpa [hitB] using hh
        have hn1 : ((l.take (k + 1)).filter (hitB last)).length = ((l.take k).filter (hitB last)).length + 1 := by rw [HG.out]; simp
        have HN1 := Lib.hid hn1
        obtain ⟨h1, h2⟩ := hh2
        have h1' : last ≥ (l.getD k Rng.z).lo := h1
        have HF : Hid (((l.take (k + 1)).filter (hitB last)).flatMap Rng.cells = ((l.take k).filter (hitB last)).flatMap Rng.cells ++ [.int .i64 (l.getD k Rng.z).lo, .int .i64 (l.getD k Rng.z).hi]) := Lib.hid (by rw [HG.out]; simp [Rng.cells])
        clear hh HS hn1 HG
        generalize (l.getD k Rng.z).lo = x at *
        generalize (l.getD k Rng.z).hi = y at *
        generalize hm : ((l.take k).filter (hitB last)).length = m at *
        clear hm
        go_wp2_with (at_builtin; refine wp_app _ rfl _ _ _ rfl elemRng w.heap.size A' m c' _ rfl ((HO.out.alloc _).alloc _) _ 1 1 [.int .i64 x, .int .i64 y] rfl rfl (Cells.newAt _ _ _ (by simp)) (by simp [Value.oneCell']) (by omega) (by unfold maxLen; omega) (by simp; omega) ?_; intro A2 c2 w2 hO2 hg2; have HO3 := Lib.hid hO2; clear hO2)
        go_roundw
        case rel => exact ⟨k + 1, A2, c2, by omega, by go_num, by rw [HN1.out], Lib.hid (by rw [HF.out, HN1.out]; exact HO3.out), Grew.step (balloc (balloc hB _) _) hg2 (fun g hg => (HO.out.lt g hg).1)⟩
        case measure => simp [intOf]; omega
      · have HG : Hid ((l.take (k + 1)).filter (hitB last) = (l.take k).filter (hitB last)) := Lib.hid (by rw [HS.out, if_neg hh, List.append_nil])
        have hh2 : ¬ ((l.getD k Rng.z).lo ≤ last ∧ last < (l.getD k Rng.z).hi) := by simpa [hitB] using hh
        clear hh HS
        generalize (l.getD k Rng.z).lo = x at *
        generalize (l.getD k Rng.z).hi = y at *
        by_cases h1 : x ≤ last
        · have h2 : ¬ last < y := fun e => hh2 ⟨h1, e⟩
          have h1' : last ≥ x := h1
          clear hh2
          go_wp2_with fail
          go_roundw
          case rel => exact ⟨k + 1, A', c', by omega, by go_num, by rw [HG.out], Lib.hid (by rw [HG.out]; exact HO.out.alloc _), balloc hB _⟩
          case measure => simp [intOf]; omega
        · have h1' : ¬ last ≥ x := h1
          clear hh2
          go_wp2_with fail
          go_roundw
          case rel => exact ⟨k + 1, A', c', by omega, by go_num, by rw [HG.out], Lib.hid (by rw [HG.out]; exact HO.out.alloc _), balloc hB _⟩
          case measure => simp [intOf]; omega
    · obtain rfl : k = l.length := by omega
      have HO' : Hid (Own wr w.heap.size 78 2 A' (refTo last l 0).length c' ((refTo last l 0).flatMap Rng.cells)) := Lib.hid (by rw [refTo_zero]; rw [List.take_of_length_le (Nat.le_refl _)] at HO; exact HO.out)
      have hl0 : ((l.take l.length).filter (hitB last)).length = (refTo last l 0).length := by rw [refTo_zero, List.take_of_length_le (Nat.le_refl _)]
      rw [hl0]
      clear HO hl0
      go_wp2_with fail
      go_loopw [10, 13] (fun out i wq => ∃ (m j : Nat) (A' : Option Addr) (c' : Nat), m + j = l.length ∧ i = .int .i64 ((m : Int) - 1) ∧ out = .slice A' (refTo last l j).length c' ∧ Hid (Own wq w.heap.size 78 2 A' (refTo last l j).length c' ((refTo last l j).flatMap Rng.cells)) ∧ Below w.heap.size w wq) (fun _ i _ => ((intOf i) + 1).toNat)
      case atStart => exact ⟨l.length, 0, A', c', by omega, rfl, rfl, HO', hB⟩
      case round =>
        obtain ⟨m, j, A5, c5, hmj, rfl, rfl, HQ, hBq⟩ := hrel
        rename World => wq
        clear HO' hB
        cases m with
        | zero =>
          obtain rfl : j = l.length := by omega
          have hlen : (refTo last l l.length).length = l.length := by rw [refTo_all, sackAll_length]
          have HR : Hid (SlRep Rng.rep wq (fun k => w.heap.size ≤ k ∧ k < wq.heap.size) (sackAll last l) A5 c5) := Lib.hid (by rw [← refTo_all]; exact HQ.out.rng.2)
          have hcap := HQ.out.cap
          rw [hlen] at hcap ⊢
          have HT : Hid ((sacks last n l).length = min n.toNat l.length) := Lib.hid (by unfold sacks; rw [List.length_take, sackAll_length])
          clear HQ hlen HL HMAY
          have hz : (((0 : Nat) : Int) - 1) = -1 := by omega
          rw [hz]
          by_cases hgt : (l.length : Int) > n
          · have hcut := run_cut_h (P := Try.prog) elemRng A5 l.length c5 n.toNat (by omega) n (by omega)
            go_wp2_with fail
            go_ret2
            refine ⟨A5, c5, ?_, HR.out.take _, hBq⟩
            show _ = Ending.returned (.tuple #[.slice A5 (sacks last n l).length c5, .int .i64 0])
            rw [HT.out, Nat.min_eq_left (by omega)]
            rfl
          · go_wp2_with fail
            go_ret2
            refine ⟨A5, c5, ?_, HR.out.take _, hBq⟩
            show _ = Ending.returned (.tuple #[.slice A5 (sacks last n l).length c5, .int .i64 0])
            rw [HT.out, Nat.min_eq_right (by omega)]
            rfl
        | succ m =>
          have hi : (((m + 1 : Nat) : Int) - 1) = (m : Int) := by omega
          rw [hi]
          have hlm : m < l.length := by omega
          have hlm' : (m : Int) < (l.length : Int) := by omega
          obtain ⟨b, o, rfl, hb, hc1, hc2⟩ := Rng.cells_at Rng.z (HL.out.below hBq) hlm
          have hbw : b < wq.heap.size := Nat.lt_of_lt_of_le hb hBq.size
          have hsz := hBq.size
          have hle := refTo_le last l j
          by_cases hh : hitB last (l.getD m Rng.z) = true
          · obtain ⟨rr, hr⟩ := hit_head HMAY.out hlm hh
            have hrt : refTo last l j = l.getD m Rng.z :: (rr ++ (l.reverse.take j).filter (fun r => ! hitB last r)) := by unfold refTo; rw [hr]; rfl
            have HN := Lib.hid (refTo_yes hmj hh)
            obtain ⟨g, rfl, hg1, hg2, hg3⟩ := HQ.out.cell (j := 0) (u := .int .i64 (l.getD m Rng.z).lo) (by rw [hrt]; rfl)
            obtain ⟨g', hg', _, _, hg4⟩ := HQ.out.cell (j := 1) (u := .int .i64 (l.getD m Rng.z).hi) (by rw [hrt]; rfl)
            simp only [Option.some.injEq, Addr.mk.injEq, and_true] at hg'
            subst hg'
            have hpos : 0 < (refTo last l j).length := by rw [hrt]; simp
            obtain ⟨h1, h2⟩ : (l.getD m Rng.z).lo ≤ last ∧ last < (l.getD m Rng.z).hi := by simpa [hitB] using hh
            clear hh hr hrt
            generalize (l.getD m Rng.z).lo = x at *
            generalize (l.getD m Rng.z).hi = y at *
            generalize hq : (refTo last l j).length = q at *
            have HQL := Lib.hid hq
            clear hq
            obtain ⟨q, rfl⟩ : ∃ p, q = p + 1 := ⟨q - 1, by omega⟩
            have h1' : last ≥ x := h1
            go_wp2_with fail
            go_quiet (fail)
            go_wp2
            go_roundw
            case rel => exact ⟨m, j + 1, some ⟨g, 0, none⟩, c5, by omega, by go_num, by rw [HN.out, HQL.out], Lib.hid (by rw [HN.out, HQL.out]; exact HQ.out.drewN _), bdrewN hBq _⟩
            case measure => first | (simp [intOf]; done) | (simp [intOf]; omega)
          · have hN := refTo_no hmj (by simpa using hh)
            have hh2 : ¬ ((l.getD m Rng.z).lo ≤ last ∧ last < (l.getD m Rng.z).hi) := by simpa [hitB] using hh
            have HF : Hid ((refTo last l (j + 1)).flatMap Rng.cells = (refTo last l j).flatMap Rng.cells ++ [.int .i64 (l.getD m Rng.z).lo, .int .i64 (l.getD m Rng.z).hi]) := Lib.hid (by rw [hN]; simp [Rng.cells])
            have HN1 : Hid ((refTo last l (j + 1)).length = (refTo last l j).length + 1) := Lib.hid (by rw [hN]; simp)
            clear hN hh
            cases hc : refTo last l j with
            | nil =>
              have hq0 : (refTo last l j).length = 0 := by rw [hc]; rfl
              have HOW : Hid (∀ k o, Own ((wq.drewN k).alloc o) w.heap.size 78 2 A5 0 c5 ((refTo last l j).flatMap Rng.cells)) := Lib.hid (fun k o => by rw [← hq0]; exact (HQ.out.drewN k).alloc o)
              rw [hq0] at HN1
              simp only [List.length_nil]
              clear hc hq0 hh2
              generalize (l.getD m Rng.z).lo = x at *
              generalize (l.getD m Rng.z).hi = y at *
              go_wp2_with fail
              go_quiet (fail)
              go_wp2_with (at_builtin; refine wp_app _ rfl _ _ _ rfl elemRng w.heap.size A5 0 c5 _ rfl (HOW.out _ _) _ 1 1 [.int .i64 x, .int .i64 y] rfl rfl (Cells.newAt _ _ _ rfl) (by simp [Value.oneCell']) (by omega) (by unfold maxLen; omega) (by simp; omega) ?_; intro A7 c7 w7 hO7 hg7; have HO7 := Lib.hid hO7; clear hO7)
              go_roundw
              case rel => exact ⟨m, j + 1, A7, c7, by omega, by go_num, by rw [HN1.out], Lib.hid (by rw [HF.out, HN1.out]; exact HO7.out), Grew.step (balloc (bdrewN hBq _) _) hg7 (fun g hg => (HQ.out.lt g hg).1)⟩
              case measure => first | (simp [intOf]; done) | (simp [intOf]; omega)
            | cons z zs =>
              obtain ⟨g, rfl, hg1, hg2, hg3⟩ := HQ.out.cell (j := 0) (u := .int .i64 z.lo) (by rw [hc]; rfl)
              obtain ⟨g', hg', _, _, hg4⟩ := HQ.out.cell (j := 1) (u := .int .i64 z.hi) (by rw [hc]; rfl)
              simp only [Option.some.injEq, Addr.mk.injEq, and_true] at hg'
              subst hg'
              rw [← hc]
              have hpos : 0 < (refTo last l j).length := by rw [hc]; simp
              clear hc
              generalize (l.getD m Rng.z).lo = x at *
              generalize (l.getD m Rng.z).hi = y at *
              obtain ⟨x0, y0⟩ := z
              dsimp only at hg3 hg4
              have HOW : Hid (∀ k o, Own ((wq.drewN k).alloc o) w.heap.size 78 2 (some ⟨g, 0, none⟩) (refTo last l j).length c5 ((refTo last l j).flatMap Rng.cells)) := Lib.hid (fun k o => (HQ.out.drewN k).alloc o)
              generalize hq : (refTo last l j).length = q at *
              have HQL := Lib.hid hq
              clear hq
              obtain ⟨q, rfl⟩ : ∃ p, q = p + 1 := ⟨q - 1, by omega⟩
              have hqz : ((q : Int) + 1 == 0) = false := by rw [beq_eq_false_iff_ne]; omega
              by_cases hxy : x0 = x ∧ y0 = y
              · obtain ⟨rfl, rfl⟩ := hxy
                by_cases h1 : x0 ≤ last
                · have h2 : ¬ last < y0 := fun e => hh2 ⟨h1, e⟩
                  have h1' : last ≥ x0 := h1
                  have h1d : decide (x0 ≤ last) = true := decide_eq_true h1
                  have h2d : decide (last < y0) = false := decide_eq_false h2
                  clear hh2
                  go_wp2_with fail
                  go_big_quiet (fail)
                  go_wp2_with (at_builtin; refine wp_app _ rfl _ _ _ rfl elemRng w.heap.size (some ⟨g, 0, none⟩) (q + 1) c5 _ rfl (HOW.out _ _) _ 1 1 [.int .i64 x0, .int .i64 y0] rfl rfl (Cells.newAt _ _ _ rfl) (by simp [Value.oneCell']) (by omega) (by unfold maxLen; omega) (by simp; omega) ?_; intro A7 c7 w7 hO7 hg7; have HO7 := Lib.hid hO7; clear hO7)
                  go_roundw
                  case rel => exact ⟨m, j + 1, A7, c7, by omega, by go_num, by rw [HN1.out], Lib.hid (by rw [HF.out, HN1.out]; exact HO7.out), Grew.step (balloc (bdrewN hBq _) _) hg7 (fun g hg => (HQ.out.lt g hg).1)⟩
                  case measure => first | (simp [intOf]; done) | (simp [intOf]; omega)
                · have h1' : ¬ last ≥ x0 := h1
                  have h1d : decide (x0 ≤ last) = false := decide_eq_false h1
                  have h1e : decide (last ≥ x0) = false := decide_eq_false h1
                  clear hh2
                  go_wp2_with fail
                  go_big_quiet (fail)
                  go_wp2_with (at_builtin; refine wp_app _ rfl _ _ _ rfl elemRng w.heap.size (some ⟨g, 0, none⟩) (q + 1) c5 _ rfl (HOW.out _ _) _ 1 1 [.int .i64 x0, .int .i64 y0] rfl rfl (Cells.newAt _ _ _ rfl) (by simp [Value.oneCell']) (by omega) (by unfold maxLen; omega) (by simp; omega) ?_; intro A7 c7 w7 hO7 hg7; have HO7 := Lib.hid hO7; clear hO7)
                  go_roundw
                  case rel => exact ⟨m, j + 1, A7, c7, by omega, by go_num, by rw [HN1.out], Lib.hid (by rw [HF.out, HN1.out]; exact HO7.out), Grew.step (balloc (bdrewN hBq _) _) hg7 (fun g hg => (HQ.out.lt g hg).1)⟩
                  case measure => first | (simp [intOf]; done) | (simp [intOf]; omega)
              · by_cases hx0 : x0 = x
                · subst hx0
                  have hy0 : ¬ y0 = y := fun e => hxy ⟨rfl, e⟩
                  have hy1 : (y == y0) = false := by rw [beq_eq_false_iff_ne]; exact fun e => hy0 e.symm
                  have hy2 : (y0 == y) = false := by rw [beq_eq_false_iff_ne]; exact hy0
                  have hy3 : ¬ y = y0 := fun e => hy0 e.symm
                  clear hxy hh2
                  go_wp2_with fail
                  go_big_quiet (fail)
                  go_wp2_with (at_builtin; refine wp_app _ rfl _ _ _ rfl elemRng w.heap.size (some ⟨g, 0, none⟩) (q + 1) c5 _ rfl (HOW.out _ _) _ 1 1 [.int .i64 x0, .int .i64 y] rfl rfl (Cells.newAt _ _ _ rfl) (by simp [Value.oneCell']) (by omega) (by unfold maxLen; omega) (by simp; omega) ?_; intro A7 c7 w7 hO7 hg7; have HO7 := Lib.hid hO7; clear hO7)
                  go_roundw
                  case rel => exact ⟨m, j + 1, A7, c7, by omega, by go_num, by rw [HN1.out], Lib.hid (by rw [HF.out, HN1.out]; exact HO7.out), Grew.step (balloc (bdrewN hBq _) _) hg7 (fun g hg => (HQ.out.lt g hg).1)⟩
                  case measure => first | (simp [intOf]; done) | (simp [intOf]; omega)
                · have hx1 : (x == x0) = false := by rw [beq_eq_false_iff_ne]; exact fun e => hx0 e.symm
                  have hx2 : (x0 == x) = false := by rw [beq_eq_false_iff_ne]; exact hx0
                  have hx3 : ¬ x = x0 := fun e => hx0 e.symm
                  clear hxy hh2
                  go_wp2_with fail
                  go_big_quiet (fail)
                  go_wp2_with (at_builtin; refine wp_app _ rfl _ _ _ rfl elemRng w.heap.size (some ⟨g, 0, none⟩) (q + 1) c5 _ rfl (HOW.out _ _) _ 1 1 [.int .i64 x, .int .i64 y] rfl rfl (Cells.newAt _ _ _ rfl) (by simp [Value.oneCell']) (by omega) (by unfold maxLen; omega) (by simp; omega) ?_; intro A7 c7 w7 hO7 hg7; have HO7 := Lib.hid hO7; clear hO7)
                  go_roundw
                  case rel => exact ⟨m, j + 1, A7, c7, by omega, by go_num, by rw [HN1.out], Lib.hid (by rw [HF.out, HN1.out]; exact HO7.out), Grew.step (balloc (bdrewN hBq _) _) hg7 (fun g hg => (HQ.out.lt g hg).1)⟩
                  case measure => first | (simp [intOf]; done) | (simp [intOf]; omega)
end Go.Proofs.Ytdldfllllgogoaa
