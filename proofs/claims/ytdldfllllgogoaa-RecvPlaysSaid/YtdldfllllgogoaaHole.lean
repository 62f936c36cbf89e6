/- Package hole: May and its reference; equal lists of ranges; the walk of the law HoleMays. No condition. -/
import Derived.Test.YtdldfllllgogoaaRngs
namespace Go.Proofs.Ytdldfllllgogoaa
open Go.RowKit

/-! ### The plain law -/
/-- where the range ahead of the i-th one ends -/
def endAt (done : Int) (l : List Rng) (i : Nat) : Int := if i = 0 then done else (l.getD (i - 1) Rng.z).hi
/-- the first n ranges lie one behind the other -/
def Chain (done : Int) (l : List Rng) (n : Nat) : Prop := ∀ i, i < n → endAt done l i < (l.getD i Rng.z).lo ∧ (l.getD i Rng.z).lo < (l.getD i Rng.z).hi
def HoleMay (done : Int) (l : List Rng) : Prop := 0 ≤ done ∧ done ≤ 1048576 ∧ l.length ≤ 16 ∧ Chain done l l.length ∧ endAt done l l.length ≤ 1048576
open Classical in
noncomputable def holeMayB (done : Int) (l : List Rng) : Bool := decide (HoleMay done l)
theorem holeMayB_true {done : Int} {l : List Rng} (h : HoleMay done l) : holeMayB done l = true := by simp [holeMayB, h]
theorem holeMayB_false {done : Int} {l : List Rng} (h : ¬ HoleMay done l) : holeMayB done l = false := by simp [holeMayB, h]
theorem endAt_succ (done : Int) (l : List Rng) (i : Nat) : endAt done l (i + 1) = (l.getD i Rng.z).hi := by simp [endAt]
theorem Chain.snoc {done : Int} {l : List Rng} {n : Nat} (h : Chain done l n) (h1 : endAt done l n < (l.getD n Rng.z).lo) (h2 : (l.getD n Rng.z).lo < (l.getD n Rng.z).hi) : Chain done l (n + 1) := by
  intro i hi
  rcases Nat.lt_or_ge i n with h' | h'
  · exact h i h'
  · obtain rfl : i = n := by omega
    exact ⟨h1, h2⟩
theorem Chain.le {done : Int} {l : List Rng} {n : Nat} (h : Chain done l n) : ∀ i, i ≤ n → endAt done l i ≤ endAt done l n := by
  induction n with
  | zero => intro i hi; obtain rfl : i = 0 := by omega
            exact Int.le_refl _
  | succ n ih =>
    intro i hi
    rcases Nat.lt_or_ge i (n + 1) with h' | h'
    · have := ih (fun j hj => h j (by omega)) i (by omega)
      have := h n (by omega)
      rw [endAt_succ]
      omega
    · obtain rfl : i = n + 1 := by omega
      exact Int.le_refl _

/-! ### The walks -/
set_option maxHeartbeats 1000000 in
theorem hole_May (done : Int) (l : List Rng) (A : Option Addr) (c : Nat) (w : World) (hl : SlRep Rng.rep w (· < w.heap.size) l A c) (hn : l.length ≤ 140737488351232) :
    Calls Try.prog 73 #[.int .i64 done, .slice A l.length c] w fun e w' => e = .returned (.bool (holeMayB done l)) ∧ Below w.heap.size w w' := by
  have HL := Lib.hid hl
  clear hl
  go_enter Try.func73, Try.ntmps73
  go_wp2
  go_loopw [5, 7, 11] (fun lo _ i wr => ∃ k : Nat, k ≤ l.length ∧ i = .int .i64 k ∧ lo = .int .i64 (endAt done l k) ∧ Hid (Chain done l k) ∧ Below w.heap.size w wr) (fun _ _ i _ => l.length - (intOf i).toNat)
  case atStart => exact ⟨0, Nat.zero_le _, rfl, rfl, Lib.hid (fun i hi => absurd hi (Nat.not_lt_zero i)), Below.refl _ _⟩
  case round =>
    obtain ⟨k, hk, rfl, rfl, HC, hB⟩ := hrel
    by_cases hlt : k < l.length
    · obtain ⟨b, o, rfl, hb, hc1, hc2⟩ := Rng.cells_at Rng.z (HL.out.below hB) hlt
      rename_i wr _
      have hbw : b < wr.heap.size := Nat.lt_of_lt_of_le hb hB.size
      have HS := Lib.hid (endAt_succ done l k)
      have HN : Hid (endAt done l k < (l.getD k Rng.z).lo → (l.getD k Rng.z).lo < (l.getD k Rng.z).hi → Chain done l (k + 1)) := Lib.hid (fun h1 h2 => HC.out.snoc h1 h2)
      have HF : Hid (¬ (endAt done l k < (l.getD k Rng.z).lo ∧ (l.getD k Rng.z).lo < (l.getD k Rng.z).hi) → holeMayB done l = false) := Lib.hid (fun h => holeMayB_false (fun hm => h (hm.2.2.2.1 k hlt)))
      clear HC HL
      generalize (l.getD k Rng.z).lo = x at *
      generalize (l.getD k Rng.z).hi = y at *
      generalize endAt done l k = e at *
      by_cases c1 : e < x
      · by_cases c2 : x < y
        · go_wp2
          go_roundw
          case rel => exact ⟨k + 1, by omega, by go_num, by rw [HS.out], Lib.hid (HN.out c1 c2), (by repeat (first | (with_reducible exact Below.refl _ _) | (with_reducible assumption) | (with_reducible refine bset ?_ ?_ _) | (with_reducible refine balloc ?_ _) | (with_reducible refine Below.drew ?_) | (with_reducible refine bdrewN ?_ _) | (with_reducible refine bnext ?_ (by with_reducible assumption)) | exact Nat.le_refl _ | (simp; done) | omega | (simp; omega)))⟩
          case measure => simp [intOf]; omega
        · go_wp2
          go_ret
          exact ⟨ret_bool (HF.out (by omega)).symm, (by repeat (first | (with_reducible exact Below.refl _ _) | (with_reducible assumption) | (with_reducible refine bset ?_ ?_ _) | (with_reducible refine balloc ?_ _) | (with_reducible refine Below.drew ?_) | (with_reducible refine bdrewN ?_ _) | (with_reducible refine bnext ?_ (by with_reducible assumption)) | exact Nat.le_refl _ | (simp; done) | omega | (simp; omega)))⟩
      · go_wp2
        go_ret
        exact ⟨ret_bool (HF.out (by omega)).symm, (by repeat (first | (with_reducible exact Below.refl _ _) | (with_reducible assumption) | (with_reducible refine bset ?_ ?_ _) | (with_reducible refine balloc ?_ _) | (with_reducible refine Below.drew ?_) | (with_reducible refine bdrewN ?_ _) | (with_reducible refine bnext ?_ (by with_reducible assumption)) | exact Nat.le_refl _ | (simp; done) | omega | (simp; omega)))⟩
    · obtain rfl : k = l.length := by omega
      have HT : Hid (0 ≤ done → done ≤ 1048576 → l.length ≤ 16 → endAt done l l.length ≤ 1048576 → holeMayB done l = true) := Lib.hid (fun h1 h2 h3 h4 => holeMayB_true ⟨h1, h2, h3, HC.out, h4⟩)
      have HF : Hid (¬ (0 ≤ done ∧ done ≤ 1048576 ∧ l.length ≤ 16 ∧ endAt done l l.length ≤ 1048576) → holeMayB done l = false) := Lib.hid (fun h => holeMayB_false (fun hm => h ⟨hm.1, hm.2.1, hm.2.2.1, hm.2.2.2.2⟩))
      clear HC HL
      generalize endAt done l l.length = e at *
      by_cases c1 : 0 ≤ done
      · by_cases c2 : e ≤ 1048576
        · by_cases c3 : done ≤ 1048576
          · by_cases c4 : l.length ≤ 16
            · go_wp2
              go_ret
              exact ⟨ret_bool (by rw [HT.out c1 c3 c4 c2]; simp; omega), (by repeat (first | (with_reducible exact Below.refl _ _) | (with_reducible assumption) | (with_reducible refine bset ?_ ?_ _) | (with_reducible refine balloc ?_ _) | (with_reducible refine Below.drew ?_) | (with_reducible refine bdrewN ?_ _) | (with_reducible refine bnext ?_ (by with_reducible assumption)) | exact Nat.le_refl _ | (simp; done) | omega | (simp; omega)))⟩
            · go_wp2
              go_ret
              exact ⟨ret_bool (by rw [HF.out (by omega)]; simp; omega), (by repeat (first | (with_reducible exact Below.refl _ _) | (with_reducible assumption) | (with_reducible refine bset ?_ ?_ _) | (with_reducible refine balloc ?_ _) | (with_reducible refine Below.drew ?_) | (with_reducible refine bdrewN ?_ _) | (with_reducible refine bnext ?_ (by with_reducible assumption)) | exact Nat.le_refl _ | (simp; done) | omega | (simp; omega)))⟩
          · go_wp2
            go_ret
            exact ⟨ret_bool (by rw [HF.out (by omega)]), (by repeat (first | (with_reducible exact Below.refl _ _) | (with_reducible assumption) | (with_reducible refine bset ?_ ?_ _) | (with_reducible refine balloc ?_ _) | (with_reducible refine Below.drew ?_) | (with_reducible refine bdrewN ?_ _) | (with_reducible refine bnext ?_ (by with_reducible assumption)) | exact Nat.le_refl _ | (simp; done) | omega | (simp; omega)))⟩
        · go_wp2
          go_ret
          exact ⟨ret_bool (by rw [HF.out (by omega)]), (by repeat (first | (with_reducible exact Below.refl _ _) | (with_reducible assumption) | (with_reducible refine bset ?_ ?_ _) | (with_reducible refine balloc ?_ _) | (with_reducible refine Below.drew ?_) | (with_reducible refine bdrewN ?_ _) | (with_reducible refine bnext ?_ (by with_reducible assumption)) | exact Nat.le_refl _ | (simp; done) | omega | (simp; omega)))⟩
      · go_wp2
        go_ret
        exact ⟨ret_bool (by rw [HF.out (by omega)]), (by repeat (first | (with_reducible exact Below.refl _ _) | (with_reducible assumption) | (with_reducible refine bset ?_ ?_ _) | (with_reducible refine balloc ?_ _) | (with_reducible refine Below.drew ?_) | (with_reducible refine bdrewN ?_ _) | (with_reducible refine bnext ?_ (by with_reducible assumption)) | exact Nat.le_refl _ | (simp; done) | omega | (simp; omega)))⟩

set_option maxHeartbeats 1000000 in
theorem ref_HoleMay (done : Int) (l : List Rng) (A : Option Addr) (c : Nat) (w : World) (hl : SlRep Rng.rep w (· < w.heap.size) l A c) (hn : l.length ≤ 140737488351232) :
    Calls Try.prog 75 #[.int .i64 done, .slice A l.length c] w fun e w' => e = .returned (.bool (holeMayB done l)) ∧ Below w.heap.size w w' := by
  by_cases hpre : 0 ≤ done ∧ done ≤ 1048576 ∧ l.length ≤ 16
  · obtain ⟨d1, d2, d3⟩ := hpre
    have HL := Lib.hid hl
    clear hl
    go_enter Try.func75, Try.ntmps75
    go_wp2
    go_loopw [5, 6, 7, 21] (fun _ _ _ i wr => ∃ k : Nat, k ≤ l.length ∧ i = .int .i64 k ∧ Hid (Chain done l k ∧ ∀ i, i < k → (l.getD i Rng.z).hi ≤ 1048576) ∧ Below w.heap.size w wr) (fun _ _ _ i _ => l.length - (intOf i).toNat)
    case atStart => exact ⟨0, Nat.zero_le _, rfl, Lib.hid ⟨fun i hi => absurd hi (Nat.not_lt_zero i), fun i hi => absurd hi (Nat.not_lt_zero i)⟩, Below.refl _ _⟩
    case round =>
      obtain ⟨k, hk, rfl, HC, hB⟩ := hrel
      by_cases hlt : k < l.length
      · obtain ⟨b, o, rfl, hb, hc1, hc2⟩ := Rng.cells_at Rng.z (HL.out.below hB) hlt
        rename_i wr _
        have hbw : b < wr.heap.size := Nat.lt_of_lt_of_le hb hB.size
        have HN : Hid (endAt done l k < (l.getD k Rng.z).lo → (l.getD k Rng.z).lo < (l.getD k Rng.z).hi → (l.getD k Rng.z).hi ≤ 1048576 → Chain done l (k + 1) ∧ ∀ i, i < k + 1 → (l.getD i Rng.z).hi ≤ 1048576) := Lib.hid (fun h1 h2 h3 => ⟨HC.out.1.snoc h1 h2, fun i hi => by
          rcases Nat.lt_or_ge i k with h' | h'
          · exact HC.out.2 i h'
          · obtain rfl : i = k := by omega
            exact h3⟩)
        have HF : Hid (¬ (endAt done l k < (l.getD k Rng.z).lo ∧ (l.getD k Rng.z).lo < (l.getD k Rng.z).hi ∧ (l.getD k Rng.z).hi ≤ 1048576) → holeMayB done l = false) := Lib.hid (fun h => holeMayB_false (fun hm => h ⟨(hm.2.2.2.1 k hlt).1, (hm.2.2.2.1 k hlt).2, by
          have h1 := hm.2.2.2.1.le (k + 1) (by omega)
          rw [endAt_succ] at h1
          have := hm.2.2.2.2
          omega⟩))
        have hz : k = 0 → endAt done l k = done := fun h => by subst h; rfl
        have hcz : 0 < k → wr.cell? ⟨b, o + (k - 1) * 2 + 1, none⟩ = some (.int .i64 (endAt done l k)) := fun h0 => by
          obtain ⟨b', o', hbo, _, _, hd⟩ := Rng.cells_at Rng.z (k := k - 1) (HL.out.below hB) (by omega)
          simp only [Option.some.injEq, Addr.mk.injEq, and_true] at hbo
          obtain ⟨rfl, rfl⟩ := hbo
          rw [hd]
          unfold endAt
          rw [if_neg (by omega)]
        clear HC HL
        generalize (l.getD k Rng.z).lo = x at *
        generalize (l.getD k Rng.z).hi = y at *
        generalize endAt done l k = e at *
        by_cases c0 : k = 0
        · obtain rfl : e = done := hz c0
          subst c0
          clear hz hcz
          simp only [Nat.zero_mul, Nat.add_zero] at hc1 hc2
          go_wp2
          all_goals first
            | (go_ret; exact ⟨ret_bool (HF.out (by omega)).symm, (by repeat (first | (with_reducible exact Below.refl _ _) | (with_reducible assumption) | (with_reducible refine bset ?_ ?_ _) | (with_reducible refine balloc ?_ _) | (with_reducible refine Below.drew ?_) | (with_reducible refine bdrewN ?_ _) | (with_reducible refine bnext ?_ (by with_reducible assumption)) | exact Nat.le_refl _ | (simp; done) | omega | (simp; omega)))⟩)
            | (go_roundw
               case rel => exact ⟨0 + 1, by omega, by go_num, Lib.hid (HN.out (by omega) (by omega) (by omega)), (by repeat (first | (with_reducible exact Below.refl _ _) | (with_reducible assumption) | (with_reducible refine bset ?_ ?_ _) | (with_reducible refine balloc ?_ _) | (with_reducible refine Below.drew ?_) | (with_reducible refine bdrewN ?_ _) | (with_reducible refine bnext ?_ (by with_reducible assumption)) | exact Nat.le_refl _ | (simp; done) | omega | (simp; omega)))⟩
               case measure => simp [intOf]; omega)
        · have hcz' := hcz (by omega)
          clear hz hcz
          have c0' : 0 < k := by omega
          go_wp2
          all_goals first
            | (go_ret; exact ⟨ret_bool (HF.out (by omega)).symm, (by repeat (first | (with_reducible exact Below.refl _ _) | (with_reducible assumption) | (with_reducible refine bset ?_ ?_ _) | (with_reducible refine balloc ?_ _) | (with_reducible refine Below.drew ?_) | (with_reducible refine bdrewN ?_ _) | (with_reducible refine bnext ?_ (by with_reducible assumption)) | exact Nat.le_refl _ | (simp; done) | omega | (simp; omega)))⟩)
            | (go_roundw
               case rel => exact ⟨k + 1, by omega, by go_num, Lib.hid (HN.out (by omega) (by omega) (by omega)), (by repeat (first | (with_reducible exact Below.refl _ _) | (with_reducible assumption) | (with_reducible refine bset ?_ ?_ _) | (with_reducible refine balloc ?_ _) | (with_reducible refine Below.drew ?_) | (with_reducible refine bdrewN ?_ _) | (with_reducible refine bnext ?_ (by with_reducible assumption)) | exact Nat.le_refl _ | (simp; done) | omega | (simp; omega)))⟩
               case measure => simp [intOf]; omega)
      · obtain rfl : k = l.length := by omega
        have HT : Hid (holeMayB done l = true) := Lib.hid (holeMayB_true ⟨d1, d2, d3, HC.out.1, by
          unfold endAt
          split
          · exact d2
          · exact HC.out.2 _ (by omega)⟩)
        clear HC HL
        go_wp2
        go_ret
        exact ⟨ret_bool HT.out.symm, (by repeat (first | (with_reducible exact Below.refl _ _) | (with_reducible assumption) | (with_reducible refine bset ?_ ?_ _) | (with_reducible refine balloc ?_ _) | (with_reducible refine Below.drew ?_) | (with_reducible refine bdrewN ?_ _) | (with_reducible refine bnext ?_ (by with_reducible assumption)) | exact Nat.le_refl _ | (simp; done) | omega | (simp; omega)))⟩
  · have hf : holeMayB done l = false := holeMayB_false (fun hm => hpre ⟨hm.1, hm.2.1, hm.2.2.1⟩)
    rw [hf]
    clear hl hf
    by_cases c1 : 0 ≤ done
    · by_cases c2 : done ≤ 1048576
      · have c3 : 16 < (l.length : Int) := by omega
        go_enter Try.func75, Try.ntmps75
        go_wp2
        go_ret
        exact ⟨rfl, (by repeat (first | (with_reducible exact Below.refl _ _) | (with_reducible assumption) | (with_reducible refine bset ?_ ?_ _) | (with_reducible refine balloc ?_ _) | (with_reducible refine Below.drew ?_) | (with_reducible refine bdrewN ?_ _) | (with_reducible refine bnext ?_ (by with_reducible assumption)) | exact Nat.le_refl _ | (simp; done) | omega | (simp; omega)))⟩
      · go_enter Try.func75, Try.ntmps75
        go_wp2
        go_ret
        exact ⟨rfl, (by repeat (first | (with_reducible exact Below.refl _ _) | (with_reducible assumption) | (with_reducible refine bset ?_ ?_ _) | (with_reducible refine balloc ?_ _) | (with_reducible refine Below.drew ?_) | (with_reducible refine bdrewN ?_ _) | (with_reducible refine bnext ?_ (by with_reducible assumption)) | exact Nat.le_refl _ | (simp; done) | omega | (simp; omega)))⟩
    · go_enter Try.func75, Try.ntmps75
      go_wp2
      go_ret
      exact ⟨rfl, (by repeat (first | (with_reducible exact Below.refl _ _) | (with_reducible assumption) | (with_reducible refine bset ?_ ?_ _) | (with_reducible refine balloc ?_ _) | (with_reducible refine Below.drew ?_) | (with_reducible refine bdrewN ?_ _) | (with_reducible refine bnext ?_ (by with_reducible assumption)) | exact Nat.le_refl _ | (simp; done) | omega | (simp; omega)))⟩

end Go.Proofs.Ytdldfllllgogoaa
