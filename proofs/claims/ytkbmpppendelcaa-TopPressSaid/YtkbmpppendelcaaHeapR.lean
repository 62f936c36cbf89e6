/- The reference of huff: HuffCost. No condition. -/
import Derived.Test.YtkbmpppendelcaaHeapN
import Derived.Test.YtkbmpppendelcaaShelf
import Derived.Shelf.Sort.Plain
import Derived.Sort.OwnSortedInts
namespace Go.Proofs.Ytkbmpppendelcaa
open Go.RowKit
set_option linter.unusedSimpArgs false

theorem ho.elemI : ElemT Try.prog 29 3 1 8 := ElemT.of Try.underlying29 (z := .int .i64 0) (by kernel_rfl) rfl (by decide)
theorem ho.sorted (B g c : Nat) (l : List Int) (w : World) (h : Own w B 3 1 (some ⟨g, 0, none⟩) l.length c (ho.iv l)) (hl_ : l.length ≤ 1000) :
    Calls Try.prog 28 #[.slice (some ⟨g, 0, none⟩) l.length c] w fun e w' => e = .returned (.tuple #[]) ∧ Own w' B 3 1 (some ⟨g, 0, none⟩) l.length c (ho.iv (hl.sort l)) ∧ Stays w w' (fun k => k = g) := by
  rcases h.2 with ⟨h0, _⟩ | ⟨g2, cap, cur, hv, hg, hb, hn, hcap, hs, ht⟩
  · cases h0
  simp only [Value.slice.injEq, Option.some.injEq, Addr.mk.injEq, and_true, true_and] at hv
  obtain ⟨rfl, rfl⟩ := hv
  have hH := holds_of_blockI (ss := l) hb (by simpa [ho.iv] using ht)
  have hlt : g < w.heap.size := (Array.getElem?_eq_some_iff.1 hb).1
  refine (Any.sort_Ints sh191 g 0 c l w hH hlt (by omega)).mono ?_
  rintro e w' ⟨rfl, nn, os, rfl⟩
  have hsl : (l.mergeSort fun x y => decide (x ≤ y)).length = l.length := List.length_mergeSort l
  refine ⟨rfl, ?_, ?_⟩
  · exact ownsRow_sortedI hsl hg hb hn hcap hs
  · have hgb := grownBy_sortedI (w := w) (g := g) (n := nn) (os := os) (l.mergeSort fun x y => decide (x ≤ y)).toArray
    exact ⟨hgb.os, hgb.tape, hgb.output, hgb.size, fun k hk hne => hgb.block k hk (fun e => hne (by cases e; rfl))⟩
theorem hl.hcF_bd {S : Int} (hS : 0 ≤ S) : ∀ (n : Nat) (l : List Int), (∀ x ∈ l, 0 ≤ x) → l.sum ≤ S → 0 ≤ hl.hcF n l ∧ hl.hcF n l ≤ n * S
  | 0, _, _, _ => ⟨Int.le_refl _, by show (0 : Int) ≤ ((0 : Nat) : Int) * S; simp⟩
  | n + 1, l, h0, hs => by
    rw [hl.hcF]
    split
    · next x y r e =>
      have hp := hl.sort_perm l
      rw [e] at hp
      have hsum := hl.perm_sum hp
      rw [List.sum_cons, List.sum_cons] at hsum
      have hx := h0 x (hp.subset (by simp))
      have hy := h0 y (hp.subset (by simp))
      have hr : 0 ≤ r.sum := by
        have : ∀ m : List Int, (∀ z ∈ m, 0 ≤ z) → 0 ≤ m.sum := by
          intro m
          induction m with
          | nil => intro _; exact Int.le_refl _
          | cons z m ih => intro hz; rw [List.sum_cons]; have h1 := hz z (by simp); have h2 := ih (fun q hq => hz q (by simp [hq])); omega
        exact this r (fun z hz => h0 z (hp.subset (by simp [hz])))
      have ih := hl.hcF_bd hS n ((x + y) :: r) (fun z hz => by
        rcases List.mem_cons.1 hz with rfl | hz
        · omega
        · exact h0 z (hp.subset (by simp [hz]))) (by rw [List.sum_cons]; omega)
      have e2 : ((n + 1 : Nat) : Int) * S = (n : Int) * S + S := by rw [Int.natCast_add, Int.add_mul]; simp
      rw [e2]
      omega
    · have e2 : ((n + 1 : Nat) : Int) * S = (n : Int) * S + S := by rw [Int.natCast_add, Int.add_mul]; simp
      have e3 : 0 ≤ (n : Int) * S := Int.mul_nonneg (by omega) hS
      rw [e2]
      omega
theorem hl.hc_bd {S : Int} {l : List Int} (hS : 0 ≤ S) (h0 : ∀ x ∈ l, 0 ≤ x) (hs : l.sum ≤ S) (hl_ : l.length ≤ 64) : 0 ≤ hl.hc l ∧ hl.hc l ≤ 64 * S := by
  have h := hl.hcF_bd hS l.length l h0 hs
  have e : (l.length : Int) * S ≤ 64 * S := Int.mul_le_mul_of_nonneg_right (by omega) hS
  unfold hl.hc
  omega
/-- a round of the reference -/
theorem hl.round {xs : List Int} (h : 2 ≤ xs.length) : ∃ a b r, hl.sort xs = a :: b :: r ∧ hl.hc xs = (a + b) + hl.hc ((a + b) :: r) ∧ ((a + b) :: r).length + 1 = xs.length ∧ ((a + b) :: r).sum = xs.sum ∧ ((∀ x ∈ xs, 0 ≤ x) → (∀ x ∈ (a + b) :: r, 0 ≤ x) ∧ 0 ≤ a ∧ 0 ≤ b) := by
  have hp := hl.sort_perm xs
  have hs := hl.sort_sorted xs
  have hle := hp.length_eq
  match e : hl.sort xs with
  | [] => rw [e] at hle; simp at hle; omega
  | [x] => rw [e] at hle; simp at hle; omega
  | a :: b :: r =>
    rw [e] at hp hs
    have h1 := List.pairwise_cons.1 hs
    have h2 := List.pairwise_cons.1 h1.2
    have hsum := hl.perm_sum hp
    rw [List.sum_cons, List.sum_cons] at hsum
    refine ⟨a, b, r, rfl, hl.hc_two hp.symm (h1.1 b (by simp)) h2.1, by rw [e] at hle; simp at hle ⊢; omega, by rw [List.sum_cons]; omega, fun h0 => ?_⟩
    have ha := h0 a (hp.subset (by simp))
    have hb := h0 b (hp.subset (by simp))
    refine ⟨fun x hx => ?_, ha, hb⟩
    rcases List.mem_cons.1 hx with rfl | hx
    · omega
    · exact h0 x (hp.subset (by simp [hx]))
theorem Own.back1 {w : World} {base e n c : Nat} {A : Option Addr} {xs : List Value} (h : Own w base e 1 A n c xs) {k : Nat} (hk : k ≤ n) : Cells w (cutA A c k 1) (xs.drop k) := by
  have hl := h.len
  rcases h.2 with ⟨h1, h2⟩ | ⟨g, cap, cur, h1, h2, h3, h4, h5, h6, h7⟩
  · exact .inl (List.eq_nil_of_length_eq_zero (by rw [List.length_drop]; omega))
  · by_cases e0 : k = n
    · exact .inl (List.eq_nil_of_length_eq_zero (by rw [List.length_drop]; omega))
    · simp only [Value.slice.injEq] at h1
      obtain ⟨rfl, _, rfl⟩ := h1
      refine .inr ⟨g, k, by unfold cutA; rw [if_neg (by omega)]; simp [addr_add], fun j u hu => ?_⟩
      rw [List.getElem?_drop] at hu
      obtain ⟨g', e1, _, _, hc⟩ := h.cell hu
      cases e1
      exact hc
def hl.posv (counts : List Int) (k : Nat) : List Int := (hl.posTo counts k).map fun s => counts.getD s 0
theorem hl.posv_succ (counts : List Int) (k : Nat) : hl.posv counts (k + 1) = hl.posv counts k ++ if 0 < counts.getD k 0 then [counts.getD k 0] else [] := by
  unfold hl.posv
  rw [hl.posTo_succ, List.map_append]
  congr 1
  split <;> rfl
end Go.Proofs.Ytkbmpppendelcaa
